import Derived.Test.YthcabnfcgjnlnaaGreatDoorB01
import Derived.Lib.MapLaws
import Derived.Lib.ValidLaws
import Derived.Lib.TrimUEq
import Derived.Lib.RuneBytes
import Derived.RangeFuncFrom
import Derived.RangeFuncOwn
import Derived.RangeFuncBox
import Derived.Lib.OthersKept
import Derived.Laws.RangeAny
import Derived.RangeFuncNested
import Derived.RangeFuncBound
import Derived.RangeFuncCalls
import Derived.RangeFuncLeaves
import Derived.Shelf.Abstract
import Derived.Shelf.RegionOpen
import Derived.WalkKit
import Derived.OwnWalkIn
import Derived.TacticsInMore
import Derived.LoopNIn
import Derived.LoopIn
import Derived.Test.YthcabnfcgjnlnaaGreatDoorProg
import Derived.Laws.IdiomStrings
import Derived.Outline
import Derived.Orders
import Derived.Maps.AppendAt
import Derived.OwnWalk
import Derived.IntWalk
import Derived.Deep.RegionWith
import Derived.Deep.DrawnRows
set_option linter.unusedVariables false
set_option linter.unusedSimpArgs false
namespace Go.Proofs.YthcabnfcgjnlnaaGreatDoor.Ru
open Go.Lib
theorem enc_same {p : Nat} (h : scalarB (p : Int) = true) : encodeRuneZ (p : Int) = encI (p : Int) := by
 have hs := scalar_iff.1 h;unfold encI;by_cases h1 : p < 128
 ·rw [if_pos (by omega), encodeRuneZ_one (by omega) (by omega)]
 ·by_cases h2 : p < 2048
  ·rw [if_neg (by omega), if_pos (by omega), encodeRuneZ_two (by omega) (by omega)]
  ·by_cases h3 : p < 65536
   ·rw [if_neg (by omega), if_neg (by omega), if_pos (by omega), encodeRuneZ_three (by omega)]
   ·rw [if_neg (by omega), if_neg (by omega), if_neg (by omega), encodeRuneZ_four (by omega) (by omega)]
theorem encodeRune_same {p : Nat} (h : scalarB (p : Int) = true) : encodeRune (p : Int) = encL (p : Int) := by
 unfold encodeRune encL;rw [enc_same h]
set_option maxRecDepth 100000 in
theorem decodeN_scalar {n b0 b1 b2 b3 : Nat} (h : ¬ ((decodeN n b0 b1 b2 b3).1 = 65533 /\ (decodeN n b0 b1 b2 b3).2 = 1)) : scalarB ((decodeN n b0 b1 b2 b3).1 : Int) = true := by
 rw [scalar_iff];unfold decodeN at h |-;split
 ·simp only; omega
 ·rename_i h0
  rw [if_neg h0] at h;split
  ·rename_i h1
   rw [if_pos h1] at h;split
   ·simp only; omega
   ·rename_i h2; rw [if_neg h2] at h; exact absurd ⟨rfl, rfl⟩ h
  ·rename_i h1
   rw [if_neg h1] at h;split
   ·rename_i h2
    rw [if_pos h2] at h;split
    ·rename_i h3; simp only; omega
    ·rename_i h3; rw [if_neg h3] at h; exact absurd ⟨rfl, rfl⟩ h
   ·rename_i h2
    rw [if_neg h2] at h;split
    ·rename_i h3
     rw [if_pos h3] at h;split
     ·rename_i h4; simp only; omega
     ·rename_i h4; rw [if_neg h4] at h; exact absurd ⟨rfl, rfl⟩ h
    ·rename_i h3; rw [if_neg h3] at h; exact absurd ⟨rfl, rfl⟩ h
theorem first_of_decode {l : List UInt8} (hne : l ≠ []) (h : ¬ ((decodeL l).1 = 65533 /\ (decodeL l).2 = 1)) : firstL l = some ((decodeL l).1, (decodeL l).2) := by
 have hsc : scalarB ((decodeL l).1 : Int) = true := by
  rw [decodeL_N] at h |-;exact decodeN_scalar h
 have he := encode_decode l hne h;rw [encodeRune_same hsc] at he
 have hl : (encL ((decodeL l).1 : Int)).length = (decodeL l).2 := by
  rw [he, List.length_take];have := decodeL_le l hne;omega
 have h1 := first_enc hsc (l.drop (decodeL l).2);rw [hl] at h1;rwa [he, List.take_append_drop] at h1
set_option maxRecDepth 100000 in
theorem decode_enc {p : Nat} (h : scalarB (p : Int) = true) (rest : List UInt8) : decodeL (encL (p : Int) ++ rest) = (p, (encL (p : Int)).length) := by
  have hs := scalar_iff.1 h;rw [decodeL_N];by_cases h1 : p < 128
  · have e : encL (p : Int) = [UInt8.ofNat p] := by unfold encL encI; rw [if_pos (by omega)]; simp
    rw [e];simp only [List.cons_append, List.nil_append, List.getD_cons_zero, u8_nat (by omega : p < 256)];unfold decodeN;rw [if_pos (by omega)];rfl
  · by_cases h2 : p < 2048
    · have e : encL (p : Int) = [UInt8.ofNat (192 + p / 64), UInt8.ofNat (128 + p % 64)] := by
        unfold encL encI;rw [if_neg (by omega), if_pos (by omega)];simp only [List.map_cons, List.map_nil];rw [show (192 + (p : Int) / 64).toNat = 192 + p / 64 by omega, show (128 + (p : Int) % 64).toNat = 128 + p % 64 by omega]
      rw [e];simp only [List.cons_append, List.nil_append, List.getD_cons_zero, List.getD_cons_succ, List.length_cons, u8_nat (by omega : 192 + p / 64 < 256), u8_nat (by omega : 128 + p % 64 < 256)];unfold decodeN;rw [if_neg (by omega), if_pos (by omega), if_pos (by omega)];refine Prod.ext ?_ ?_
      · show (192 + p / 64) % 32 * 64 + (128 + p % 64) % 64 = p
        omega
      · rfl
    · by_cases h3 : p < 65536
      · have e : encL (p : Int) = [UInt8.ofNat (224 + p / 4096), UInt8.ofNat (128 + p / 64 % 64), UInt8.ofNat (128 + p % 64)] := by
          unfold encL encI;rw [if_neg (by omega), if_neg (by omega), if_pos (by omega)];simp only [List.map_cons, List.map_nil];rw [show (224 + (p : Int) / 4096).toNat = 224 + p / 4096 by omega, show (128 + (p : Int) / 64 % 64).toNat = 128 + p / 64 % 64 by omega, show (128 + (p : Int) % 64).toNat = 128 + p % 64 by omega]
        rw [e];simp only [List.cons_append, List.nil_append, List.getD_cons_zero, List.getD_cons_succ, List.length_cons, u8_nat (by omega : 224 + p / 4096 < 256), u8_nat (by omega : 128 + p / 64 % 64 < 256), u8_nat (by omega : 128 + p % 64 < 256)];unfold decodeN;rw [if_neg (by omega), if_neg (by omega), if_pos (by omega)];have ec : (224 + p / 4096) % 16 * 4096 + (128 + p / 64 % 64) % 64 * 64 + (128 + p % 64) % 64 = p := by omega
        rw [ec, if_pos (by omega)];rfl
      · have e : encL (p : Int) = [UInt8.ofNat (240 + p / 262144), UInt8.ofNat (128 + p / 4096 % 64), UInt8.ofNat (128 + p / 64 % 64), UInt8.ofNat (128 + p % 64)] := by
          unfold encL encI;rw [if_neg (by omega), if_neg (by omega), if_neg (by omega)];simp only [List.map_cons, List.map_nil];rw [show (240 + (p : Int) / 262144).toNat = 240 + p / 262144 by omega, show (128 + (p : Int) / 4096 % 64).toNat = 128 + p / 4096 % 64 by omega, show (128 + (p : Int) / 64 % 64).toNat = 128 + p / 64 % 64 by omega, show (128 + (p : Int) % 64).toNat = 128 + p % 64 by omega]
        rw [e];simp only [List.cons_append, List.nil_append, List.getD_cons_zero, List.getD_cons_succ, List.length_cons, u8_nat (by omega : 240 + p / 262144 < 256), u8_nat (by omega : 128 + p / 4096 % 64 < 256), u8_nat (by omega : 128 + p / 64 % 64 < 256), u8_nat (by omega : 128 + p % 64 < 256)];unfold decodeN;rw [if_neg (by omega), if_neg (by omega), if_neg (by omega), if_pos (by omega)];have ec : (240 + p / 262144) % 8 * 262144 + (128 + p / 4096 % 64) % 64 * 4096 + (128 + p / 64 % 64) % 64 * 64 + (128 + p % 64) % 64 = p := by omega
        rw [ec, if_pos (by omega)];rfl
theorem decode_of_first {l : List UInt8} {p n : Nat} (h : firstL l = some (p, n)) : decodeL l = (p, n) /\ ¬ (p = 65533 /\ n = 1) := by
 obtain ⟨f1, f2, f3, f4, f5⟩ := firstL_some h;have hl : (encL (p : Int)).length = n := by rw [f5, List.length_take]; omega
 have h1 := decode_enc f4 (l.drop n);rw [hl, f5, List.take_append_drop] at h1;refine ⟨h1, ?_⟩;rintro ⟨rfl, rfl⟩;have : (encL ((65533 : Nat) : Int)).length = 3 := by decide
 omega
theorem valid_points : ∀ (n : Nat) (l : List UInt8), l.length <= n -> validGoD n l = (points l).isSome
 | 0, l, h => by
  have : l = [] := List.eq_nil_of_length_eq_zero (by omega);subst this;rfl
 | n + 1, l, h => by
  unfold validGoD;by_cases h0 : l = []
  ·subst h0; rfl
  ·rw [if_neg h0];by_cases he : (decodeL l).1 = 65533 /\ (decodeL l).2 = 1
   ·rw [if_pos he]
    cases hf : firstL l with
    | none => rw [points_none h0 hf]; rfl
    | some pn =>
     obtain ⟨p, m⟩ := pn;obtain ⟨h1, h2⟩ := decode_of_first hf;rw [h1] at he;exact absurd he h2
   ·rw [if_neg he];have hf := first_of_decode h0 he;rw [points_some hf, valid_points n _ (by have := decodeL_width l; rw [List.length_drop]; omega)]
    cases points (l.drop (decodeL l).2) <;> rfl
theorem validD_points (l : List UInt8) : validD l = (points l).isSome := valid_points _ l (Nat.le_refl _)
end Go.Proofs.YthcabnfcgjnlnaaGreatDoor.Ru
namespace Go.Proofs.YthcabnfcgjnlnaaGreatDoor
section
open Go Go.RowKit
variable {F : Fence} {n : Nat} {P : Program}
def SeqNext {α : Type} (F : Fence) (n : Nat) (P : Program) (g : Nat) (lb : Array Value) (encs : α -> Array Value) (Nx : List α -> α -> Prop) (S : List α -> Prop) (w : World) : Prop :=
 ∀ (l : Nat) (J : List α -> World -> Prop) (W : World), Below w.heap.size w W -> AbidesFrom W.heap.size J ->
  (∀ pre x W1, J pre W1 -> Nx pre x -> YieldAt F (n - 1) P l (encs x) W1 fun e W' => e = .returned (.bool true) /\ J (pre ++ [x]) W' /\ KeepsWalks W1 W') ->
  J [] W -> CallsIn F n P g (#[.func (.yield l) #[] #[]] ++ lb) W fun e W' => (∃ v, e = .returned v) /\ ∃ xs, S xs /\ J xs W'
def GoesOn (R : World -> Prop) (W : World) : Exit -> Act -> World -> Prop
 | .normal, _, W' => KeepsOthers W W' /\ KeepsWalks W W' /\ R W'
 | _, _, _ => False
structure Books (rec : LoopState -> Option Code -> Loop) (b : Nat) (W : World) : Prop where
 loop : W.heap[b + 1]? = some (.loop (rec .ready none))
 defs : W.heap[b]? = some (.deferred (some []))
theorem Books.lt {rec : LoopState -> Option Code -> Loop} {b : Nat} {W : World} (h : Books rec b W) : b + 1 < W.heap.size := (Array.getElem?_eq_some_iff.1 h.loop).1
theorem Books.step {rec : LoopState -> Option Code -> Loop} {b : Nat} {A B : World} {row : Option Nat} (h : Books rec b A) (hg : A.grownBy B row) (hr : ∀ r, row = some r -> ∃ o : Obj, A.heap[r]? = some o /\ o.isWalk = true) : Books rec b B :=
 ⟨(grownBy_keeps hg hr h.loop rfl).trans h.loop, (grownBy_keeps hg hr h.defs rfl).trans h.defs⟩
theorem wpIn_range_next {α : Type} {g : Operand} {ps : Array Tmp} {assign body : Code} {Q : Exit -> Act -> World -> Prop} {a : Act} {w : World}
  (hro : F.round = none) (h1 : 1 <= n) {gf : Nat} {lb : Array Value} (hg : a.eval g = .func (.func gf) #[] lb) (hFg : F.fn gf) (eg : ∀ args w, (callFunc gf args).run P w = .ok (.enter gf args) w)
  {encs : α -> Array Value} {Nx : List α -> α -> Prop} {S : List α -> Prop} {w0 : World} (hseq : SeqNext F (n - 1) P gf lb encs Nx S w0) (hb0 : Below w0.heap.size w0 w) (hps : ∀ x, (encs x).size = ps.size)
  (I : List α -> World -> Prop) (hI : OwnFrom w.heap.size I) (h0 : I [] w) (a₁ : α -> Act)
  (hassign : ∀ (l : Nat) (x : α) (W : World) (K : Act -> World -> Prop), K (a₁ x) W ->
   assign.wpIn (F.inRound l) (n - 1 - 1) P (Exit.then K (fun _ _ _ => False)) { tmps := (ps.zip (encs x)).foldl (fun t (p, v) => t.setIfInBounds p v) a.tmps, defers := [] } W)
  (hbody : ∀ (l : Nat) (pre : List α) (x : α) (W : World), I pre W -> Nx pre x -> body.wpIn (F.inRound l) (n - 1 - 1) P (GoesOn (I (pre ++ [x])) W) (a₁ x) W)
  (hdone : ∀ (D : Nat) (xs : List α) (W : World), w.heap.size <= D -> S xs -> I xs W -> W.heap[D]? = some (.deferred (some [])) -> Q .normal { a with defers := { target := .collected D, args := #[] } :: a.defers } W) :
  (Code.rangeFunc g ps assign body).wpIn F n P Q a w := by
 refine wpIn_rangeFunc fun fn hfn => ?_
 rw [hro];obtain ⟨rec, hrec⟩ : ∃ rec : LoopState -> Option Code -> Loop, rec = fun st pe => { state := st, pending := pe, fn, tmps := a.tmps, params := ps, assign, body, defers := w.heap.size } := ⟨_, rfl⟩
 obtain ⟨W1, hW1⟩ : ∃ W1, W1 = (w.alloc (.deferred (some []))).alloc (.loop (rec .ready none)) := ⟨_, rfl⟩;have hz1 : W1.heap.size = w.heap.size + 2 := by rw [hW1]; simp
 have hB1 : Books rec w.heap.size W1 := by
  subst hW1;refine ⟨?_, ?_⟩
  ·have := World.alloc_heap_new (w.alloc (.deferred (some []))) (.loop (rec .ready none));rwa [World.size_alloc] at this
  ·exact (Below.heap_alloc _ _ _ (by simp)).trans (World.alloc_heap_new w _)
 have hI1 : I [] W1 := by subst hW1; exact hI.alloc _ (hI.alloc _ h0)
 have hb1 : Below w0.heap.size w0 W1 := by
  subst hW1;exact hb0.trans ((((Below.refl _ w).alloc (Nat.le_refl _) _).alloc (by simp) _).mono hb0.size)
 have hwalk : ∀ {A : World} {row : Option Nat}, (∀ r, row = some r -> W1.heap.size <= r /\ ∃ o : Obj, A.heap[r]? = some o /\ o.isWalk = true) -> ∀ r, row = some r -> w.heap.size <= r /\ ∃ o : Obj, A.heap[r]? = some o /\ o.isCells = false :=
  fun hr r e => by
   obtain ⟨hB, o, ho, hw⟩ := hr r e;exact ⟨by omega, o, ho, Obj.not_cells_of_walk hw⟩
 refine ⟨w.heap.size + 1, [{ target := .collected w.heap.size, args := #[] }], W1, { target := .fn (.func gf) lb, args := #[.func (.yield (w.heap.size + 1)) #[] #[]] }, W1, gf,
  #[.func (.yield (w.heap.size + 1)) #[] #[]] ++ lb, W1, ?_, ?_, ?_, ?_, fun _ => h1, ?_⟩
 ·rw [hW1, hrec]; exact run_enterLoop_outer _ _ _ _ _
 ·simp only [resolve, hg];simp [go_sem]
 ·intro f' hf';simp [Target.leads] at hf'
  subst hf';exact hFg
 ·simp [invoke, go_sem, eg]
 refine (hseq (w.heap.size + 1) (fun pre W => I pre W /\ Books rec w.heap.size W) W1 hb1
  (fun s A B row hs hg' hr => ⟨hI s A B row hs.1 hg' (hwalk hr), hs.2.step hg' fun r e => (hr r e).2⟩) ?_ ⟨hI1, hB1⟩).mono ?_
 ·rintro pre x W ⟨hi, hbk⟩ hnx;have hlt := hbk.lt;have hl := hbk.loop;have hy := run_yield (P := P) (args := encs x) hl (by rw [hrec]; exact hps x);rw [hrec] at hy;refine ⟨fn, _, assign, body, hy, roundIn_of_wpIn hfn (hassign _ x W _ ⟨_, run_beginRound hl (by rw [hrec]), ?_⟩)⟩;obtain ⟨Wb, hWb⟩ : ∃ Wb, Wb = W.putObj (w.heap.size + 1) (.loop { rec .ready none with state := .busy }) := ⟨_, rfl⟩;rw [<- hWb];have hl2 : Wb.heap[w.heap.size + 1]? = some (.loop { rec .ready none with state := .busy }) := by rw [hWb]; exact World.putObj_heap_same hlt
  have hk2 : Wb.heap[w.heap.size]? = some (.deferred (some [])) := by rw [hWb]; exact (World.putObj_heap_other (by omega)).trans hbk.defs
  have hw2 : KeepsWalks W Wb := by rw [hWb]; exact KeepsWalks.putObj _ hl rfl
  have hi2 : I pre Wb := by rw [hWb]; exact hI.putObj _ hi (by omega) hl rfl
  refine wpIn_mono (hbody _ pre x Wb hi2 hnx) ?_;rintro e a3 W3 hp
  cases e with
  | normal =>
   obtain ⟨ho3, hk3, hi3⟩ := hp;have hl3 := ho3.same _ _ hl2 rfl;have hr := run_endRound (P := P) none hl3;rw [hrec] at hr;refine ⟨_, _, hr, rfl, ⟨hI.putObj _ hi3 (by omega) hl3 rfl, ?_, (World.putObj_heap_other (by omega)).trans (ho3.same _ _ hk2 rfl)⟩, (hw2.trans hk3).trans (KeepsWalks.putObj _ hl3 rfl)⟩;rw [hrec];exact World.putObj_heap_same (Array.getElem?_eq_some_iff.1 hl3).1
  | ret => exact hp.elim
  | exit id => exact hp.elim
  | goto t => exact hp.elim
  | panic ch => exact hp.elim
  | outgrown => exact hp.elim
 ·rintro e W2 ⟨⟨v, rfl⟩, xs, hS, hi, hbk⟩;have hr := run_endLoop (P := P) hbk.loop (by rw [hrec]; simp);rw [hrec] at hr;exact ⟨none, _, hr, hdone _ xs _ (Nat.le_refl _) hS (hI.putObj _ hi (by omega) hbk.loop rfl) ((World.putObj_heap_other (by omega)).trans hbk.defs)⟩
end
section
open Go.RowKit Go.Shelf Ru
attribute [local go_sem] Oper.semAt_some
def ixs (o : Nat) : List Nat -> List (Nat × Nat)
 | [] => []
 | p :: t => (o, p) :: ixs (o + (encL (p : Int)).length) t
theorem ixs_snd (d : List Nat) : ∀ o, (ixs o d).map (·.2) = d := by
 induction d with
 | nil => intro o; rfl
 | cons p t ih => intro o; simp [ixs, ih]
theorem ixs_length (d : List Nat) : ∀ o, (ixs o d).length = d.length := by
 induction d with
 | nil => intro o; rfl
 | cons p t ih => intro o; simp [ixs, ih]
theorem iterPos_at {w : World} {k : Nat} {s : ByteArray} {p : Nat} (h : w.heap[k]? = some (.stringIter s p)) : w.iterPos k = p := by simp [World.iterPos, h]
theorem iterAt_grown (w : World) (k : Nat) (s : ByteArray) (pos : Nat) : w.grownBy (w.iterAt k s pos) (some k) :=
 ⟨rfl, rfl, rfl, by rw [Lib.iterAt_size]; exact Nat.le_refl _, fun j _ hj => Lib.iterAt_other w k j s pos (fun e => hj (by rw [e]))⟩
def Nxt (d : List Nat) (pre : List (Nat × Nat)) (x : Nat × Nat) : Prop := ∃ rest, ixs 0 d = pre ++ x :: rest
set_option maxRecDepth 100000 in
set_option maxHeartbeats 2000000 in
theorem scalars1_in (F : Fence) (n : Nat) (hf : F.fn 155) (hro : F.round = none) (hn : 1 <= n) (l Bs : Nat) (s : ByteArray) (d : List Nat) (hs : s.size <= 9223372036854775807) (hd : points s.data.toList = some d) (J : List (Nat × Nat) -> World -> Prop)
  (W : World) (hJ : AbidesFrom W.heap.size J)
  (hY : ∀ pre x W1, J pre W1 -> Nxt d pre x -> YieldAt F (n - 1) Tryz.prog l #[.int .i64 (x.1 : Int), .int .i64 (x.2 : Int)] W1 fun e W' => e = .returned (.bool true) /\ J (pre ++ [x]) W' /\ KeepsWalks W1 W')
  (hBs : W.cell? ⟨Bs, 0, none⟩ = some (.string s)) (h0 : J [] W) :
  CallsIn F n Tryz.prog 155 #[.func (.yield l) #[] #[], .pointer (some ⟨Bs, 0, none⟩)] W fun e W' => (∃ v, e = .returned v) /\ ∃ ys, ys = ixs 0 d /\ J ys W' := by
 have HSC : Hid (Sc d) := points_sc hd;have HE : Hid (encS d = s.data.toList) := encS_points hd;have HJ := hI hJ; clear hJ hd
 refine callsIn_of_wp Tryz.func155 rfl hf ?_ hro;simp only [Tryz.ntmps155, List.size_toArray, List.length_cons, List.length_nil, Nat.reduceAdd, Nat.reduceSub, Array.replicate_succ, Array.replicate_zero, List.push_toArray, List.append_toArray, List.nil_append, List.cons_append];gi_wp2
 gi_loopw [3, 4] (fun _ _ wr => ∃ (pre : List (Nat × Nat)) (rest : List Nat) (o : Nat), Hid (ixs 0 d = pre ++ ixs o rest) /\ Hid (Sc rest) /\ Hid (s.data.toList.drop o = encS rest) /\ o <= s.size /\ wr.heap[W.heap.size]? = some (.stringIter s o) /\ J pre wr)
  (fun _ _ wr => s.size - wr.iterPos W.heap.size)
 case atStart =>
  refine ⟨[], d, 0, rfl, HSC, (by show _ = _; rw [HE.out]; rfl), Nat.zero_le _, World.iter_heap W s 0, ?_⟩;exact HJ.out [] W _ none h0 (World.grownBy_alloc W _ none) (fun r e => by cases e)
 case round =>
  obtain ⟨pre, rest, o, HX, HSR, HD, ho, hit, hJs⟩ := hrel;have hpos := iterPos_at hit
  cases rest with
  | nil =>
   have he : ¬ o < s.size := by
    have h1 := congrArg List.length HD.out;rw [List.length_drop, encS_nil, <- Lib.size_eq] at h1;simp at h1
    omega
   have hnx : ∀ ty, (Instr.next (.pointer (some ⟨W.heap.size, 0, none⟩)) true ty).run Tryz.prog wr = .ok (.tuple #[.bool false]) wr := fun ty => by
    simp [Instr.next, getObj, Sem.run, hit, he]
   have HYS : Hid (ixs 0 d = pre) := by
    show _ = _;rw [HX.out];simp [ixs]
   clear hpos hit;gi_wp2
   go_end0
   exact ⟨⟨_, rfl⟩, pre, HYS.out.symm, hJs⟩
  | cons p t =>
   have hps := HSR.out p (by simp);have hel := (encL_len (p : Int)).1
   have hlt : o + (encL (p : Int)).length <= s.size := by
    have h1 := congrArg List.length HD.out;rw [List.length_drop, encS_cons, <- Lib.size_eq, List.length_append] at h1;omega
   have hdec : Utf8.decode s o = (p, (encL (p : Int)).length) := by
    rw [<- Lib.decodeL_drop, HD.out, encS_cons];exact decode_enc hps _
   have hpl := scalar_iff.1 hps
   have hnx : ∀ ty, (Instr.next (.pointer (some ⟨W.heap.size, 0, none⟩)) true ty).run Tryz.prog wr = .ok (.tuple #[.bool true, .int .i64 o, .int .i32 (p : Int)]) (wr.iterAt W.heap.size s (o + (encL (p : Int)).length)) := fun ty => by
    have := Lib.run_next_any_at (P := Tryz.prog) wr W.heap.size s o ty hit (by omega);rw [hdec] at this;exact this
   have hit2 := Lib.iterAt_heap wr W.heap.size s o (o + (encL (p : Int)).length) hit;have hJ2 : J pre (wr.iterAt W.heap.size s (o + (encL (p : Int)).length)) := HJ.out pre wr _ (some W.heap.size) hJs (iterAt_grown _ _ _ _) (fun r e => by cases e; exact ⟨Nat.le_refl _, _, hit, rfl⟩)
   have HX2 : Hid (ixs 0 d = (pre ++ [(o, p)]) ++ ixs (o + (encL (p : Int)).length) t) := by
    show _ = _;rw [HX.out];simp [ixs]
   have HD2 : Hid (s.data.toList.drop (o + (encL (p : Int)).length) = encS t) := by
    show _ = _;rw [<- List.drop_drop, HD.out, encS_cons, List.drop_left]
   have HSR2 : Hid (Sc t) := fun q hq => HSR.out q (by simp [hq])
   have hprel : Nxt d pre (o, p) := ⟨ixs (o + (encL (p : Int)).length) t, HX.out⟩;obtain ⟨W1, hW1⟩ : ∃ W1, W1 = wr.iterAt W.heap.size s (o + (encL (p : Int)).length) := ⟨_, rfl⟩;rw [<- hW1] at hnx hit2 hJ2;obtain ⟨fn, tmps, assign, body, hy, hR⟩ := hY pre (o, p) W1 hJ2 hprel;dsimp only at hy
   have hw64 : IntKind.i64.wrap (p : Int) = (p : Int) := by rw [IntKind.wrap_i64]; omega
   clear hW1 hit hdec hJs;gi_wp2
   refine hR.mono ?_;rintro e W3 ⟨rfl, hJ3, hk3⟩;have hit3 := hk3.same _ _ hit2 rfl;gi_wp2
   go_roundw
   case rel => exact ⟨_, t, _, HX2, HSR2, HD2, hlt, hit3, hJ3⟩
   case measure => rw [iterPos_at hit3, hpos]; omega
def encX (x : Nat × Nat) : Array Value := #[.int .i64 (x.1 : Int), .int .i64 (x.2 : Int)]
theorem scalars_next (F : Fence) (n : Nat) (hf : F.fn 155) (hro : F.round = none) (hn : 1 <= n) (Bs : Nat) (s : ByteArray) (d : List Nat) (hs : s.size <= 9223372036854775807) (hd : points s.data.toList = some d) (w : World)
  (hB : Bs < w.heap.size) (hc : w.cell? ⟨Bs, 0, none⟩ = some (.string s)) :
  SeqNext F n Tryz.prog 155 #[.pointer (some ⟨Bs, 0, none⟩)] encX (Nxt d) (fun ys => ys = ixs 0 d) w := fun l J W hW hJ hY h0 =>
 scalars1_in F n hf hro hn l Bs s d hs hd J W hJ hY ((hW.cell (p := ⟨Bs, 0, none⟩) hB).trans hc) h0
set_option maxHeartbeats 400000 in
theorem scalars_any (s : ByteArray) (w : World) : Calls Tryz.prog 137 #[.string s] w fun e w' => e = .returned (.func (.func 155) #[] #[.pointer (some ⟨w.heap.size, 0, none⟩)]) /\ w' = w.alloc (.cells #[.string s] 9) := by
 go_enter Tryz.func137, Tryz.ntmps137
 go_wp2;go_ret;exact ⟨rfl, rfl⟩
end
section
open Go.RowKit
theorem own_base {w : World} {base base' : Nat} {e : TypeId} {size : Nat} {v : Value} {n : Nat} {xs : List Value} (h : w.ownsRow base e size v n xs) (hb : base' <= base) : w.ownsRow base' e size v n xs := by
 refine ⟨h.1, ?_⟩;rcases h.2 with h2 | ⟨g, cap, cur, hv, hg, r⟩
 ·exact .inl h2
 ·exact .inr ⟨g, cap, cur, hv, Nat.le_trans hb hg, r⟩
def Apart (u v : Value) : Prop := ∀ b, u.ownBlock = some b -> v.ownBlock ≠ some b
theorem Apart.symm {u v : Value} (h : Apart u v) : Apart v u := fun b hb hu => h b hu hb
theorem Apart.nil_left (v : Value) : Apart (.slice none 0 0) v := fun b hb => by simp [Value.ownBlock] at hb
theorem own_beside {w w' : World} {o : Obj} {base e size n : Nat} {u v v' : Value} {ys : List Value} (hu : w.ownsRow base e size u n ys) (hg : (w.alloc o).grownBy w' v.ownBlock) (hap : Apart u v)
  (hat : v'.ownBlock = v.ownBlock ∨ v'.ownBlock = some (w.alloc o).heap.size) : w'.ownsRow base e size u n ys /\ Apart u v' := by
 constructor
 ·refine (hu.alloc o).kept hg ?_
  cases hb : u.ownBlock with
  | none => exact .inl rfl
  | some b => exact .inr (fun he => hap b hb he.symm)
 ·intro b hb he;rcases hat with h | h
  ·exact hap b hb (h ▸ he)
  ·rw [h] at he;have := (hu.lt b hb).2;simp at he
   omega
theorem below_append {a w w' : World} {o : Obj} {B base e size n : Nat} {v : Value} {xs : List Value} (h : Below B a w) (hB : B <= w.heap.size) (hv : w.ownsRow base e size v n xs) (hbase : B <= base) (hg : (w.alloc o).grownBy w' v.ownBlock) : Below B a w' :=
 (h.alloc hB o).grown hg (by simp; omega) fun k hk => Nat.le_trans hbase (hv.lt k hk).1
theorem own_form {w : World} {base e n : Nat} {v : Value} {xs : List Value} (h : w.ownsRow base e 1 v n xs) :
  ∃ A c, v = .slice A n c /\ n <= c /\ c <= 9223372036854775807 /\ Reads w w.heap.size 1 A n xs := by
 rcases h.2 with ⟨rfl, rfl⟩ | ⟨g, cap, cur, rfl, hg, hh, hn, hm, hs, ht⟩
 ·have : xs = [] := List.eq_nil_of_length_eq_zero (by simpa using h.1);subst this;exact ⟨none, 0, rfl, Nat.le_refl _, by omega, Reads.none_⟩
 ·refine ⟨some ⟨g, 0, none⟩, cap, rfl, hn, by unfold maxLen at hm; exact hm, h.1, fun _ => ⟨_, rfl, (h.lt g rfl).2, h.cells (g := g) rfl⟩⟩
theorem own_below {w w' : World} {base e size n : Nat} {v : Value} {xs : List Value} (h : w.ownsRow base e size v n xs) (hb : Below w.heap.size w w') : w'.ownsRow base e size v n xs := by
 refine ⟨h.1, ?_⟩;rcases h.2 with h2 | ⟨g, cap, cur, hv, hg, hh, r⟩
 ·exact .inl h2
 ·exact .inr ⟨g, cap, cur, hv, hg, (hb.block g (Array.getElem?_eq_some_iff.1 hh).1).trans hh, r⟩
theorem info_int : (Tryz.prog.info? 3).map (fun i => (i.zero, i.size, i.bytes)) = some (some (.int .i64 0), 1, 8) := by kernel_rfl
theorem info_string : (Tryz.prog.info? 9).map (fun i => (i.zero, i.size, i.bytes)) = some (some (.string .empty), 1, 16) := by kernel_rfl
theorem wpList_app1 {P : Program} {ops : Array Oper} {rest : List Oper} {o : Oper} {a : Act} {Q : Exit -> Act -> World -> Prop} {w0 : World} {x : Value} (hgd : o.guard = none) (s y : Operand) (t : TypeId)
  (ho : o.op = .call { callee := .builtin .append, args := #[s, y], argTypes := #[t, t] })
  (base : Nat) (e : TypeId) (bytes : Nat) (z : Value) (hinfo : (P.info? e).map (fun i => (i.zero, i.size, i.bytes)) = some (some z, 1, bytes)) (hzc : z.cells.size = 1) (ht : P.underlying t = some (.slice e))
  {v : Value} {n : Nat} {xs : List Value} (hs : a.eval s = v) (hown : w0.ownsRow base e 1 v n xs) (hy : a.eval y = .slice (some ⟨w0.heap.size, 0, none⟩) 1 1) (h1 : x.oneCell' = true)
  (h63 : n + 1 <= 9223372036854775807) (hbytes : (n + 1) * bytes <= 140737488355328) (hbase : base <= w0.heap.size)
  (h : ∀ v' w', w'.ownsRow base e 1 v' (n + 1) (xs ++ [x]) -> Below base w0 w' -> w0.heap.size + 1 <= w'.heap.size ->
   (∀ (base2 e2 size2 : Nat) (u : Value) (m : Nat) (ys : List Value), w0.ownsRow base2 e2 size2 u m ys -> Apart u v -> w'.ownsRow base2 e2 size2 u m ys /\ Apart u v') -> wpList P ops Q rest (a.put o.dst v') w') :
  wpList P ops Q (o :: rest) a (w0.alloc (.cells #[x] e)) := by
 obtain ⟨i0, hi, hz0, hz1, hz2⟩ := info_parts hinfo;refine wpList_append_own_at _ hgd s y t ho base e i0 z 1 bytes ht hi hz0 hz1 hz2 hzc (by decide) v n xs hs (hown.alloc _) ⟨w0.heap.size, 0, none⟩ 1 1 [x] hy rfl (cell_one_new _ _ _) (by simpa using h1) (by unfold maxLen; omega) hbytes (by simp; omega) ?_;intro v' w' hown' hgrow _ hat;refine h v' w' hown' (below_append (Below.refl base w0) hbase hown (Nat.le_refl _) hgrow) (by have := hgrow.size; simpa using this) ?_;intro base2 e2 size2 u m ys hu hap;exact own_beside hu hgrow hap hat
def strL (l : List UInt8) : ByteArray := ⟨l.toArray⟩
def PointsPost (w : World) (o : Option (List Nat)) (e : Ending) (w' : World) : Prop :=
 (o = none -> e = .returned (.tuple #[.slice none 0 0, .bool false])) /\
 (∀ d, o = some d -> ∃ v, e = .returned (.tuple #[v, .bool true]) /\ w'.ownsRow w.heap.size 3 1 v d.length (d.map fun (p : Nat) => Value.int .i64 (p : Int))) /\ Below w.heap.size w w'
end
section
open Go
variable {P : Program} {md : Region.Mode} {ops : Array Oper} {Q : Exit → Act → World → Prop}
def left_ (l : Array Bool) : Nat := l.toList.countP fun b => !b
theorem left_set {l : Array Bool} {i : Nat} (h : l.getD i true = false) : left_ (l.setIfInBounds i true) + 1 = left_ l := by
 unfold left_
 have hi : i < l.size := by
  rcases Nat.lt_or_ge i l.size with hlt | hge
  ·exact hlt
  ·simp [Array.getD, Nat.not_lt.2 hge] at h
 have hv : l.toList[i]'(by simpa using hi) = false := by simpa [Array.getD, hi] using h
 have e : l.toList = l.toList.take i ++ false :: l.toList.drop (i + 1) := by
  rw [<- hv, <- List.drop_eq_getElem_cons, List.take_append_drop]
 have e2 : (l.setIfInBounds i true).toList = l.toList.take i ++ true :: l.toList.drop (i + 1) := by
  rw [Array.toList_setIfInBounds, List.set_eq_take_append_cons_drop, if_pos (by simpa using hi)]
 rw [e2];conv => rhs; rw [e]
 rw [List.countP_append, List.countP_append, List.countP_cons, List.countP_cons];simp
 omega
theorem wpAny_inv (I : Array Bool -> Act -> World -> Prop)
  (hQ : ∀ l a w, I l a w -> Region.ready md ops l = [] -> Q .normal a w)
  (hs : ∀ l a w i, I l a w -> i ∈ Region.ready md ops l -> wpOp P ops Q i (fun a' w' => I (l.setIfInBounds i true) a' w') a w) :
  ∀ (fuel : Nat) (l : Array Bool) (a : Act) (w : World), left_ l <= fuel -> I l a w -> wpAny P md ops Q fuel l a w
 | 0, l, a, w, hf, hI => by
  have h0 : Region.ready md ops l = [] := by
   rw [List.eq_nil_iff_forall_not_mem];intro j hj;have h1 := (mem_ready.1 hj).1;have := left_set h1;omega
  exact ⟨h0, hQ l a w hI h0⟩
 | fuel + 1, l, a, w, hf, hI => by
  refine ⟨hQ l a w hI, fun i hi => wpOp_mono (fun a' w' h' => ?_) (hs l a w i hI hi)⟩;have h1 := (mem_ready.1 hi).1;have := left_set h1;exact wpAny_inv I hQ hs fuel _ a' w' (by omega) h'
theorem wp_region_inv {id : Nat} {a : Act} {w : World} (hm : P.follows .mixedOrders = true) (I : Array Bool -> Act -> World -> Prop) (h0 : I (Array.replicate ops.size false) a w.drew)
  (hQ : ∀ l a w, I l a w -> Region.ready .any ops l = [] -> Q .normal a w)
  (hs : ∀ l a w i, I l a w -> i ∈ Region.ready .any ops l -> wpOp P ops Q i (fun a' w' => I (l.setIfInBounds i true) a' w') a w) : (Code.region id ops true).wp P Q a w :=
 wp_region_any hm (wpAny_inv I hQ hs _ _ _ _ (by unfold left_; exact Nat.le_trans List.countP_le_length (by simp)) h0)
end
section
open Go
variable {P : Program} {ops : Array Oper} {Q : Exit → Act → World → Prop}
def reachB (ops : Array Oper) : Nat -> Nat -> Nat -> Bool
 | 0, _, _ => false
 | f + 1, j, i => match ops[j]? with
  | none => false
  | some o => o.after.any fun e => Region.binds .any e && (e.on == i || reachB ops f e.on i)
def Closed (ops : Array Oper) (l : Array Bool) : Prop := ∀ j o, ops[j]? = some o -> l.getD j false = true -> ∀ e ∈ o.after, Region.binds .any e = true -> l.getD e.on false = true
theorem Closed.reach {l : Array Bool} (h : Closed ops l) : ∀ {f j i : Nat}, reachB ops f j i = true -> l.getD j false = true -> l.getD i false = true
 | 0, _, _, hr, _ => by cases hr
 | f + 1, j, i, hr, hl => by
  unfold reachB at hr;split at hr
  ·cases hr
  ·rename_i o ho
   obtain ⟨e, he, hb⟩ := Array.any_eq_true'.1 hr;rw [Bool.and_eq_true, Bool.or_eq_true, beq_iff_eq] at hb;have h1 := h j o ho hl e he hb.1;rcases hb.2 with h2 | h2
   ·rw [<- h2]; exact h1
   ·exact h.reach h2 h1
structure RInv (ops : Array Oper) (a0 : Act) (C : World -> Prop) (V : Array Bool -> Nat -> Value -> World -> Prop) (l : Array Bool) (a : Act) (w : World) : Prop where
 len : l.size = ops.size
 closed : Closed ops l
 cls : C w
 size : a.tmps.size = a0.tmps.size
 defers : a.defers = a0.defers
 old : ∀ t, (∀ i o, ops[i]? = some o -> l.getD i false = true -> o.dst ≠ some t) -> a.tmps.getD t undef = a0.tmps.getD t undef
 new : ∀ i o t, ops[i]? = some o -> l.getD i false = true -> o.dst = some t -> V l i (a.tmps.getD t undef) w
theorem getD_true_false {l : Array Bool} {i : Nat} (h : l.getD i true = false) : l.getD i false = false := by
 simp only [Array.getD] at *;split <;> simp_all
theorem getD_set_self {l : Array Bool} {i : Nat} (h : i < l.size) : (l.setIfInBounds i true).getD i false = true := by
 simp [Array.getD, h]
theorem getD_set_ne {l : Array Bool} {i j : Nat} (h : i ≠ j) : (l.setIfInBounds i true).getD j false = l.getD j false := by
 rw [Array.getD_eq_getD_getElem?, Array.getD_eq_getD_getElem?, Array.getElem?_setIfInBounds_ne h]
theorem rinv_step {a0 a : Act} {C : World -> Prop} {V : Array Bool -> Nat -> Value -> World -> Prop} {l : Array Bool} {w w' : World} {i : Nat} {o : Oper} {t : Nat} {v : Value}
  (hdist : ∀ (i j : Nat) (oi oj : Oper) (s : Tmp), ops[i]? = some oi -> ops[j]? = some oj -> oi.dst = some s -> oj.dst = some s -> i = j)
  (h : RInv ops a0 C V l a w) (ho : ops[i]? = some o) (hd : o.dst = some t) (ht : t < a0.tmps.size) (hun : l.getD i true = false) (hr : ∀ e ∈ o.after, Region.binds .any e = true -> l.getD e.on false = true)
  (hC : C w') (hv : V (l.setIfInBounds i true) i v w') (hk : ∀ j u, j ≠ i -> V l j u w -> V (l.setIfInBounds i true) j u w') : RInv ops a0 C V (l.setIfInBounds i true) (a.put o.dst v) w' := by
 have hi : i < l.size := by rw [h.len]; exact (Array.getElem?_eq_some_iff.1 ho).1
 have hput : a.put o.dst v = { a with tmps := a.tmps.setIfInBounds t v } := by rw [hd]; rfl
 have hts : t < a.tmps.size := by rw [h.size]; exact ht
 have hself : (a.tmps.setIfInBounds t v).getD t undef = v := by simp [Array.getD, hts]
 have hne : ∀ s, s ≠ t -> (a.tmps.setIfInBounds t v).getD s undef = a.tmps.getD s undef := fun s hs => by
  rw [Array.getD_eq_getD_getElem?, Array.getD_eq_getD_getElem?, Array.getElem?_setIfInBounds_ne (Ne.symm hs)]
 rw [hput];refine ⟨by simpa using h.len, ?_, hC, by simpa using h.size, h.defers, ?_, ?_⟩
 ·intro j oj hj hl e he hb;by_cases e1 : i = e.on
  ·rw [<- e1]; exact getD_set_self hi
  ·rw [getD_set_ne e1];by_cases e2 : i = j
   ·subst e2;rw [ho] at hj
    cases hj;exact hr e he hb
   ·rw [getD_set_ne e2] at hl;exact h.closed j oj hj hl e he hb
 ·intro s hs;have h1 : s ≠ t := fun e => hs i o ho (getD_set_self hi) (by rw [hd, e])
  show (a.tmps.setIfInBounds t v).getD s undef = _;rw [hne s h1];refine h.old s fun j oj hj hl => ?_
  by_cases e2 : i = j
  ·subst e2;rw [ho] at hj
   cases hj;rw [hd];exact fun e => h1 (Option.some.inj e).symm
  ·exact hs j oj hj (by rw [getD_set_ne e2]; exact hl)
 ·intro j oj s hj hl hs;show V (l.setIfInBounds i true) j ((a.tmps.setIfInBounds t v).getD s undef) w';by_cases e2 : i = j
  ·subst e2;rw [ho] at hj
   cases hj;have : t = s := Option.some.inj (hd.symm.trans hs);subst this;rw [hself];exact hv
  ·rw [getD_set_ne e2] at hl;have h1 : s ≠ t := fun e => e2 (hdist i j o oj t ho hj hd (by rw [<- e]; exact hs))
   rw [hne s h1];exact hk j _ (Ne.symm e2) (h.new j oj s hj hl hs)
theorem getD_false_true {l : Array Bool} {i : Nat} (h : l.getD i false = false) (hi : i < l.size) : l.getD i true = false := by
 simp only [Array.getD] at *;split <;> simp_all
def backB (ops : Array Oper) : Bool := (List.range ops.size).all fun i => match ops[i]? with
 | none => true
 | some o => o.after.all fun e => decide (e.on < i)
theorem all_listed {l : Array Bool} (hb : backB ops = true) (hl : l.size = ops.size) (h0 : Region.ready .any ops l = []) : ∀ i, i < ops.size -> l.getD i false = true := by
 intro i;induction i using Nat.strongRecOn with
 | _ i ih =>
  intro hi
  cases hh : l.getD i false with
  | true => rfl
  | false =>
   have hmem : i ∈ Region.ready .any ops l := by
    refine mem_ready.2 ⟨getD_false_true hh (by omega), ops[i], Array.getElem?_eq_getElem hi, fun e he _ => ?_⟩;have h1 := List.all_eq_true.1 hb i (List.mem_range.2 hi);rw [Array.getElem?_eq_getElem hi] at h1;have h2 := of_decide_eq_true (Array.all_eq_true'.1 h1 e he);exact ih e.on h2 (by omega)
   rw [h0] at hmem
   cases hmem
end
section
open Go Go.RowKit
variable {P : Program} {Q : Exit → Act → World → Prop}
theorem oper_append_own {o : Oper} {a : Act} {w : World} {K : Act -> World -> Prop} (s x : Operand) (t : TypeId)
  (ho : o.op = .call { callee := .builtin .append, args := #[s, x], argTypes := #[t, t] })
  (base : Nat) (e : TypeId) (i : TypeInfo) (z : Value) (size bytes : Nat) (ht : P.underlying t = some (.slice e)) (hi : P.info? e = some i) (hz : i.zero = some z)
  (hsize : i.size = size) (hby : i.bytes = bytes) (hzs : z.cells.size = size) (hsz : 0 < size)
  (v : Value) (n : Nat) (xs : List Value) (hs : a.eval s = v) (hown : w.ownsRow base e size v n xs)
  (ad : Addr) (m c : Nat) (news : List Value) (hx : a.eval x = .slice (some ad) m c) (hl : news.length = m * size) (hnews : ∀ j u, news[j]? = some u -> w.cell? (ad.add j) = some u) (h1 : ∀ u ∈ news, u.oneCell' = true)
  (h63 : n + m <= maxLen) (hbytes : (n + m) * bytes <= 140737488355328) (hbase : base <= w.heap.size)
  (h : ∀ v' w', w'.ownsRow base e size v' (n + m) (xs ++ news) -> w.grownBy w' v.ownBlock -> (v' = .slice none 0 0 ↔ v = .slice none 0 0 /\ m = 0) -> (v'.ownBlock = v.ownBlock ∨ v'.ownBlock = some w.heap.size) -> K (a.put o.dst v') w') :
  o.wp P a w K Q := by
 obtain ⟨v', w', hr, h2, h3, h4, h5⟩ := run_append_own_at (P := P) w base t o.type e i z size bytes ht hi hz hsize hby hzs hsz v n xs hown ad m c news hl hnews h1 h63 hbytes hbase;unfold Oper.wp execOp;simp only [ho, resolve, invoke, builtin, Sem.run_bind, Sem.run_pure, Result.andThen_ok, List.map_toArray, List.map_cons, List.map_nil, hs, hx, hr];exact h v' w' h2 h3 h4 h5
theorem append_nil_run (w : World) (base : Nat) (t ty e : TypeId) (i : TypeInfo) (size : Nat) (ht : P.underlying t = some (.slice e)) (hi : P.info? e = some i) {v : Value} {n : Nat} {xs : List Value}
  (hown : w.ownsRow base e size v n xs) (c : Nat) : (Builtin.append_ #[t, t] ty #[v, .slice none 0 c]).run P w = .ok v w := by
 rcases hown.2 with ⟨hv, hn⟩ | ⟨g, cap, cur, hv, _, _, hle, _⟩
 ·subst hv hn;simp [Builtin.append_, run_underlying ht, sizeOf, typeInfo, hi, Builtin.lenOf, Builtin.firstCells]
 ·subst hv;simp [Builtin.append_, run_underlying ht, sizeOf, typeInfo, hi, Builtin.lenOf, Builtin.firstCells, hle, storeCells]
theorem reads_none {w : World} {B size n : Nat} {xs : List Value} (hr : Reads w B size none n xs) : n = 0 /\ xs = [] := by
 have hn : n = 0 := by
  rcases Nat.eq_zero_or_pos n with h | h
  ·exact h
  ·obtain ⟨_, hc, _⟩ := hr.2 h
   cases hc
 exact ⟨hn, List.eq_nil_of_length_eq_zero (by rw [hr.1, hn, Nat.zero_mul])⟩
theorem oper_app {o : Oper} {a : Act} {w : World} {K : Act -> World -> Prop} (s x : Operand) (t : TypeId)
  (ho : o.op = .call { callee := .builtin .append, args := #[s, x], argTypes := #[t, t] })
  (base : Nat) (e : TypeId) (bytes : Nat) (z : Value) (hinfo : (P.info? e).map (fun i => (i.zero, i.size, i.bytes)) = some (some z, 1, bytes)) (hzc : z.cells.size = 1) (ht : P.underlying t = some (.slice e))
  {v : Value} {n : Nat} {xs : List Value} (hs : a.eval s = v) (hown : w.ownsRow base e 1 v n xs)
  {B : Nat} {A : Option Addr} {m c : Nat} {news : List Value} (hx : a.eval x = .slice A m c) (hr : Reads w B 1 A m news) (h1 : ∀ u ∈ news, u.oneCell' = true)
  (h63 : n + m <= 9223372036854775807) (hbytes : (n + m) * bytes <= 140737488355328) (hbase : base <= w.heap.size)
  (h : ∀ v' w', w'.ownsRow base e 1 v' (n + m) (xs ++ news) -> w.grownBy w' v.ownBlock -> (v'.ownBlock = v.ownBlock ∨ v'.ownBlock = some w.heap.size) -> K (a.put o.dst v') w') :
  o.wp P a w K Q := by
 obtain ⟨i0, hi, hz0, hz1, hz2⟩ := info_parts hinfo
 cases A with
 | none =>
  obtain ⟨h2, h3⟩ := reads_none hr;subst h2 h3;have hrun := append_nil_run (P := P) w base t o.type e i0 1 ht hi hown c;unfold Oper.wp execOp;simp only [ho, resolve, invoke, builtin, Sem.run_bind, Sem.run_pure, Result.andThen_ok, List.map_toArray, List.map_cons, List.map_nil, hs, hx, hrun];exact h v w (by simpa using hown) (World.grownBy.refl w _) (.inl rfl)
 | some ad =>
  have hc : ∀ j u, news[j]? = some u -> w.cell? (ad.add j) = some u := by
   intro j u hu;have hj := (List.getElem?_eq_some_iff.1 hu).1;have hl := hr.1;obtain ⟨ad', h2, _, h3⟩ := hr.2 (by omega)
   cases h2;exact h3 j u hu
  exact oper_append_own s x t ho base e i0 z 1 bytes ht hi hz0 hz1 hz2 hzc (by decide) v n xs hs hown ad m c news hx hr.1 hc h1 (by unfold maxLen; omega) hbytes hbase fun v' w' h2 h3 _ h4 => h v' w' h2 h3 h4
theorem step_app {ops : Array Oper} {o : Oper} {a : Act} {w : World} {K : Act -> World -> Prop} {E : Prop} (hgd : o.guard = none) (s x : Operand) (t : TypeId)
  (ho : o.op = .call { callee := .builtin .append, args := #[s, x], argTypes := #[t, t] })
  (base : Nat) (e : TypeId) (bytes : Nat) (z : Value) (hinfo : (P.info? e).map (fun i => (i.zero, i.size, i.bytes)) = some (some z, 1, bytes)) (hzc : z.cells.size = 1) (ht : P.underlying t = some (.slice e))
  {v : Value} {n : Nat} {xs : List Value} (hs : a.eval s = v) (hown : w.ownsRow base e 1 v n xs)
  {B : Nat} {A : Option Addr} {m c : Nat} {news : List Value} (hx : a.eval x = .slice A m c) (hr : Reads w B 1 A m news) (h1 : ∀ u ∈ news, u.oneCell' = true)
  (h63 : n + m <= 9223372036854775807) (hbytes : (n + m) * bytes <= 140737488355328) (hbase : base <= w.heap.size)
  (h : ∀ v' w', w'.ownsRow base e 1 v' (n + m) (xs ++ news) -> w.grownBy w' v.ownBlock -> (v'.ownBlock = v.ownBlock ∨ v'.ownBlock = some w.heap.size) -> K (a.put o.dst v') w') :
  if Region.wanted o (yielded ops a.tmps) = true then Oper.wp P o a w K Q else E := by
 have hw : Region.wanted o (yielded ops a.tmps) = true := by simp [Region.wanted, hgd]
 rw [if_pos hw];exact oper_app s x t ho base e bytes z hinfo hzc ht hs hown hx hr h1 h63 hbytes hbase h
theorem wpList_app {ops : Array Oper} {rest : List Oper} {o : Oper} {a : Act} {w : World} (hgd : o.guard = none) (s x : Operand) (t : TypeId)
  (ho : o.op = .call { callee := .builtin .append, args := #[s, x], argTypes := #[t, t] })
  (base : Nat) (e : TypeId) (bytes : Nat) (z : Value) (hinfo : (P.info? e).map (fun i => (i.zero, i.size, i.bytes)) = some (some z, 1, bytes)) (hzc : z.cells.size = 1) (ht : P.underlying t = some (.slice e))
  {v : Value} {n : Nat} {xs : List Value} (hs : a.eval s = v) (hown : w.ownsRow base e 1 v n xs)
  {B : Nat} {A : Option Addr} {m c : Nat} {news : List Value} (hx : a.eval x = .slice A m c) (hr : Reads w B 1 A m news) (h1 : ∀ u ∈ news, u.oneCell' = true)
  (h63 : n + m <= 9223372036854775807) (hbytes : (n + m) * bytes <= 140737488355328) (hbase : base <= w.heap.size)
  (h : ∀ v' w', w'.ownsRow base e 1 v' (n + m) (xs ++ news) -> w.grownBy w' v.ownBlock -> (v'.ownBlock = v.ownBlock ∨ v'.ownBlock = some w.heap.size) -> wpList P ops Q rest (a.put o.dst v') w') :
  wpList P ops Q (o :: rest) a w :=
 wpList_plain hgd fun _ hK => oper_app s x t ho base e bytes z hinfo hzc ht hs hown hx hr h1 h63 hbytes hbase fun v' w' h2 h3 h4 => hK _ _ (h v' w' h2 h3 h4)
theorem reads_one {W : World} {b e : Nat} {x : Value} (hb : W.heap.size = b) : Reads (W.alloc (.cells #[x] e)) (b + 1) 1 (some ⟨b, 0, none⟩) 1 [x] := by
 subst hb;refine ⟨rfl, fun _ => ⟨_, rfl, by simp, fun j u hu => ?_⟩⟩
 obtain rfl : j = 0 := by
  have := (List.getElem?_eq_some_iff.1 hu).1;simp at this
  omega
 simp at hu
 subst hu;have e1 : (⟨W.heap.size, 0, none⟩ : Addr).add 0 = ⟨W.heap.size, 0, none⟩ := by simp [Addr.add]
 rw [e1, World.cell?_alloc_at _ _ _ _ rfl];rfl
def Item (W : World) (b : Nat) (x v : Value) : Prop := W.cell? ⟨b, 0, none⟩ = some x /\ b < W.heap.size /\ v.ownBlock ≠ some b
theorem Item.reads {W : World} {b : Nat} {x v : Value} (h : Item W b x v) : Reads W W.heap.size 1 (some ⟨b, 0, none⟩) 1 [x] := by
 refine ⟨rfl, fun _ => ⟨_, rfl, h.2.1, fun j u hu => ?_⟩⟩
 obtain rfl : j = 0 := by
  have := (List.getElem?_eq_some_iff.1 hu).1;simp at this
  omega
 simp at hu
 subst hu;have e1 : (⟨b, 0, none⟩ : Addr).add 0 = ⟨b, 0, none⟩ := by simp [Addr.add]
 rw [e1];exact h.1
theorem Item.grown {W W' : World} {b : Nat} {x v v' : Value} (h : Item W b x v) (hg : W.grownBy W' v.ownBlock) (hat : v'.ownBlock = v.ownBlock ∨ v'.ownBlock = some W.heap.size) : Item W' b x v' := by
 obtain ⟨h1, h2, h3⟩ := h;refine ⟨(World.cell?_of_block (hg.block b h2 (fun e => h3 e.symm))).trans h1, Nat.lt_of_lt_of_le h2 hg.size, fun e => ?_⟩;rcases hat with h4 | h4
 ·exact h3 (h4 ▸ e)
 ·rw [h4] at e;injection e with e
  omega
theorem Item.new {W : World} {b base e size n : Nat} {x v : Value} {xs : List Value} (h : W.ownsRow base e size v n xs) (hb : W.heap.size = b) : Item (W.alloc (.cells #[x] e)) b x v := by
 subst hb;refine ⟨by rw [World.cell?_alloc_at _ _ _ _ rfl]; rfl, by simp, fun he => ?_⟩;have := (h.lt _ he).2;omega
theorem below_app {B : Nat} {w W W' : World} {base e size n : Nat} {v : Value} {xs : List Value} (h : Below B w W) (hown : W.ownsRow base e size v n xs) (hg : W.grownBy W' v.ownBlock) (hB : B <= base) (hW : B <= W.heap.size) : Below B w W' :=
 h.grown hg hW fun k hk => Nat.le_trans hB (hown.lt k hk).1
theorem Item.first {W : World} {e e' b b' : Nat} {x : Value} (hb : W.heap.size = b) (hb' : b' = b + 1) : Item ((W.alloc (.cells #[x] e)).alloc (.cells #[] e')) b x (.slice (some ⟨b', 0, none⟩) 0 0) := by
 subst hb hb';refine ⟨?_, by simp; omega, by simp [Value.ownBlock]⟩;rw [World.cell?_alloc_lt _ _ _ (by simp), World.cell?_alloc_at _ _ _ _ rfl];rfl
end
section
open Go.RowKit
theorem strL_data (l : List UInt8) : (strL l).data.toList = l := by simp [strL]
theorem strL_of {s : ByteArray} {l : List UInt8} (h : s.data.toList = l) : s = strL l := ba_ext (by rw [h, strL_data])
theorem strL_size (l : List UInt8) : (strL l).size = l.length := by rw [Lib.size_eq, strL_data]
theorem app_data (a b : ByteArray) : (a ++ b).data.toList = a.data.toList ++ b.data.toList := by simp
end
section
open Go.RowKit Ru
def NR (w : World) (B : Nat) (A : Option Addr) (n : Nat) (l : List Nat) : Prop := Reads w B 1 A n (l.map fun (p : Nat) => Value.int .i64 (p : Int))
theorem NR.at_ {w : World} {B n k : Nat} {A : Option Addr} {l : List Nat} (h : NR w B A n l) (hk : k < n) :
  ∃ ad x, A = some ad /\ ad.block < B /\ l[k]? = some x /\ w.cell? (ad.add k) = some (.int .i64 (x : Int)) := by
 obtain ⟨ad, u, e, hb, hx, hc⟩ := Reads.at_ h hk;rw [List.getElem?_map] at hx
 cases hz : l[k]? with
 | none => rw [hz] at hx; cases hx
 | some x => rw [hz] at hx; cases hx; exact ⟨ad, x, e, hb, rfl, hc⟩
theorem NR.len {w : World} {B n : Nat} {A : Option Addr} {l : List Nat} (h : NR w B A n l) : l.length = n := by simpa using h.1
theorem NR.on {w w' : World} {n : Nat} {A : Option Addr} {l : List Nat} (h : NR w w.heap.size A n l) (hb : Below w.heap.size w w') : NR w' w'.heap.size A n l := Reads.on h hb
theorem NR.ints {w : World} {B n : Nat} {A : Option Addr} {l : List Nat} (h : NR w B A n l) : IR w B A n (l.map fun (p : Nat) => (p : Int)) := by
 unfold IR NR at *;rw [List.map_map];exact h
theorem Reads.take {w : World} {B n m : Nat} {A : Option Addr} {xs : List Value} (h : Reads w B 1 A n xs) (hm : m <= n) : Reads w B 1 A m (xs.take m) := by
 refine ⟨by rw [List.length_take, h.1]; omega, fun h0 => ?_⟩;obtain ⟨ad, e, hb, hc⟩ := h.2 (by omega);refine ⟨ad, e, hb, fun j u hu => ?_⟩;rw [List.getElem?_take] at hu;split at hu
 ·exact hc j u hu
 ·cases hu
theorem Reads.cut {w : World} {B n k cap : Nat} {A : Option Addr} {xs : List Value} (h : Reads w B 1 A n xs) (hk : k <= n) (hc : n <= cap) : Reads w B 1 (if cap = k then A else Option.map (fun x => x.add k) A) (n - k) (xs.drop k) := by
 refine ⟨by rw [List.length_drop, h.1]; omega, fun h0 => ?_⟩;obtain ⟨ad, e, hb, hcell⟩ := h.2 (by omega);subst e;rw [if_neg (by omega)];refine ⟨ad.add k, rfl, by rw [block_of_add]; exact hb, fun j u hu => ?_⟩;rw [add_of_add];exact hcell _ u (by rw [<- hu, List.getElem?_drop])
end
section
open Go.RowKit Go.Shelf Ru
attribute [local go_sem] Oper.semAt_some
def Tabs (w : World) : Prop := Lib.Utf8Tabs (Tryz.laysValid_ren.g 3) (Tryz.laysValid_ren.g 4) w
theorem Tabs.on {w w' : World} (h : Tabs w) (hb : Below w.heap.size w w') : Tabs w' := Utf8Tabs_below h hb
theorem valid_any (s : ByteArray) (w : World) (hs : s.size <= 9223372036854775807) (hT : Tabs w) :
  Calls Tryz.prog 136 #[.string s] w fun e w' => e = .returned (.bool (points s.data.toList).isSome) /\ Below w.heap.size w w' :=
 mono_eq (Any.utf8_ValidString Tryz.laysValid s w hs hT) (by rw [validD_points])
set_option maxRecDepth 100000 in
set_option maxHeartbeats 2000000 in
theorem points_any (s : ByteArray) (w : World) (hs : s.size <= 1099511627776) (hT : Tabs w) :
    Calls Tryz.prog 119 #[.string s] w (PointsPost w (Ru.points s.data.toList)) := by
  have HV := hI (valid_any s w (by omega) hT);obtain ⟨o, ho⟩ : ∃ o, Hid (points s.data.toList = o) := ⟨_, rfl⟩;rw [ho.out] at HV |-
  cases o with
  | none =>
    go_enter Tryz.func119, Tryz.ntmps119
    go_wp2_with fail
    refine HV.out.mono ?_;rintro e w1 ⟨rfl, hb1⟩;go_wp2;go_ret2;exact ⟨fun _ => rfl, (fun d h => by cases h), hb1⟩
  | some d =>
    refine (callsIn_wide (n := 4)).1 ?_;refine callsIn_of_wp_marks Tryz.func119 rfl trivial ?_ rfl;simp only [Tryz.ntmps119, List.size_toArray, List.length_cons, List.length_nil, Nat.reduceAdd, Nat.reduceSub, Array.replicate_succ, Array.replicate_zero, List.push_toArray, List.append_toArray, List.nil_append, List.cons_append]
    gi_wp2_with (first
      | (refine ⟨trivial, ?_⟩; gi_at_call 136; refine (callsIn_wide.2 HV.out).mono ?_; rintro e w1 ⟨rfl, hb1⟩; have hsz1 := hb1.size)
      | (refine ⟨trivial, ?_⟩; gi_at_call 137; refine (callsIn_wide.2 (scalars_any s _)).mono ?_; rintro e w2 ⟨rfl, rfl⟩)
      | (gi_at_call 136; refine (callsIn_wide.2 HV.out).mono ?_; rintro e w1 ⟨rfl, hb1⟩; have hsz1 := hb1.size)
      | (gi_at_call 137; refine (callsIn_wide.2 (scalars_any s _)).mono ?_; rintro e w2 ⟨rfl, rfl⟩))
    have HT := hI hT; clear hT
    obtain ⟨i0, hi, hz0, hz1, hz2⟩ := info_parts info_int;have hbox0 := Boxed.new w1 32 (.slice none 0 0);have hbox1 := hbox0.alloc (.cells #[.string s] 9)
    have hcs : ((w1.alloc (.cells #[.slice none 0 0] 32)).alloc (.cells #[.string s] 9)).cell? ⟨w1.heap.size + 1, 0, none⟩ = some (.string s) := by
      rw [World.cell?_alloc_at _ _ _ _ (by simp)];rfl
    have hb2 : Below w.heap.size w ((w1.alloc (.cells #[.slice none 0 0] 32)).alloc (.cells #[.string s] 9)) := (hb1.alloc hsz1 _).alloc (by simp; omega) _;have hz2' : ((w1.alloc (.cells #[.slice none 0 0] 32)).alloc (.cells #[.string s] 9)).heap.size = w1.heap.size + 2 := by simp
    obtain ⟨W2, hW2⟩ : ∃ W2, W2 = (w1.alloc (.cells #[.slice none 0 0] 32)).alloc (.cells #[.string s] 9) := ⟨_, rfl⟩;rw [<- hW2] at hbox1 hcs hb2 hz2' |-;clear hW2 hbox0;obtain ⟨B, hB⟩ : ∃ B, w1.heap.size = B := ⟨_, rfl⟩;rw [hB] at hbox1 hcs hz2' hsz1 |-;clear hB hb1;have hBz : B < W2.heap.size := by omega
    refine wpIn_range_next rfl (by omega) (gf := 155) (lb := #[.pointer (some ⟨B + 1, 0, none⟩)]) rfl trivial (enters_of Tryz.func155 (by kernel_rfl) rfl)
      (scalars_next Fence.wide _ trivial rfl (by omega) (B + 1) s d (by omega) ho.out W2 (by omega) hcs) bR (fun _ => rfl)
      (fun pre W => (∃ v, Boxed W B 32 v /\ W.ownsRow w.heap.size 3 1 v pre.length (pre.map fun x => Value.int .i64 (x.2 : Int)) /\ True) /\ Below w.heap.size w W)
      (OwnFrom.and (Own.from (holdsRow_own w.heap.size B 32 3 1 (fun pre : List (Nat × Nat) => pre.length) (fun pre => pre.map fun x => Value.int .i64 (x.2 : Int)) (fun _ _ => True)) _) (ownFrom_below (Nat.le_refl _) (by omega)))
      ⟨⟨_, hbox1, World.ownsRow_nil _ _ _ _, trivial⟩, hb2⟩
      (fun x => { tmps := #[.string s, undef, .slice none 0 0, .bool false, .pointer (some ⟨B, 0, none⟩), undef, .int .i64 (x.2 : Int), .string s, .bool true, .bool false, .string s, .func (.func 155) #[] #[.pointer (some ⟨B + 1, 0, none⟩)], .int .i64 (x.1 : Int), .int .i64 (x.2 : Int), undef, undef, undef, undef, undef], defers := [] })
      ?assign ?body ?done
    case assign =>
      intro l x W K hK;unfold encX;gi_wp2
      exact hK
    case body =>
      rintro l pre x W ⟨⟨v, hbx, hrow, _⟩, hbw⟩ ⟨rest, hnx⟩
      have hlen : pre.length < d.length := by
        have h1 := congrArg List.length hnx;rw [ixs_length, List.length_append] at h1;simp at h1
        omega
      have hdl : d.length <= s.size := by
        have := points_length _ _ _ (Nat.le_refl _) ho.out;rwa [<- Lib.size_eq] at this
      have hcx := hbx.cell;have hfx := hbx.frozen;have hszw := hbw.size;clear hnx
      gi_wp2_with (gi_at_builtin; refine wpListIn_append_own _ rfl _ _ 32 rfl w.heap.size 3 i0 (.int .i64 0) 1 8 Tryz.underlying32 hi hz0 hz1 hz2 rfl (by decide) _ _ _ rfl (hrow.alloc _) ⟨W.heap.size, 0, none⟩ 1 1 [.int .i64 (x.2 : Int)] rfl rfl (cell_one_new _ _ _) (by simp [Value.oneCell']) (by unfold maxLen; omega) (by omega) (by simp; omega) ?_
                   intro v' w3 hown' hgrow _;obtain ⟨g', cap', rfl⟩ := ownsRow_succ hown';obtain ⟨hv1, hv2, hr2, hk2, hbb2⟩ := hbx.appended (by decide) hrow hszw (by omega) hown' hgrow;have hcx3 := hv1.cell;have hfx3 := hv1.frozen;clear hcx hfx)
      refine ⟨hk2, ⟨hk2.size, fun k o h1 h2 => hk2.same k o h1 (Obj.not_cells_of_walk h2)⟩, ⟨_, hv2, ?_, trivial⟩, hbw.trans hbb2⟩;rw [List.length_append, List.map_append];exact hr2
    case done =>
      rintro D xs W hD rfl ⟨⟨v, hbx, hrow, _⟩, hbw⟩ hK;have hcx := hbx.cell;gi_wp2
      refine ⟨by simp, .inl ⟨_, _, rfl, run_takeDeferred hK, ?_⟩⟩;refine ⟨_, results_tmp2 rfl _ _ _, ?_⟩;have hfin := ownsRow_putObj hrow (.deferred none) hK rfl;have hbf := hbw.trans (belowK_b (w := w) (Nat.le_refl _) W D _ (.deferred none) (by omega) hK rfl rfl);refine ⟨(fun h => by cases h), fun d' hd' => ?_, hbf⟩
      cases hd'
      refine ⟨v, rfl, ?_⟩;rw [ixs_length] at hfin
      have e1 : (ixs 0 d).map (fun x => Value.int .i64 (x.2 : Int)) = d.map fun (p : Nat) => Value.int .i64 (p : Int) := by
        conv => rhs; rw [<- ixs_snd d 0]
        rw [List.map_map];rfl
      rw [e1] at hfin;exact hfin
end
section
open Go.RowKit Ru
theorem drop_at {α : Type} {l : List α} {k : Nat} {x : α} (h : l[k]? = some x) : l.drop k = x :: l.drop (k + 1) := by
 obtain ⟨hk, rfl⟩ := List.getElem?_eq_some_iff.1 h;exact List.drop_eq_getElem_cons hk
def Open_ (wr : World) (v : Value) (cl : List Nat) : Prop := ∃ A c, v = .slice A cl.length c /\ NR wr wr.heap.size A cl.length cl /\ cl.length <= c /\ c <= 9223372036854775807
theorem Open_.on {w w' : World} {v : Value} {cl : List Nat} (h : Open_ w v cl) (hb : Below w.heap.size w w') : Open_ w' v cl := by
 obtain ⟨A, c, e, hr, h1, h2⟩ := h;exact ⟨A, c, e, hr.on hb, h1, h2⟩
end
section
open Go.RowKit Ru
attribute [local go_sem ↓] Go.wp_at_zero Go.wp_at_succ
def strC (c : List Nat) : ByteArray := strL (encS c)
def clusB (s : List UInt8) : List ByteArray :=
 match points s with
 | none => []
 | some d => (clus d).map strC
def CluRel (d : List Nat) (i : Nat) (cs : List (List Nat)) : Prop :=
 (i = 0 /\ cs = []) ∨ (0 < i /\ ∃ done c, cs = done ++ [c] /\ c.length <= i /\ clus d = done ++ cluGo c (d.drop i))
theorem CluRel.start {d : List Nat} {p : Nat} (hp : d[0]? = some p) : CluRel d 1 [[p]] := by
 refine .inr ⟨by omega, [], [p], rfl, by simp, ?_⟩
 cases d with
 | nil => simp at hp
 | cons x t => simp at hp; subst hp; rfl
theorem CluRel.mark {d : List Nat} {i p : Nat} {done : List (List Nat)} {c : List Nat} (h : clus d = done ++ cluGo c (d.drop i)) (hl : c.length <= i) (hp : d[i]? = some p) (hm : mk p = true) : CluRel d (i + 1) (done ++ [c ++ [p]]) := by
 refine .inr ⟨by omega, done, c ++ [p], rfl, by simp; omega, ?_⟩;rw [h, drop_at hp];show done ++ (if mk p = true then cluGo (c ++ [p]) (d.drop (i + 1)) else _) = _;rw [if_pos hm]
theorem CluRel.base {d : List Nat} {i p : Nat} {done : List (List Nat)} {c : List Nat} (h : clus d = done ++ cluGo c (d.drop i)) (hl : c.length <= i) (hp : d[i]? = some p) (hm : mk p = false) : CluRel d (i + 1) ((done ++ [c]) ++ [[p]]) := by
 refine .inr ⟨by omega, done ++ [c], [p], rfl, by simp, ?_⟩;rw [h, drop_at hp];show done ++ (if mk p = true then _ else c :: cluGo [p] (d.drop (i + 1))) = _;rw [hm, if_neg (by simp)];simp
theorem CluRel.fin {d : List Nat} {cs : List (List Nat)} (h : CluRel d d.length cs) : clus d = cs := by
 rcases h with ⟨h0, rfl⟩ | ⟨_, done, c, rfl, _, h⟩
 ·have : d = [] := List.eq_nil_of_length_eq_zero h0;subst this;rfl
 ·rw [h, List.drop_length];rfl
def strV (cs : List (List Nat)) : List Value := cs.map fun c => Value.string (strC c)
end
end Go.Proofs.YthcabnfcgjnlnaaGreatDoor
