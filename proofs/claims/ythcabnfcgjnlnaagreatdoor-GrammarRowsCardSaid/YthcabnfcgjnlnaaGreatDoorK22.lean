import Derived.Test.YthcabnfcgjnlnaaGreatDoorK21
/-
  PLAIN LAW: the sample of the chapter on grammars. No program in sight.
-/
set_option linter.unusedVariables false
set_option linter.unusedSimpArgs false
namespace Go.Proofs.YthcabnfcgjnlnaaGreatDoor
open Go.RowKit Ru Lay Srt Col

def smpT : List Ti := [⟨⟨#[116, 101, 120, 116]⟩, 0, 1, -1⟩, ⟨⟨#[119, 111, 114, 100]⟩, 2, 2, 0⟩, ⟨⟨#[109, 111, 114, 112, 104]⟩, 3, 3, 1⟩, ⟨⟨#[103, 108, 111, 115, 115]⟩, 4, 4, 2⟩, ⟨⟨#[102, 114, 101, 101]⟩, 4, 5, 0⟩]
def n5_1 : Nt := ⟨1, 0, 0, 0, 900, 0, ⟨#[98, 97, 109, 105, 32, 116, 97]⟩⟩
def n5_2 : Nt := ⟨2, 1, 1, 0, 300, 0, ⟨#[98, 97, 109, 105]⟩⟩
def n5_3 : Nt := ⟨3, 1, 1, 300, 600, 0, ⟨#[116, 97]⟩⟩
def n5_4 : Nt := ⟨4, 2, 2, 0, 0, 0, ⟨#[98, 97]⟩⟩
def n5_5 : Nt := ⟨5, 2, 2, 0, 0, 1, ⟨#[109, 105]⟩⟩
def n5_6 : Nt := ⟨6, 3, 4, 0, 0, 0, ⟨#[100, 111, 103]⟩⟩
def n5_7 : Nt := ⟨7, 3, 5, 0, 0, 0, ⟨#[80, 76]⟩⟩
def n5_8 : Nt := ⟨8, 4, 1, 0, 0, 0, ⟨#[100, 111, 103, 115]⟩⟩
def smpN : List Nt := [n5_1, n5_2, n5_3, n5_4, n5_5, n5_6, n5_7, n5_8]
theorem noOver_one {s : List Nt} (h : s.length ≤ 1) : NoOver s := fun i k x y hk hi hy => by
  have h1 := (List.getElem?_eq_some_iff.1 hi).1
  omega
theorem noOver_two {a b : Nt} (h : ¬ (b.at1 < a.at2 ∧ a.at1 < b.at2)) : NoOver [a, b] := fun i k x y hk hi hy => by
  have h1 := (List.getElem?_eq_some_iff.1 hi).1
  simp only [List.length_cons, List.length_nil] at h1
  obtain rfl : i = 1 := by omega
  obtain rfl : k = 0 := by omega
  cases hi
  cases hy
  exact h
theorem ranked_two (a b : Nt) (h0 : a.rank = ((0 : Nat) : Int)) (h1 : b.rank = ((1 : Nat) : Int)) : Ranked [a, b] := fun k hk => by
  simp only [List.length_cons, List.length_nil] at hk
  match k, hk with
  | 0, _ => exact ⟨0, a, rfl, h0⟩
  | 1, _ => exact ⟨1, b, rfl, h1⟩
set_option maxRecDepth 100000 in
theorem smp_tiers : ∀ i t, smpT[i]? = some t → TOk t i := fun i t h => by
  match i, h with
  | 0, h => cases h; unfold TOk TOk0; decide
  | 1, h => cases h; unfold TOk TOk0; decide
  | 2, h => cases h; unfold TOk TOk0; decide
  | 3, h => cases h; unfold TOk TOk0; decide
  | 4, h => cases h; unfold TOk TOk0; decide
set_option maxRecDepth 100000 in
theorem smp_notes : ∀ i, i < smpN.length → NOk smpT smpN i := fun i hi x hx => by
  have h8 : i < 8 := hi
  match i, h8, hx with
  | 0, _, hx => cases hx; exact ⟨by decide, fun y h0 hy => (by first | exact absurd h0 (by decide) | (cases hy; decide)), by decide, ⟨by first | exact .inl ⟨by decide, by decide⟩ | exact .inr ⟨by decide, _, rfl, by decide⟩, by decide, by decide, by decide⟩, by decide⟩
  | 1, _, hx => cases hx; exact ⟨by decide, fun y h0 hy => (by first | exact absurd h0 (by decide) | (cases hy; decide)), by decide, ⟨by first | exact .inl ⟨by decide, by decide⟩ | exact .inr ⟨by decide, _, rfl, by decide⟩, by decide, by decide, by decide⟩, by decide⟩
  | 2, _, hx => cases hx; exact ⟨by decide, fun y h0 hy => (by first | exact absurd h0 (by decide) | (cases hy; decide)), by decide, ⟨by first | exact .inl ⟨by decide, by decide⟩ | exact .inr ⟨by decide, _, rfl, by decide⟩, by decide, by decide, by decide⟩, by decide⟩
  | 3, _, hx => cases hx; exact ⟨by decide, fun y h0 hy => (by first | exact absurd h0 (by decide) | (cases hy; decide)), by decide, ⟨by first | exact .inl ⟨by decide, by decide⟩ | exact .inr ⟨by decide, _, rfl, by decide⟩, by decide, by decide, by decide⟩, by decide⟩
  | 4, _, hx => cases hx; exact ⟨by decide, fun y h0 hy => (by first | exact absurd h0 (by decide) | (cases hy; decide)), by decide, ⟨by first | exact .inl ⟨by decide, by decide⟩ | exact .inr ⟨by decide, _, rfl, by decide⟩, by decide, by decide, by decide⟩, by decide⟩
  | 5, _, hx => cases hx; exact ⟨by decide, fun y h0 hy => (by first | exact absurd h0 (by decide) | (cases hy; decide)), by decide, ⟨by first | exact .inl ⟨by decide, by decide⟩ | exact .inr ⟨by decide, _, rfl, by decide⟩, by decide, by decide, by decide⟩, by decide⟩
  | 6, _, hx => cases hx; exact ⟨by decide, fun y h0 hy => (by first | exact absurd h0 (by decide) | (cases hy; decide)), by decide, ⟨by first | exact .inl ⟨by decide, by decide⟩ | exact .inr ⟨by decide, _, rfl, by decide⟩, by decide, by decide, by decide⟩, by decide⟩
  | 7, _, hx => cases hx; exact ⟨by decide, fun y h0 hy => (by first | exact absurd h0 (by decide) | (cases hy; decide)), by decide, ⟨by first | exact .inl ⟨by decide, by decide⟩ | exact .inr ⟨by decide, _, rfl, by decide⟩, by decide, by decide, by decide⟩, by decide⟩
set_option maxRecDepth 100000 in
theorem smp_sibs : ∀ t : Nat, t < smpT.length → TierOk smpT smpN (t : Int) := fun t _ x hx ht => by
  simp only [smpN, List.mem_cons, List.not_mem_nil, or_false] at hx
  rcases hx with rfl | rfl | rfl | rfl | rfl | rfl | rfl | rfl
  · have ht2 : (0 : Int) = (t : Int) := ht
    obtain rfl : t = 0 := by omega
    have e : sibF smpN ((0 : Nat) : Int) (0) = [n5_1] := rfl
    show SibOk _ (sibF smpN ((0 : Nat) : Int) (0))
    rw [e]
    exact ⟨fun _ => noOver_one (by decide), fun h => absurd h (by decide), fun h => absurd h (by decide)⟩
  · have ht2 : (1 : Int) = (t : Int) := ht
    obtain rfl : t = 1 := by omega
    have e : sibF smpN ((1 : Nat) : Int) (1) = [n5_2, n5_3] := rfl
    show SibOk _ (sibF smpN ((1 : Nat) : Int) (1))
    rw [e]
    exact ⟨fun _ => noOver_two (by decide), fun h => absurd h (by decide), fun h => absurd h (by decide)⟩
  · have ht2 : (1 : Int) = (t : Int) := ht
    obtain rfl : t = 1 := by omega
    have e : sibF smpN ((1 : Nat) : Int) (1) = [n5_2, n5_3] := rfl
    show SibOk _ (sibF smpN ((1 : Nat) : Int) (1))
    rw [e]
    exact ⟨fun _ => noOver_two (by decide), fun h => absurd h (by decide), fun h => absurd h (by decide)⟩
  · have ht2 : (2 : Int) = (t : Int) := ht
    obtain rfl : t = 2 := by omega
    have e : sibF smpN ((2 : Nat) : Int) (2) = [n5_4, n5_5] := rfl
    show SibOk _ (sibF smpN ((2 : Nat) : Int) (2))
    rw [e]
    exact ⟨fun h => absurd h (by decide), fun _ => ranked_two _ _ rfl rfl, fun h => absurd h (by decide)⟩
  · have ht2 : (2 : Int) = (t : Int) := ht
    obtain rfl : t = 2 := by omega
    have e : sibF smpN ((2 : Nat) : Int) (2) = [n5_4, n5_5] := rfl
    show SibOk _ (sibF smpN ((2 : Nat) : Int) (2))
    rw [e]
    exact ⟨fun h => absurd h (by decide), fun _ => ranked_two _ _ rfl rfl, fun h => absurd h (by decide)⟩
  · have ht2 : (3 : Int) = (t : Int) := ht
    obtain rfl : t = 3 := by omega
    have e : sibF smpN ((3 : Nat) : Int) (4) = [n5_6] := rfl
    show SibOk _ (sibF smpN ((3 : Nat) : Int) (4))
    rw [e]
    exact ⟨fun h => absurd h (by decide), fun h => absurd h (by decide), fun _ => by decide⟩
  · have ht2 : (3 : Int) = (t : Int) := ht
    obtain rfl : t = 3 := by omega
    have e : sibF smpN ((3 : Nat) : Int) (5) = [n5_7] := rfl
    show SibOk _ (sibF smpN ((3 : Nat) : Int) (5))
    rw [e]
    exact ⟨fun h => absurd h (by decide), fun h => absurd h (by decide), fun _ => by decide⟩
  · have ht2 : (4 : Int) = (t : Int) := ht
    obtain rfl : t = 4 := by omega
    have e : sibF smpN ((4 : Nat) : Int) (1) = [n5_8] := rfl
    show SibOk _ (sibF smpN ((4 : Nat) : Int) (1))
    rw [e]
    exact ⟨fun h => absurd h (by decide), fun h => absurd h (by decide), fun _ => by decide⟩
theorem smp_ok : DocOk smpT smpN := ⟨smp_tiers, smp_notes, smp_sibs⟩
set_option maxRecDepth 100000 in
theorem smp_rows : rowsL smpT smpN 1 5 = [[⟨#[98, 97, 109, 105]⟩, ⟨#[116, 97]⟩], [⟨#[98, 97, 45, 109, 105]⟩, ⟨#[]⟩], [⟨#[100, 111, 103, 45, 80, 76]⟩, ⟨#[]⟩]] := by decide +kernel
set_option maxRecDepth 100000 in
theorem smp_example : exL smpT smpN 1 5 40 = [⟨#[98, 97, 109, 105, 32, 32, 32, 116, 97]⟩, ⟨#[98, 97, 45, 109, 105]⟩, ⟨#[100, 111, 103, 45, 80, 76]⟩, ⟨#[34, 100, 111, 103, 115, 34]⟩] := by decide +kernel
theorem itoa_small {n : Nat} (h : n < 10) : itoaB (n : Int) = ⟨#[UInt8.ofNat (48 + n)]⟩ := by
  unfold itoaB
  rw [Lib.itoa_nonneg, Lib.decDigits, dif_pos h]
def smpD (ta na : Option Addr) (tc nc : Nat) : Dc := ⟨⟨1, ⟨#[]⟩, 900, 0, none, 0, 0, ta, 5, tc, na, 8, nc⟩, smpT, smpN⟩
def smpP (ra : Option Addr) (rc : Nat) : Pt := ⟨1, ⟨#[80, 108, 117, 114, 97, 108]⟩, ⟨#[109, 105]⟩, none, 0, 0, ra, 2, rc, [(1, 2), (2, 1)]⟩
theorem smp_dcok (ta na : Option Addr) (tc nc : Nat) : DcOk (smpD ta na tc nc) := ⟨smp_ok, by show 8 ≤ 14; omega, by show 5 ≤ 6; omega⟩
theorem smp_nums (ra : Option Addr) (rc : Nat) : numsF [] (allR [smpP ra rc]) = [(1, 2), (2, 1)] := by
  show numsF [] ([(1, 2), (2, 1)] : List Rf) = _
  decide
set_option maxRecDepth 100000 in
theorem smp_ex2 : (exL smpT smpN 2 5 40).map indB = [⟨#[32, 32, 32, 32, 98, 97, 109, 105]⟩, ⟨#[32, 32, 32, 32, 98, 97, 45, 109, 105]⟩, ⟨#[32, 32, 32, 32, 100, 111, 103, 45, 80, 76]⟩] := by decide +kernel
set_option maxRecDepth 100000 in
theorem smp_lines (ta na ra : Option Addr) (tc nc rc : Nat) : linesG [smpD ta na tc nc] [smpP ra rc] 40 = [⟨#[49, 46, 32, 80, 108, 117, 114, 97, 108]⟩, ⟨#[109, 105]⟩, ⟨#[32, 32, 40, 49, 41, 32, 91, 49, 46, 50, 93]⟩, ⟨#[32, 32, 32, 32, 98, 97, 109, 105]⟩, ⟨#[32, 32, 32, 32, 98, 97, 45, 109, 105]⟩, ⟨#[32, 32, 32, 32, 100, 111, 103, 45, 80, 76]⟩, ⟨#[32, 32, 40, 50, 41, 32, 91, 50, 46, 49, 93]⟩] := by
  unfold linesG
  rw [smp_nums]
  show [] ++ (headB 0 (smpP ra rc) :: (txtL (smpP ra rc) ++ ([(1, 2), (2, 1)] : List Rf).flatMap (refL [(1, 2), (2, 1)] [smpD ta na tc nc] 40))) = _
  rw [List.nil_append, List.flatMap_cons, List.flatMap_cons, List.flatMap_nil, List.append_nil]
  have h1 : headB 0 (smpP ra rc) = ⟨#[49, 46, 32, 80, 108, 117, 114, 97, 108]⟩ := by
    show itoaB ((1 : Nat) : Int) ++ _ ++ _ = _
    rw [itoa_small (by omega)]
    rfl
  have h2 : txtL (smpP ra rc) = [⟨#[109, 105]⟩] := rfl
  have h3 : refL [(1, 2), (2, 1)] [smpD ta na tc nc] 40 (1, 2) = ⟨#[32, 32, 40, 49, 41, 32, 91, 49, 46, 50, 93]⟩ :: (exL smpT smpN 2 5 40).map indB := by
    show (_ ++ itoaB ((1 : Nat) : Int) ++ _ ++ itoaB ((1 : Nat) : Int) ++ _ ++ itoaB ((2 : Nat) : Int) ++ _) :: _ = _
    rw [itoa_small (by omega), itoa_small (by omega)]
    rfl
  have h4 : refL [(1, 2), (2, 1)] [smpD ta na tc nc] 40 (2, 1) = [⟨#[32, 32, 40, 50, 41, 32, 91, 50, 46, 49, 93]⟩] := by
    show (_ ++ itoaB ((2 : Nat) : Int) ++ _ ++ itoaB ((2 : Nat) : Int) ++ _ ++ itoaB ((1 : Nat) : Int) ++ _) :: _ = _
    rw [itoa_small (by omega), itoa_small (by omega)]
    rfl
  rw [h1, h2, h3, h4, smp_ex2]
  rfl
end Go.Proofs.YthcabnfcgjnlnaaGreatDoor
/-
  A REGION THAT DRAWS ITS ORDER, whose last operations wait for all that is ahead of them: the first ones are shown once each (as in XRegionEach), the last ones are walked in their order.
-/
namespace Go.Proofs.YthcabnfcgjnlnaaGreatDoor
open Go Go.RowKit
set_option linter.unusedVariables false
variable {P : Program} {ops : Array Oper} {Q : Exit → Act → World → Prop}

/-- From m on, each operation waits for all ahead of it; those ahead of m have results and no guards. -/
def tailB (l : List Oper) (m : Nat) : Bool :=
  ((l.take m).all fun o => o.dst.isSome && o.guard.isNone) && ((List.range l.length).all fun i => decide (i < m) || (List.range i).all fun j => reachB l.toArray l.length i j)
theorem tail_front {l : List Oper} {m i : Nat} {o : Oper} (h : tailB l m = true) (hi : i < m) (ho : l[i]? = some o) : (∃ t, o.dst = some t) ∧ o.guard = none := by
  unfold tailB at h
  rw [Bool.and_eq_true] at h
  have h1 := List.all_eq_true.1 h.1 o (List.mem_of_getElem? (i := i) (by rw [List.getElem?_take, if_pos hi]; exact ho))
  rw [Bool.and_eq_true] at h1
  exact ⟨Option.isSome_iff_exists.1 h1.1, Option.isNone_iff_eq_none.1 h1.2⟩
theorem tail_back {l : List Oper} {m i j : Nat} (h : tailB l m = true) (hi : i < l.length) (hm : m ≤ i) (hj : j < i) : reachB l.toArray l.length i j = true := by
  unfold tailB at h
  rw [Bool.and_eq_true] at h
  have h1 := List.all_eq_true.1 h.2 i (List.mem_range.2 hi)
  rw [Bool.or_eq_true] at h1
  rcases h1 with h1 | h1
  · exact absurd (of_decide_eq_true h1) (by omega)
  · exact List.all_eq_true.1 h1 j (List.mem_range.2 hj)
/-- From an operation that is ready, all that it waits for is done. -/
theorem ready_reach {l : Array Bool} (hc : Closed ops l) {i j f : Nat} {o : Oper} (ho : ops[i]? = some o) (hr : ∀ e ∈ o.after, Region.binds .any e = true → l.getD e.on false = true) (h : reachB ops f i j = true) : l.getD j false = true := by
  cases f with
  | zero => cases h
  | succ f =>
    unfold reachB at h
    rw [ho] at h
    obtain ⟨e, he, hb⟩ := Array.any_eq_true'.1 h
    rw [Bool.and_eq_true, Bool.or_eq_true, beq_iff_eq] at hb
    have h1 := hr e he hb.1
    rcases hb.2 with h2 | h2
    · rw [← h2]; exact h1
    · exact hc.reach h2 h1
theorem putAll_front {l : List Oper} {m : Nat} {a0 a : Act} (hs : a.tmps.size = a0.tmps.size) (hd : a.defers = a0.defers) (hold : ∀ t, (∀ (i : Nat) (o : Oper), i < m → l[i]? = some o → o.dst ≠ some t) → a.tmps.getD t undef = a0.tmps.getD t undef) :
    putAll (l.take m) 0 (valsOf l.toArray a) a0 = a := by
  obtain ⟨h1, h2⟩ := putAll_size (valsOf l.toArray a) (l.take m) 0 a0
  refine act_ext (h1.trans hs.symm) (h2.trans hd.symm) fun t ht => ?_
  refine putAll_at _ a t ht (l.take m) 0 a0 hs.symm (fun i o ho hdst => ?_) ?_
  · rw [List.getElem?_take] at ho
    split at ho
    · rw [Nat.zero_add]
      unfold valsOf
      rw [show l.toArray[i]? = some o by simpa using ho]
      show slotV o a = _
      unfold slotV
      rw [hdst]
    · cases ho
  · by_cases e : ∃ (i : Nat) (o : Oper), (l.take m)[i]? = some o ∧ o.dst = some t
    · exact .inl e
    · exact .inr (hold t fun i o hi ho hdst => e ⟨i, o, by rw [List.getElem?_take, if_pos hi]; exact ho, hdst⟩).symm
/-- What holds: either the first ones are under way, or the last ones are done up to k. -/
def TInv (P : Program) (Q : Exit → Act → World → Prop) (lo : List Oper) (m : Nat) (a0 : Act) (C : World → Prop) (V : Nat → Value → World → Prop) (l : Array Bool) (a : Act) (w : World) : Prop :=
  (RInv lo.toArray a0 C (fun _ => V) l a w ∧ ∀ i, m ≤ i → l.getD i false = false) ∨
  (∃ k, m ≤ k ∧ k ≤ lo.length ∧ l.size = lo.length ∧ (∀ i, i < k → l.getD i false = true) ∧ (∀ i, k ≤ i → l.getD i false = false) ∧ Closed lo.toArray l ∧ wpList P lo.toArray Q (lo.drop k) a w)
theorem wpOp_head {lo : List Oper} {k : Nat} {o : Oper} {a : Act} {w : World} (ho : lo[k]? = some o) (h : wpList P lo.toArray Q (lo.drop k) a w) : wpOp P lo.toArray Q k (wpList P lo.toArray Q (lo.drop (k + 1))) a w := by
  have hk := (List.getElem?_eq_some_iff.1 ho).1
  have he : lo[k] = o := (List.getElem?_eq_some_iff.1 ho).2
  rw [List.drop_eq_getElem_cons hk, he] at h
  unfold wpOp
  rw [show lo.toArray[k]? = some o by simpa using ho]
  exact h
theorem closed_set {l : Array Bool} {i : Nat} {o : Oper} (h : Closed ops l) (hl : l.size = ops.size) (ho : ops[i]? = some o) (hr : ∀ e ∈ o.after, Region.binds .any e = true → l.getD e.on false = true) : Closed ops (l.setIfInBounds i true) := by
  have hi : i < l.size := by rw [hl]; exact (Array.getElem?_eq_some_iff.1 ho).1
  intro j oj hj hjl e he hb
  by_cases e1 : i = e.on
  · rw [← e1]; exact getD_set_self hi
  · rw [getD_set_ne e1]
    by_cases e2 : i = j
    · subst e2
      rw [ho] at hj
      cases hj
      exact hr e he hb
    · rw [getD_set_ne e2] at hjl
      exact h j oj hj hjl e he hb
theorem wp_region_toldT {id : Nat} (m : Nat) {a0 : Act} {w0 : World} {l : List Oper} (Vs : List Told) (hm : P.follows .mixedOrders = true) (hb : ((backB l.toArray && (distB l.toArray && dstB l.toArray a0.tmps.size)) && tailB l m) = true)
    (hstep : StepsAt P Q (l.take m) a0 w0 Vs 0 (l.take m))
    (hQ : ∀ (w : World) (vals : Nat → Value), Below w0.heap.size w0 w → (∀ j, j < m → j < l.length → toldAt Vs j (vals j) w) → wpList P l.toArray Q (l.drop m) (putAll (l.take m) 0 vals a0) w) : (Code.region id l.toArray true).wp P Q a0 w0 := by
  rw [Bool.and_eq_true, Bool.and_eq_true, Bool.and_eq_true] at hb
  obtain ⟨⟨hb1, hb2, hb3⟩, hb4⟩ := hb
  have hrep : ∀ i, (Array.replicate l.toArray.size false).getD i false = false := fun i => by
    simp only [Array.getD]
    split <;> simp
  -- all of the first ones done: the last ones may begin
  have hgo : ∀ (s : Array Bool) (a : Act) (w : World), RInv l.toArray a0 (fun w => Below w0.heap.size w0 w) (fun _ => toldAt Vs) s a w → (∀ i, m ≤ i → s.getD i false = false) → (∀ i, i < m → i < l.length → s.getD i false = true) → wpList P l.toArray Q (l.drop m) a w := by
    intro s a w h hno hall
    have hp := putAll_front (l := l) (m := m) h.size h.defers fun t ht => h.old t fun i o ho hl => ht i o (by
      rcases Nat.lt_or_ge i m with h1 | h1
      · exact h1
      · rw [hno i h1] at hl; cases hl) (by simpa using ho)
    have := hQ w (valsOf l.toArray a) h.cls fun j hj h1 => by
      have ho : l[j]? = some l[j] := List.getElem?_eq_getElem h1
      obtain ⟨⟨t, hd⟩, _⟩ := tail_front hb4 hj ho
      have := h.new j l[j] t (by simp) (hall j hj h1) hd
      unfold valsOf
      rw [show l.toArray[j]? = some l[j] by simp]
      show toldAt Vs j (slotV l[j] a) w
      unfold slotV
      rw [hd]
      exact this
    rw [hp] at this
    exact this
  refine wp_region_inv hm (TInv P Q l m a0 (fun w => Below w0.heap.size w0 w) (toldAt Vs)) (.inl ⟨⟨by simp, ?_, (Below.refl _ _).drew, rfl, rfl, fun _ _ => rfl, ?_⟩, fun i _ => hrep i⟩) ?_ ?_
  · intro j o _ hl
    rw [hrep] at hl
    cases hl
  · intro i o t _ hl
    rw [hrep] at hl
    cases hl
  · intro s a w h hr
    rcases h with ⟨h, hno⟩ | ⟨k, hk1, hk2, hs, hd, hnd, hc, hw⟩
    · have hall := all_listed hb1 h.len hr
      have hml : l.length ≤ m := by
        rcases Nat.lt_or_ge m l.length with h1 | h1
        · have := hall m (by simpa using h1)
          rw [hno m (Nat.le_refl _)] at this
          cases this
        · exact h1
      have := hgo s a w h hno fun i _ hi => hall i (by simpa using hi)
      rw [List.drop_of_length_le hml] at this
      exact this
    · have hall := all_listed hb1 (by simpa using hs) hr
      have hkl : k = l.length := by
        rcases Nat.lt_or_ge k l.length with h1 | h1
        · have := hall k (by simpa using h1)
          rw [hnd k (Nat.le_refl _)] at this
          cases this
        · omega
      subst hkl
      rw [List.drop_of_length_le (Nat.le_refl _)] at hw
      exact hw
  · intro s a w i h hi
    obtain ⟨hun, o, ho, hr⟩ := mem_ready.1 hi
    have hol : l[i]? = some o := by simpa using ho
    have hil : i < l.length := (List.getElem?_eq_some_iff.1 hol).1
    have hunf := getD_true_false hun
    rcases h with ⟨h, hno⟩ | ⟨k, hk1, hk2, hs, hd, hnd, hc, hw⟩
    · rcases Nat.lt_or_ge i m with him | him
      · obtain ⟨⟨t, hdt⟩, hg⟩ := tail_front hb4 him hol
        have hp := putAll_front (l := l) (m := m) h.size h.defers fun t ht => h.old t fun j oj hj hl => ht j oj (by
          rcases Nat.lt_or_ge j m with h1 | h1
          · exact h1
          · rw [hno j h1] at hl; cases hl) (by simpa using hj)
        have hst := stepsAt_get hstep (show (l.take m)[i]? = some o by rw [List.getElem?_take, if_pos him]; exact hol) w (valsOf l.toArray a) h.cls (fun j hj => by
          obtain ⟨e, he, h2⟩ := List.any_eq_true.1 hj
          rw [Bool.and_eq_true, beq_iff_eq] at h2
          have hea : e ∈ o.after := by simpa using he
          have h3 := hr e hea h2.1
          have hjl : e.on < s.size := by
            rcases Nat.lt_or_ge e.on s.size with h4 | h4
            · exact h4
            · simp [Array.getD, Nat.not_lt.2 h4] at h3
          have hjl2 : e.on < l.length := by have := h.len; simpa [this] using hjl
          have hjm : e.on < m := by
            rcases Nat.lt_or_ge e.on m with h4 | h4
            · exact h4
            · rw [hno _ h4] at h3; cases h3
          have hoj : l[e.on]? = some l[e.on] := List.getElem?_eq_getElem hjl2
          obtain ⟨⟨tj, hdj⟩, _⟩ := tail_front hb4 hjm hoj
          have := h.new e.on l[e.on] tj (by simp) h3 hdj
          rw [← h2.2]
          unfold valsOf
          rw [show l.toArray[e.on]? = some l[e.on] by simp]
          show toldAt Vs e.on (slotV l[e.on] a) w
          unfold slotV
          rw [hdj]
          exact this)
          (fun a' w' => TInv P Q l m a0 (fun w => Below w0.heap.size w0 w) (toldAt Vs) (s.setIfInBounds i true) a' w') (fun v w' h1 h2 => ?_)
        · rw [hp] at hst
          unfold gwp at hst
          rw [hg] at hst
          unfold wpOp
          rw [ho]
          have hw1 : Region.wanted o (yielded l.toArray a.tmps) = true := by
            unfold Region.wanted
            rw [hg]
          simp only [hw1, if_true]
          exact .inl hst
        · rw [hp]
          rw [Nat.zero_add, hdt] at h1
          refine .inl ⟨rinv_step (dist_of hb2) h ho hdt (dst_of hb3 i o t ho hdt) hun hr (h.cls.trans (h2.mono h.cls.size)) h1 fun j u _ hu => toldAt_kept Vs j u w w' hu h2, fun j hj => ?_⟩
          rw [getD_set_ne (by omega)]
          exact hno j hj
      · have hre : ∀ j, j < i → s.getD j false = true := fun j hj => ready_reach h.closed ho hr (tail_back hb4 hil him hj)
        have him2 : i = m := by
          rcases Nat.lt_or_ge m i with h1 | h1
          · have := hre m h1
            rw [hno m (Nat.le_refl _)] at this
            cases this
          · omega
        subst him2
        refine wpOp_mono (fun a' w' h' => ?_) (wpOp_head hol (hgo s a w h hno fun j hj _ => hre j hj))
        have hsz : s.size = l.length := by simpa using h.len
        refine .inr ⟨i + 1, by omega, by omega, by simpa using hsz, fun j hj => ?_, fun j hj => ?_, closed_set h.closed h.len ho hr, h'⟩
        · by_cases e : i = j
          · subst e; exact getD_set_self (by omega)
          · rw [getD_set_ne e]; exact hre j (by omega)
        · rw [getD_set_ne (by omega)]
          exact hno j (by omega)
    · have hik : i = k := by
        rcases Nat.lt_trichotomy i k with h1 | h1 | h1
        · rw [hd i h1] at hunf; cases hunf
        · exact h1
        · have := ready_reach hc ho hr (tail_back hb4 hil (by omega) h1)
          rw [hnd k (Nat.le_refl _)] at this
          cases this
      subst hik
      refine wpOp_mono (fun a' w' h' => ?_) (wpOp_head hol hw)
      refine .inr ⟨i + 1, by omega, by omega, by simpa using hs, fun j hj => ?_, fun j hj => ?_, closed_set hc (by simpa using hs) ho hr, h'⟩
      · by_cases e : i = j
        · subst e; exact getD_set_self (by omega)
        · rw [getD_set_ne e]; exact hd j (by omega)
      · rw [getD_set_ne (by omega)]
        exact hnd j (by omega)
end Go.Proofs.YthcabnfcgjnlnaaGreatDoor
