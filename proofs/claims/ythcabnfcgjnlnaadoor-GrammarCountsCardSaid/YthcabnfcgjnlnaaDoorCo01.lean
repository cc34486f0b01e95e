import Derived.Test.YthcabnfcgjnlnaaDoorC14
import Derived.Test.YthcabnfcgjnlnaaDoorRows
import Derived.Deep.Slices
import Derived.ChangeSame
import Derived.ChangeArms
import Derived.Lib.SmallJoins
set_option linter.unusedVariables false
set_option linter.unusedSimpArgs false
namespace Go.Proofs.YthcabnfcgjnlnaaDoor
section
theorem numsF_pre : ∀ (rs out : List Rf), ∃ s, numsF out rs = out ++ s
 | [], out => ⟨[], by simp [numsF]⟩
 | r :: rs, out => by
  obtain ⟨s, hs⟩ := numsF_pre rs (if r ∈ out then out else out ++ [r])
  unfold numsF
  rw [hs]
  by_cases h : r ∈ out
  ·rw [if_pos h]; exact ⟨s, rfl⟩
  ·rw [if_neg h]; exact ⟨r :: s, by simp⟩
theorem numsF_mem : ∀ (rs out : List Rf) (r : Rf), r ∈ numsF out rs ↔ r ∈ out ∨ r ∈ rs
 | [], out, r => by simp [numsF]
 | a :: rs, out, r => by
  unfold numsF
  rw [numsF_mem rs, List.mem_cons]
  by_cases h : a ∈ out
  ·rw [if_pos h]
   constructor
   ·rintro (h1 | h1); exact .inl h1; exact .inr (.inr h1)
   ·rintro (h1 | h1 | h1); exact .inl h1; exact .inl (h1 ▸ h); exact .inr h1
  ·rw [if_neg h, List.mem_append, List.mem_singleton]
   constructor
   ·rintro ((h1 | h1) | h1); exact .inl h1; exact .inr (.inl h1); exact .inr (.inr h1)
   ·rintro (h1 | h1 | h1); exact .inl (.inl h1); exact .inl (.inr h1); exact .inr h1
theorem numR_at {out : List Rf} {r : Rf} (h : r ∈ out) : out[(numR out r - 1).toNat]? = some r := by
 unfold numR idxR
 rw [if_pos h, Int.add_sub_cancel, Int.toNat_natCast]
 rw [List.getElem?_eq_getElem (List.idxOf_lt_length_of_mem h), List.getElem_idxOf]
theorem numR_next {a : List Rf} {r : Rf} {b : List Rf} : 1 <= numR (numsF [] (a ++ r :: b)) r /\ numR (numsF [] (a ++ r :: b)) r <= ((numsF [] a).length : Int) + 1 /\
  ((numsF [] (a ++ [r])).length : Int) = max ((numsF [] a).length : Int) (numR (numsF [] (a ++ r :: b)) r) := by
 have e : a ++ r :: b = (a ++ [r]) ++ b := by simp
 rw [e, numsF_app (a ++ [r]) b]
 obtain ⟨s, hs⟩ := numsF_pre b (numsF [] (a ++ [r]))
 have hm : r ∈ numsF [] (a ++ [r]) := (numsF_mem _ _ _).2 (.inr (by simp))
 rw [hs, numR_pre hm, numsF_snoc]
 by_cases h : r ∈ numsF [] a
 ·rw [if_pos h]
  have h1 := numR_range (numsF [] a) r
  have h2 : numR (numsF [] a) r ≠ 0 := fun e => numR_zero.1 e h
  omega
 ·rw [if_neg h, numR_new h, List.length_append]
  simp only [List.length_cons, List.length_nil]
  omega
end
section
open Go.RowKit Go.ChangeShapes Go.WideShapes Go.ChangeAt Go.Deep Go.Joins
theorem list_of {α : Type} [Inhabited α] {n : Nat} {p : Nat -> α -> Prop} (h : ∀ i, i < n -> ∃ x, p i x) : ∃ L : List α, L.length = n /\ ∀ i x, L[i]? = some x -> p i x := by
 obtain ⟨f, hf⟩ := choose_lt h
 refine ⟨(List.range n).map f, by simp, fun i x hx => ?_⟩
 have hi := (List.getElem?_eq_some_iff.1 hx).1
 simp at hi
 have e : some (f i) = some x := by rw [<- hx]; simp [hi]
 injection e with e
 rw [<- e]
 exact hf i hi
theorem cellsInt : Tryd.prog.cellsOf 3 = 1 := by kernel_rfl
section
variable {H : Type} {enc : TypeId × Value → H} {w : World} {spare : Nat → Bool} {held : Bool} {fuel : Nat} {v : Value} {x : DataW H × List MemPlace}
theorem open_ints (hf : DataW.trod enc Tryd.prog w 0 spare held fuel 27 [v] = some x) : ∃ A n c, ∃ l : List Int, v = .slice A n c /\ Reads w w.heap.size 1 A n (l.map (.int .i64)) /\ n <= maxLen := by
 rcases open_slice1 Tryd.underlying27 cellsInt hf with ⟨h0, _⟩ | ⟨a, len, cap, m, n, V, D, Pl, h0, _, hl, hm, hmm, _, hx⟩
 ·injection h0 with h0
  subst h0
  exact ⟨none, 0, 0, [], rfl, Reads.none_, Nat.zero_le _⟩
 ·injection h0 with h0
  subst h0
  have hlm : len <= m := by rw [hmm]; split <;> omega
  obtain ⟨l, hlen, hL⟩ := list_of (α := Int) (n := len) (p := fun i s => w.cell? (a.add i) = some (.int .i64 s)) (fun i hi => by
   obtain ⟨h1, h2⟩ := hx i (by omega)
   obtain ⟨s, hs, _, _⟩ := DataW.trod_int Tryd.underlying3 h2
   injection hs with hs
   exact ⟨s, by rw [h1, hs]⟩)
  refine ⟨some a, len, cap, l, rfl, ⟨by simpa using hlen, fun hn => ⟨a, rfl, ?_, fun j u hu => ?_⟩⟩, by omega⟩
  ·have := World.block_lt_of_cell? w _ (hx 0 (by omega)).1
   rw [block_of_add] at this
   exact this
  ·rw [List.getElem?_map] at hu
   cases hz : l[j]? with
   | none => rw [hz] at hu; cases hu
   | some s => rw [hz] at hu; cases hu; exact hL j s hz
end
end
section
open Go.RowKit Go.ChangeShapes Go.WideShapes Go.ChangeAt Go.Deep Go.Joins Ru Lay
section
variable {H : Type} {enc : TypeId × Value → H} {w : World} {spare : Nat → Bool} {held : Bool} {fuel : Nat} {v : Value} {x : DataW H × List MemPlace}
theorem trod_fields {t : TypeId} {fs : Array Field} {cs : List Value} (ht : Tryd.prog.underlying t = some (.struct fs)) (h : DataW.trod enc Tryd.prog w 0 spare held fuel t cs = some x) :
  ∃ n, ∀ (i : Nat) (f : Field), fs[i]? = some f -> ∃ y, DataW.trod enc Tryd.prog w 0 spare held n f.type ((cs.drop f.offset).take (Tryd.prog.cellsOf f.type)) = some y := by
 obtain ⟨xs, n, _, _, _, hlen, hs⟩ := DataW.trod_struct ht h
 refine ⟨n, fun i f hf => ?_⟩
 have hi : i < xs.length := by rw [hlen]; exact (Array.getElem?_eq_some_iff.1 hf).1
 exact ⟨xs[i], by rw [hs i f hf]; exact List.getElem?_eq_getElem hi⟩
theorem int_of {c : Value} (h : DataW.trod enc Tryd.prog w 0 spare held fuel 3 [c] = some x) : ∃ s, c = .int .i64 s := by
 obtain ⟨s, e, _, _⟩ := DataW.trod_int Tryd.underlying3 h
 injection e with e
 exact ⟨s, e⟩
theorem str_of {c : Value} (h : DataW.trod enc Tryd.prog w 0 spare held fuel 9 [c] = some x) : ∃ s, c = .string s /\ s.size <= maxLen := by
 obtain ⟨s, e, _, hs⟩ := DataW.trod_string Tryd.underlying9 h
 injection e with e
 exact ⟨s, e, hs⟩
theorem recR_of {α : Type} [Inhabited α] {f : α -> List Value} {s len : Nat} {a : Addr} {p : α -> Prop} (hs : 0 < s) (hf : ∀ x, (f x).length = s) (h : ∀ i, i < len -> ∃ x : α, (∀ j u, (f x)[j]? = some u -> w.cell? (a.add (i * s + j)) = some u) /\ p x) :
  ∃ l, RecR f s w w.heap.size (some a) len l /\ ∀ x ∈ l, p x := by
 obtain ⟨U, hlen, hU⟩ := list_of (α := α) (n := len) (p := fun i x => (∀ j u, (f x)[j]? = some u -> w.cell? (a.add (i * s + j)) = some u) /\ p x) h
 refine ⟨U, ⟨⟨by rw [flat_len hf, hlen], fun hn => ⟨a, rfl, ?_, fun j u hu => ?_⟩⟩, hlen⟩, fun x hx => ?_⟩
 ·have hl0 : 0 < (f U[0]).length := by rw [hf]; exact hs
  have h0 := (hU 0 U[0] (List.getElem?_eq_getElem (by omega))).1 0 _ (List.getElem?_eq_getElem hl0)
  have := World.block_lt_of_cell? w _ h0
  rw [block_of_add] at this
  exact this
 ·have hjl : j < len * s := by have := (List.getElem?_eq_some_iff.1 hu).1; rw [flat_len hf, hlen] at this; exact this
  have hk : j / s < U.length := by rw [hlen]; exact Nat.div_lt_of_lt_mul (by rw [Nat.mul_comm]; exact hjl)
  have hp := List.getElem?_eq_getElem hk
  have e : j / s * s + j % s = j := by rw [Nat.mul_comm]; exact Nat.div_add_mod j s
  have h1 := flat_at (f := f) hf hp (Nat.mod_lt j hs)
  rw [e, hu] at h1
  have := (hU (j / s) _ hp).1 (j % s) u h1.symm
  rw [e] at this
  exact this
 ·obtain ⟨i, hi⟩ := List.getElem?_of_mem hx
  exact (hU i x hi).2
end
end
section
open Go.RowKit Ru Lay
attribute [local go_sem ↓] Go.wp_at_zero Go.wp_at_succ
theorem eq_refB (a b c d : Int) (w : World) : (Op.equalIn 10000 32 (.agg #[.int .i64 a, .int .i64 b]) (.agg #[.int .i64 c, .int .i64 d])).run Tryd.prog w = .ok (decide ((a, b) = (c, d))) w := by
 have h1 : ∀ (W : World) (x y : Int), (Op.equalIn 9999 3 (.int .i64 x) (.int .i64 y)).run Tryd.prog W = .ok (x == y) W := fun W x y => run_equalIn_int W 9998 _ _ .i64 x y Tryd.underlying3
 rw [run_equalIn_struct w 9999 _ _ _ (by simp only [Program.fieldsOf, Tryd.underlying32]) (by kernel_rfl)]
 by_cases e1 : a = c
 ·by_cases e2 : b = d
  ·subst e1 e2
   simp [Program.fieldsOf, Tryd.underlying32, Op.eqFields, part, h1, Tryd.isAgg3, Tryd.sizeOf3]
  ·subst e1
   simp [Program.fieldsOf, Tryd.underlying32, Op.eqFields, part, h1, Tryd.isAgg3, Tryd.sizeOf3, e2]
 ·simp [Program.fieldsOf, Tryd.underlying32, Op.eqFields, part, h1, Tryd.isAgg3, Tryd.sizeOf3, e1]
def FewP (p : Pt) : Prop := p.title.size <= 100 /\ p.text.size <= 400 /\ p.rn <= 20
def FewPost55 (n : Nat) (L : List Pt) (w : World) (e : Ending) (w' : World) : Prop := ∃ b, e = .returned (.bool b) /\ (b = true -> n <= 45 /\ ∀ p ∈ L, FewP p) /\ w = w'
theorem FewPost55.no {n : Nat} {L : List Pt} {w : World} : FewPost55 n L w (.returned (.bool false)) w := ⟨false, rfl, fun h => (by cases h), rfl⟩
theorem pre_allG {α : Type} {l : List α} {Q : α -> Prop} (h : ∀ j x, j < l.length -> l[j]? = some x -> Q x) : ∀ x ∈ l, Q x := fun x hx => by
 obtain ⟨j, hj⟩ := List.getElem?_of_mem hx
 exact h j x (List.getElem?_eq_some_iff.1 hj).1 hj
theorem pre_nextG {α : Type} {l : List α} {Q : α -> Prop} {i : Nat} {x : α} (h : ∀ j y, j < i -> l[j]? = some y -> Q y) (hx : l[i]? = some x) (hq : Q x) : ∀ j y, j < i + 1 -> l[j]? = some y -> Q y := fun j y hj hy => by
 by_cases e : j = i
 ·subst e
  rw [hx] at hy
  cases hy
  exact hq
 ·exact h j y (by omega) hy
set_option maxHeartbeats 4000000 in
set_option maxRecDepth 100000 in
theorem few55_any (A : Option Addr) (n c : Nat) (L : List Pt) (w : World) (hP : PtsR w w.heap.size A n L) (hn : n <= 9223372036854775807) :
  Calls Tryd.prog 4 #[.slice A n c] w (FewPost55 n L w) := by
 have HL := hI hP
 have HLN := hI hP.len
 clear hP
 go_enter Tryd.func4, Tryd.ntmps4
 go_wp2_with fail
 go_loop [3] (fun v3 => ∃ i : Nat, i <= n /\ i <= 46 /\ v3 = .int .i64 i /\ Hid (∀ j p, j < i -> L[j]? = some p -> FewP p)) (fun v3 => n - (intOf v3).toNat)
 case atStart => exact ⟨0, Nat.zero_le _, by omega, rfl, fun j p h => by omega⟩
 case round =>
  obtain ⟨i, hi, hi46, rfl, HP⟩ := hrel
  by_cases hlt : i < n
  ·have hiz : (i : Int) < (n : Int) := by omega
   have hiA : (0 : Int) <= (i : Int) := by omega
   by_cases h46 : i < 46
   ·have hi2 : (i : Int) < 46 := by omega
    have hi3 : i < 46 := h46
    obtain ⟨ad, p, rfl, hab, hp, hpr, hpc⟩ := HL.out.at_ hlt
    obtain ⟨q0, q1, q2, q3, q4⟩ := hpc w bR
    have HX := hI hp
    have HI := hI hlt
    clear hp hpc hpr
    by_cases h1 : p.title.size <= 100
    ·have d1 : decide ((p.title.size : Int) > 100) = false := decide_eq_false (by omega)
     have d1' : decide (100 < p.title.size) = false := decide_eq_false (by omega)
     have d1'' : decide ((100 : Int) < (p.title.size : Int)) = false := decide_eq_false (by omega)
     by_cases h2 : p.text.size <= 400
     ·have d2 : decide ((p.text.size : Int) > 400) = false := decide_eq_false (by omega)
      have d2' : decide (400 < p.text.size) = false := decide_eq_false (by omega)
      have d2'' : decide ((400 : Int) < (p.text.size : Int)) = false := decide_eq_false (by omega)
      by_cases h3 : p.en <= 40
      ·have d3 : decide ((p.en : Int) > 40) = false := decide_eq_false (by omega)
       have d3' : decide (40 < p.en) = false := decide_eq_false (by omega)
       have d3'' : decide ((40 : Int) < (p.en : Int)) = false := decide_eq_false (by omega)
       by_cases h4 : p.rn <= 20
       ·have d4 : decide ((p.rn : Int) > 20) = false := decide_eq_false (by omega)
        have d4' : decide (20 < p.rn) = false := decide_eq_false (by omega)
        have d4'' : decide ((20 : Int) < (p.rn : Int)) = false := decide_eq_false (by omega)
        have HQ := hI (pre_nextG HP.out HX.out ⟨h1, h2, h4⟩)
        have hi1 : i + 1 <= 46 := by omega
        clear h1 h2 h3 h4
        go_wp2
        go_round
        case rel => exact ⟨i + 1, HI.out, hi1, by go_num, HQ⟩
        case measure => have := HI.out; simp [intOf]; omega
       ·have d4 : decide ((p.rn : Int) > 20) = true := decide_eq_true (by omega)
        have d4' : decide (20 < p.rn) = true := decide_eq_true (by omega)
        have d4'' : decide ((20 : Int) < (p.rn : Int)) = true := decide_eq_true (by omega)
        clear h1 h2 h3 h4
        go_wp2
        go_ret
        exact FewPost55.no
      ·have d3 : decide ((p.en : Int) > 40) = true := decide_eq_true (by omega)
       have d3' : decide (40 < p.en) = true := decide_eq_true (by omega)
       have d3'' : decide ((40 : Int) < (p.en : Int)) = true := decide_eq_true (by omega)
       clear h1 h2 h3
       go_wp2
       go_ret
       exact FewPost55.no
     ·have d2 : decide ((p.text.size : Int) > 400) = true := decide_eq_true (by omega)
      have d2' : decide (400 < p.text.size) = true := decide_eq_true (by omega)
      have d2'' : decide ((400 : Int) < (p.text.size : Int)) = true := decide_eq_true (by omega)
      clear h1 h2
      go_wp2
      go_ret
      exact FewPost55.no
    ·have d1 : decide ((p.title.size : Int) > 100) = true := decide_eq_true (by omega)
     have d1' : decide (100 < p.title.size) = true := decide_eq_true (by omega)
     have d1'' : decide ((100 : Int) < (p.title.size : Int)) = true := decide_eq_true (by omega)
     clear h1
     go_wp2
     go_ret
     exact FewPost55.no
   ·have hi2 : ¬ (i : Int) < 46 := by omega
    have hd : decide ((n : Int) <= 45) = false := decide_eq_false (by omega)
    have hd2 : decide (n <= 45) = false := decide_eq_false (by omega)
    have hd3 : ¬ (n <= 45) := by omega
    go_wp2
    go_ret
    exact FewPost55.no
  ·obtain rfl : n = i := by omega
   have hiz : ¬ (n : Int) < (n : Int) := by omega
   have HQ : Hid (∀ p ∈ L, FewP p) := pre_allG fun j p hj hp => HP.out j p (by rw [<- HLN.out]; exact hj) hp
   by_cases h45 : n <= 45
   ·have hd : (n : Int) <= 45 := by omega
    have H45 := hI h45
    go_wp2
    go_ret
    exact ⟨true, rfl, fun _ => ⟨H45.out, HQ.out⟩, rfl⟩
   ·have hd : ¬ (n : Int) <= 45 := by omega
    have hd2 : decide ((n : Int) <= 45) = false := decide_eq_false hd
    go_wp2
    go_ret
    exact FewPost55.no
theorem few_all {n : Nat} {L : List Pt} (hl : L.length = n) (hn : n <= 45) (h : ∀ p ∈ L, FewP p) (hr : ∀ p ∈ L, p.refs.length = p.rn) : (allR L).length <= 1000000 := by
 have h1 := allR_le (k := 20) fun p hp => by have := (h p hp).2.2; rw [hr p hp]; exact this
 have h2 : L.length * 20 <= 45 * 20 := Nat.mul_le_mul_right 20 (by omega)
 omega
theorem allR_split {L : List Pt} {i j : Nat} {p : Pt} {r : Rf} (hx : L[i]? = some p) (hr : p.refs[j]? = some r) : ∃ b, allR L = (allR (L.take i) ++ p.refs.take j) ++ r :: b := by
 obtain ⟨hi, hp⟩ := List.getElem?_eq_some_iff.1 hx
 obtain ⟨hj, hq⟩ := List.getElem?_eq_some_iff.1 hr
 refine ⟨p.refs.drop (j + 1) ++ allR (L.drop (i + 1)), ?_⟩
 have h1 : p.refs = p.refs.take j ++ r :: p.refs.drop (j + 1) := by
  rw [<- hq, List.getElem_cons_drop hj, List.take_append_drop]
 have h2 : L = L.take i ++ p :: L.drop (i + 1) := by
  rw [<- hp, List.getElem_cons_drop hi, List.take_append_drop]
 have h3 : allR L = allR (L.take i) ++ (p.refs ++ allR (L.drop (i + 1))) := by
  have h4 : allR L = allR (L.take i ++ p :: L.drop (i + 1)) := congrArg allR h2
  rw [h4]
  unfold allR
  rw [List.flatMap_append, List.flatMap_cons]
 rw [h3]
 have h5 : p.refs ++ allR (L.drop (i + 1)) = p.refs.take j ++ r :: (p.refs.drop (j + 1) ++ allR (L.drop (i + 1))) := by
  have h6 := congrArg (· ++ allR (L.drop (i + 1))) h1
  simpa using h6
 rw [h5, List.append_assoc]
theorem count_at {L : List Pt} {i j : Nat} {p : Pt} {r : Rf} (hx : L[i]? = some p) (hr : p.refs[j]? = some r) : ∃ m : Nat, numR (numsF [] (allR L)) r = (m : Int) + 1 /\ m <= (numsF [] (allR (L.take i) ++ p.refs.take j)).length /\ m < (numsF [] (allR L)).length /\ (numsF [] (allR L))[m]? = some r /\
  (numsF [] (allR (L.take i) ++ p.refs.take (j + 1))).length = max (numsF [] (allR (L.take i) ++ p.refs.take j)).length (m + 1) /\ (numsF [] (allR (L.take i) ++ p.refs.take j)).length <= (numsF [] (allR L)).length := by
 obtain ⟨b, hb⟩ := allR_split hx hr
 have h1 := numR_next (a := allR (L.take i) ++ p.refs.take j) (r := r) (b := b)
 have h2 := numR_range (numsF [] (allR L)) r
 have h3 : r ∈ numsF [] (allR L) := (numsF_mem _ _ _).2 (.inr (by rw [hb]; simp))
 have h4 := numR_at h3
 rw [<- hb] at h1
 have h5 : (allR (L.take i) ++ p.refs.take j) ++ [r] = allR (L.take i) ++ p.refs.take (j + 1) := by
  rw [List.take_add_one, hr, List.append_assoc]
  rfl
 rw [h5] at h1
 refine ⟨(numR (numsF [] (allR L)) r - 1).toNat, by omega, by omega, by omega, h4, by omega, ?_⟩
 obtain ⟨s, hs⟩ := numsF_pre (r :: b) (numsF [] (allR (L.take i) ++ p.refs.take j))
 rw [hb, numsF_app (allR (L.take i) ++ p.refs.take j) (r :: b), hs, List.length_append]
 omega
set_option maxHeartbeats 4000000 in
set_option maxRecDepth 100000 in
theorem grammarCounts_any (A : Option Addr) (n c : Nat) (L : List Pt) (w : World) (hP : PtsR w w.heap.size A n L) (hn : n <= 9223372036854775807) (htb : Tabs w) (hpw : Pow w) :
  Calls Tryd.prog 3 #[.slice A n c] w fun e w' => e = .returned (.bool true) /\ Below w.heap.size w w' := by
 have HA := hI fun (W : World) (hW : Below w.heap.size w W) => awake55_any W (htb.on hW) (hpw.on hW)
 have HF := hI (few55_any A n c L w hP hn)
 have HPT := hI hP
 have HPW := hI fun (W : World) (hW : Below w.heap.size w W) => hP.on hW
 have HLN := hI hP.len
 have HRN : Hid (∀ p ∈ L, p.refs.length = p.rn) := fun p hp => (hP.2 p hp).refs.len
 clear hP htb hpw
 go_enter Tryd.func3, Tryd.ntmps3
 go_wp2_with fail
 refine HF.out.mono ?_
 intro e w3 hfp
 obtain ⟨b, rfl, hlf, rfl⟩ := hfp
 have HLF := hI hlf
 clear hlf HF
 cases b with
 | false =>
  go_wp2_with fail
  refine (HA.out _ bR).mono ?_
  rintro e w5 ⟨rfl, hb5⟩
  have HB5 := hI hb5
  clear hb5
  go_wp2
  go_ret
  exact ⟨rfl, HB5.out⟩
 | true =>
  obtain ⟨hn45, hfew⟩ := HLF.out rfl
  have hz := few_all HLN.out hn45 hfew HRN.out
  have HN1 := hI (gnumbers_any A n c L w (HPW.out w bR) (by omega) hz)
  have HG1 := hI fun (r1 r2 : Int) (hr : RfOk (r1, r2)) (W : World) (hW : Below w.heap.size w W) => gnumber_any A n c L r1 r2 W (HPW.out W hW) hr (by omega) hz
  have hN6 : (numsF [] (allR L)).length <= 1000000 := by have := numsF_len (allR L) []; simp only [List.length_nil] at this; omega
  clear hfew HLF HRN HPW
  go_wp2_with fail
  refine HN1.out.mono ?_
  rintro e w4 ⟨v, rfl, hO, hb4⟩
  obtain ⟨A4, c4, hv4, h4c, h4m, h4r⟩ := RfO.form hO
  subst hv4
  have HB4 := hI hb4
  have H4R := hI h4r
  clear hO hb4 h4r HN1
  obtain ⟨NL, hNL⟩ : ∃ x, numsF [] (allR L) = x := ⟨_, rfl⟩
  have HNL := hI hNL
  rw [hNL] at H4R hN6 h4c |-
  (try rw [hNL] at HG1)
  obtain ⟨nl, hnl⟩ : ∃ x, NL.length = x := ⟨_, rfl⟩
  have HNN := hI hnl
  rw [hnl] at H4R hN6 h4c |-
  clear hNL hnl
  go_wp2_with fail
  go_loopw [3, 5, 6, 7, 16] (fun v3 v5 v6 v7 v16 wr => ∃ i t : Nat, i <= n /\ v16 = .int .i64 i /\ v3 = .int .i64 t /\ Hid (t = (numsF [] (allR (L.take i))).length) /\ Hid (Below w4.heap.size w4 wr)) (fun _ _ _ _ v16 _ => n - (intOf v16).toNat)
  case atStart => exact ⟨0, 0, Nat.zero_le _, rfl, rfl, rfl, Below.refl _ _⟩
  case round =>
   obtain ⟨i, t, hi, rfl, rfl, HT, HB5⟩ := hrel
   obtain ⟨w5, hw5⟩ : ∃ w5, wr = w5 := ⟨_, rfl⟩
   rw [hw5] at HB5 |-
   clear hw5
   have HBW : Hid (∀ W, Below w4.heap.size w4 W -> Below w.heap.size w W) := fun W hW => HB4.out.trans (hW.mono HB4.out.size)
   by_cases hlt : i < n
   ·have hiz : (i : Int) < (n : Int) := by omega
    have hiA : (0 : Int) <= (i : Int) := by omega
    obtain ⟨ad, x, rfl, hab, hx, hpr, hcells⟩ := HPT.out.at_ hlt
    obtain ⟨q0, q1, q2, q3, q4⟩ := hcells w5 (HBW.out _ HB5.out)
    have HLT := hI hlt
    have HCL := hI hcells
    have HPR := hI hpr
    have HX := hI hx
    have HNXT := hI (allR_next hx)
    clear hx hpr hcells hab
    obtain ⟨pid, title, text, pea, pen, pec, ra, rn, rc, rs⟩ := x
    simp only at q0 q1 q2 q3 q4 HCL HPR HNXT
    have hrn : rn <= 9223372036854775807 := HPR.out.size.2.2
    go_wp2_with fail
    go_loopw [3, 6, 7, 25] (fun v3 v6 v7 v25 wi => ∃ j t : Nat, j <= rn /\ v25 = .int .i64 j /\ v3 = .int .i64 t /\ Hid (t = (numsF [] (allR (L.take i) ++ rs.take j)).length) /\ Hid (Below w4.heap.size w4 wi)) (fun _ _ _ v25 _ => rn - (intOf v25).toNat)
    case atStart => exact ⟨0, t, Nat.zero_le _, rfl, rfl, (by show t = _; rw [List.take_zero, List.append_nil]; exact HT.out), HB5⟩
    case round =>
     clear HB5 HT q0 q1 q2 q3 q4
     obtain ⟨j, t, hj, rfl, rfl, HT, HB6⟩ := hrel
     obtain ⟨w6, hw6⟩ : ∃ w6, wr = w6 := ⟨_, rfl⟩
     rw [hw6] at HB6 |-
     clear hw6
     by_cases hjt : j < rn
     ·have hjz : (j : Int) < (rn : Int) := by omega
      have hjA : (0 : Int) <= (j : Int) := by omega
      have HJT := hI hjt
      obtain ⟨bd, r, hra, hbb, hr, hrc⟩ := HPR.out.refs.at_ hjt
      have HOK : RfOk r := HPR.out.ok r (List.mem_of_getElem? hr)
      obtain ⟨m, hm1, hm2, hm3, hm4, hm5, hm6⟩ := count_at HX.out hr
      simp only at hra hm2 hm5 hm6
      subst hra
      rw [HNL.out] at hm1 hm3 hm4
      rw [HNN.out] at hm3
      rw [HNL.out, HNN.out] at hm6
      rw [<- HT.out] at hm2 hm5 hm6
      obtain ⟨a4, x4, hA4, _, hx4, h4cs⟩ := H4R.out.at_ hm3
      subst hA4
      rw [hm4] at hx4
      cases hx4
      obtain ⟨r1, r2⟩ := r
      simp only at hrc h4cs
      have HCN : Hid (∀ W, Below w6.heap.size w6 W -> W.cell? (a4.add (m * 2)) = some (.int .i64 r1) /\ W.cell? ⟨(a4.add (m * 2)).block, (a4.add (m * 2)).off + 1, none⟩ = some (.int .i64 r2)) := fun W hW => h4cs W (HB6.out.trans (hW.mono HB6.out.size))
      have HCR : Hid (∀ W, Below w6.heap.size w6 W -> W.cell? (bd.add (j * 2)) = some (.int .i64 r1) /\ W.cell? ⟨(bd.add (j * 2)).block, (bd.add (j * 2)).off + 1, none⟩ = some (.int .i64 r2)) := fun W hW => hrc W (HBW.out _ (HB6.out.trans (hW.mono HB6.out.size)))
      have HC4 : Hid (∀ W, Below w6.heap.size w6 W -> W.cell? ⟨(ad.add (i * 5)).block, (ad.add (i * 5)).off + 4, none⟩ = some (.slice (some bd) rn rc)) := fun W hW => (HCL.out W (HBW.out _ (HB6.out.trans (hW.mono HB6.out.size)))).2.2.2.2
      have HG2 := hI (HG1.out r1 r2 HOK w6 (HBW.out _ HB6.out))
      (try rw [HNL.out] at HG2)
      rw [hm1] at HG2
      have HM5 := hI hm5
      have c4 := HC4.out w6 bR
      obtain ⟨cr0, cr1⟩ := HCR.out w6 bR
      clear hm1 hm4 hm5 hrc h4cs hr hbb hjt hlt HOK HT
      go_wp2_with fail
      refine HG2.out.mono ?_
      rintro e w7 ⟨rfl, hb7⟩
      have HB7 : Hid (Below w4.heap.size w4 w7) := HB6.out.trans (hb7.mono HB6.out.size)
      have HCN7 : Hid (∀ W, Below w7.heap.size w7 W -> _) := fun W hW => HCN.out W (hb7.trans (hW.mono hb7.size))
      have HCR7 : Hid (∀ W, Below w7.heap.size w7 W -> _) := fun W hW => HCR.out W (hb7.trans (hW.mono hb7.size))
      have HC47 : Hid (∀ W, Below w7.heap.size w7 W -> _) := fun W hW => HC4.out W (hb7.trans (hW.mono hb7.size))
      clear hb7 HG2 HCN HCR HC4 c4 cr0 cr1
      have h1 : decide ((m : Int) + 1 < 1) = false := decide_eq_false (by omega)
      have h1' : ¬ ((m : Int) + 1 < 1) := by omega
      have h2 : decide ((t : Int) + 1 < (m : Int) + 1) = false := decide_eq_false (by omega)
      have h2' : ¬ ((t : Int) + 1 < (m : Int) + 1) := by omega
      have h2'' : ¬ ((t : Int) < (m : Int)) := by omega
      have h2n : decide (t < m) = false := decide_eq_false (by omega)
      have h3 : decide ((nl : Int) < (m : Int) + 1) = false := decide_eq_false (by omega)
      have h3' : ¬ ((nl : Int) < (m : Int) + 1) := by omega
      have hw1 : IntKind.i64.wrap ((t : Int) + 1) = (t : Int) + 1 := IntWalk.i64_in _ (by omega)
      have hw2 : IntKind.i64.wrap ((m : Int) + 1 - 1) = (m : Int) := by rw [IntWalk.i64_in _ (by omega)]; omega
      have hw3 : IntKind.i64.wrap (m : Int) = (m : Int) := IntWalk.i64_in _ (by omega)
      have hmz : (m : Int) < (nl : Int) := by omega
      have hmA : (0 : Int) <= (m : Int) := by omega
      have hg := Tryd.eqGuardType32
      have hq : ∀ W : World, (Op.equalIn 10000 32 (.agg #[.int .i64 r1, .int .i64 r2]) (.agg #[.int .i64 r1, .int .i64 r2])).run Tryd.prog W = .ok true W := fun W => by rw [eq_refB, decide_eq_true rfl]
      have HHH : Hid (∃ z : Nat, z = m) := ⟨m, rfl⟩
      go_upto_region 12 with fail
      rename Hid (∀ W, Below w7.heap.size w7 W -> W.cell? (a4.add (m * 2)) = _ /\ _) => HCN
      rename Hid (∀ W, Below w7.heap.size w7 W -> W.cell? (bd.add (j * 2)) = _ /\ _) => HCR
      rename Hid (∀ W, Below w7.heap.size w7 W -> W.cell? ⟨(ad.add (i * 5)).block, (ad.add (i * 5)).off + 4, none⟩ = _) => HC4
      refine wp_region_told [Told.is (.int .i64 ((m : Int) + 1)), Told.is (.bool false), Told.is (.bool false), Told.is (.int .i64 ((m : Int) + 1)), Told.is (.int .i64 (t : Int)), Told.is (.int .i64 ((t : Int) + 1)), Told.is (.bool false), Told.is (.bool false), Told.is (.bool false), Told.is (.int .i64 ((m : Int) + 1)), Told.is (.slice (some a4) nl c4), Told.is (.int .i64 (nl : Int)), Told.is (.bool false), Told.is (.bool false), Told.is (.bool false), Told.is (.slice (some a4) nl c4), Told.is (.int .i64 ((m : Int) + 1)), Told.is (.int .i64 (m : Int)), Told.is (.pointer (some (a4.add (m * 2)))), Told.is (.agg #[.int .i64 r1, .int .i64 r2]), Told.is (.slice (some ad) n c), Told.is (.int .i64 (i : Int)), Told.is (.pointer (some (ad.add (i * 5)))), Told.is (.pointer (some ⟨(ad.add (i * 5)).block, (ad.add (i * 5)).off + 4, none⟩)), Told.is (.slice (some bd) rn rc), Told.is (.int .i64 (j : Int)), Told.is (.pointer (some (bd.add (j * 2)))), Told.is (.agg #[.int .i64 r1, .int .i64 r2]), Told.is (.bool false), Told.is (.bool false)] (by kernel_rfl) (by kernel_rfl) ?_ ?_
      ·refine And.intro (fun w1 vals hB hd K hK => ?_) ?_
       ·clear hd
        simp only [putAll, Act.put, pS] at hK |-
        refine gwp_none rfl ?_
        go_simp
        exact hK _ _ rfl bR
       refine And.intro (fun w1 vals hB hd K hK => ?_) ?_
       ·have e0 := tI (hd 0 rfl) rfl
        clear hd
        simp only [putAll, Act.put, pS] at hK |-
        simp only [e0] at hK |-
        clear e0
        refine gwp_none rfl ?_
        go_simp
        exact hK _ _ rfl bR
       refine And.intro (fun w1 vals hB hd K hK => ?_) ?_
       ·have e1 := tI (hd 1 rfl) rfl
        clear hd
        simp only [putAll, Act.put, pS] at hK |-
        simp only [e1] at hK |-
        clear e1
        refine gwp_none rfl ?_
        go_simp
        exact hK _ _ rfl bR
       refine And.intro (fun w1 vals hB hd K hK => ?_) ?_
       ·have g2 := tI (hd 2 rfl) rfl
        clear hd
        simp only [putAll, Act.put, pS] at hK |-
        refine gwp_some rfl g2 ?_
        clear g2
        go_simp
        exact hK _ _ rfl bR
       refine And.intro (fun w1 vals hB hd K hK => ?_) ?_
       ·have g2 := tI (hd 2 rfl) rfl
        clear hd
        simp only [putAll, Act.put, pS] at hK |-
        refine gwp_some rfl g2 ?_
        clear g2
        go_simp
        exact hK _ _ rfl bR
       refine And.intro (fun w1 vals hB hd K hK => ?_) ?_
       ·have e4 := tI (hd 4 rfl) rfl
        have g2 := tI (hd 2 rfl) rfl
        clear hd
        simp only [putAll, Act.put, pS] at hK |-
        simp only [e4] at hK |-
        clear e4
        refine gwp_some rfl g2 ?_
        clear g2
        go_simp
        exact hK _ _ rfl bR
       refine And.intro (fun w1 vals hB hd K hK => ?_) ?_
       ·have e3 := tI (hd 3 rfl) rfl
        have e5 := tI (hd 5 rfl) rfl
        have g2 := tI (hd 2 rfl) rfl
        clear hd
        simp only [putAll, Act.put, pS] at hK |-
        simp only [e3, e5] at hK |-
        clear e3 e5
        refine gwp_some rfl g2 ?_
        clear g2
        go_simp
        exact hK _ _ rfl bR
       refine And.intro (fun w1 vals hB hd K hK => ?_) ?_
       ·have e2 := tI (hd 2 rfl) rfl
        have e6 := tI (hd 6 rfl) rfl
        clear hd
        simp only [putAll, Act.put, pS] at hK |-
        simp only [e2, e6] at hK |-
        clear e2 e6
        refine gwp_none rfl ?_
        go_simp
        exact hK _ _ rfl bR
       refine And.intro (fun w1 vals hB hd K hK => ?_) ?_
       ·have e7 := tI (hd 7 rfl) rfl
        clear hd
        simp only [putAll, Act.put, pS] at hK |-
        simp only [e7] at hK |-
        clear e7
        refine gwp_none rfl ?_
        go_simp
        exact hK _ _ rfl bR
       refine And.intro (fun w1 vals hB hd K hK => ?_) ?_
       ·have g8 := tI (hd 8 rfl) rfl
        clear hd
        simp only [putAll, Act.put, pS] at hK |-
        refine gwp_some rfl g8 ?_
        clear g8
        go_simp
        exact hK _ _ rfl bR
       refine And.intro (fun w1 vals hB hd K hK => ?_) ?_
       ·have g8 := tI (hd 8 rfl) rfl
        clear hd
        simp only [putAll, Act.put, pS] at hK |-
        refine gwp_some rfl g8 ?_
        clear g8
        go_simp
        exact hK _ _ rfl bR
       refine And.intro (fun w1 vals hB hd K hK => ?_) ?_
       ·have e10 := tI (hd 10 rfl) rfl
        have g8 := tI (hd 8 rfl) rfl
        clear hd
        simp only [putAll, Act.put, pS] at hK |-
        simp only [e10] at hK |-
        clear e10
        refine gwp_some rfl g8 ?_
        clear g8
        go_simp
        exact hK _ _ rfl bR
       refine And.intro (fun w1 vals hB hd K hK => ?_) ?_
       ·have e9 := tI (hd 9 rfl) rfl
        have e11 := tI (hd 11 rfl) rfl
        have g8 := tI (hd 8 rfl) rfl
        clear hd
        simp only [putAll, Act.put, pS] at hK |-
        simp only [e9, e11] at hK |-
        clear e9 e11
        refine gwp_some rfl g8 ?_
        clear g8
        go_simp
        exact hK _ _ rfl bR
       refine And.intro (fun w1 vals hB hd K hK => ?_) ?_
       ·have e8 := tI (hd 8 rfl) rfl
        have e12 := tI (hd 12 rfl) rfl
        clear hd
        simp only [putAll, Act.put, pS] at hK |-
        simp only [e8, e12] at hK |-
        clear e8 e12
        refine gwp_none rfl ?_
        go_simp
        exact hK _ _ rfl bR
       refine And.intro (fun w1 vals hB hd K hK => ?_) ?_
       ·have e13 := tI (hd 13 rfl) rfl
        clear hd
        simp only [putAll, Act.put, pS] at hK |-
        simp only [e13] at hK |-
        clear e13
        refine gwp_none rfl ?_
        go_simp
        exact hK _ _ rfl bR
       refine And.intro (fun w1 vals hB hd K hK => ?_) ?_
       ·have g14 := tI (hd 14 rfl) rfl
        clear hd
        simp only [putAll, Act.put, pS] at hK |-
        refine gwp_some rfl g14 ?_
        clear g14
        go_simp
        exact hK _ _ rfl bR
       refine And.intro (fun w1 vals hB hd K hK => ?_) ?_
       ·have g14 := tI (hd 14 rfl) rfl
        clear hd
        simp only [putAll, Act.put, pS] at hK |-
        refine gwp_some rfl g14 ?_
        clear g14
        go_simp
        exact hK _ _ rfl bR
       refine And.intro (fun w1 vals hB hd K hK => ?_) ?_
       ·have e16 := tI (hd 16 rfl) rfl
        have g14 := tI (hd 14 rfl) rfl
        clear hd
        simp only [putAll, Act.put, pS] at hK |-
        simp only [e16] at hK |-
        clear e16
        refine gwp_some rfl g14 ?_
        clear g14
        go_simp
        exact hK _ _ rfl bR
       refine And.intro (fun w1 vals hB hd K hK => ?_) ?_
       ·have e15 := tI (hd 15 rfl) rfl
        have e17 := tI (hd 17 rfl) rfl
        have g14 := tI (hd 14 rfl) rfl
        clear hd
        simp only [putAll, Act.put, pS] at hK |-
        simp only [e15, e17] at hK |-
        clear e15 e17
        refine gwp_some rfl g14 ?_
        clear g14
        go_simp
        exact hK _ _ rfl bR
       refine And.intro (fun w1 vals hB hd K hK => ?_) ?_
       ·have e18 := tI (hd 18 rfl) rfl
        have g14 := tI (hd 14 rfl) rfl
        clear hd
        simp only [putAll, Act.put, pS] at hK |-
        simp only [e18] at hK |-
        clear e18
        refine gwp_some rfl g14 ?_
        clear g14
        obtain ⟨cn0, cn1⟩ := HCN.out w1 hB
        go_simp
        exact hK _ _ rfl bR
       refine And.intro (fun w1 vals hB hd K hK => ?_) ?_
       ·have g14 := tI (hd 14 rfl) rfl
        clear hd
        simp only [putAll, Act.put, pS] at hK |-
        refine gwp_some rfl g14 ?_
        clear g14
        go_simp
        exact hK _ _ rfl bR
       refine And.intro (fun w1 vals hB hd K hK => ?_) ?_
       ·have g14 := tI (hd 14 rfl) rfl
        clear hd
        simp only [putAll, Act.put, pS] at hK |-
        refine gwp_some rfl g14 ?_
        clear g14
        go_simp
        exact hK _ _ rfl bR
       refine And.intro (fun w1 vals hB hd K hK => ?_) ?_
       ·have e20 := tI (hd 20 rfl) rfl
        have e21 := tI (hd 21 rfl) rfl
        have g14 := tI (hd 14 rfl) rfl
        clear hd
        simp only [putAll, Act.put, pS] at hK |-
        simp only [e20, e21] at hK |-
        clear e20 e21
        refine gwp_some rfl g14 ?_
        clear g14
        go_simp
        exact hK _ _ rfl bR
       refine And.intro (fun w1 vals hB hd K hK => ?_) ?_
       ·have e22 := tI (hd 22 rfl) rfl
        have g14 := tI (hd 14 rfl) rfl
        clear hd
        simp only [putAll, Act.put, pS] at hK |-
        simp only [e22] at hK |-
        clear e22
        refine gwp_some rfl g14 ?_
        clear g14
        go_simp
        exact hK _ _ rfl bR
       refine And.intro (fun w1 vals hB hd K hK => ?_) ?_
       ·have e23 := tI (hd 23 rfl) rfl
        have g14 := tI (hd 14 rfl) rfl
        clear hd
        simp only [putAll, Act.put, pS] at hK |-
        simp only [e23] at hK |-
        clear e23
        refine gwp_some rfl g14 ?_
        clear g14
        have cc := HC4.out w1 hB
        go_simp
        exact hK _ _ rfl bR
       refine And.intro (fun w1 vals hB hd K hK => ?_) ?_
       ·have g14 := tI (hd 14 rfl) rfl
        clear hd
        simp only [putAll, Act.put, pS] at hK |-
        refine gwp_some rfl g14 ?_
        clear g14
        go_simp
        exact hK _ _ rfl bR
       refine And.intro (fun w1 vals hB hd K hK => ?_) ?_
       ·have e24 := tI (hd 24 rfl) rfl
        have e25 := tI (hd 25 rfl) rfl
        have g14 := tI (hd 14 rfl) rfl
        clear hd
        simp only [putAll, Act.put, pS] at hK |-
        simp only [e24, e25] at hK |-
        clear e24 e25
        refine gwp_some rfl g14 ?_
        clear g14
        go_simp
        exact hK _ _ rfl bR
       refine And.intro (fun w1 vals hB hd K hK => ?_) ?_
       ·have e26 := tI (hd 26 rfl) rfl
        have g14 := tI (hd 14 rfl) rfl
        clear hd
        simp only [putAll, Act.put, pS] at hK |-
        simp only [e26] at hK |-
        clear e26
        refine gwp_some rfl g14 ?_
        clear g14
        obtain ⟨cr0, cr1⟩ := HCR.out w1 hB
        go_simp
        exact hK _ _ rfl bR
       refine And.intro (fun w1 vals hB hd K hK => ?_) ?_
       ·have e19 := tI (hd 19 rfl) rfl
        have e27 := tI (hd 27 rfl) rfl
        have g14 := tI (hd 14 rfl) rfl
        clear hd
        simp only [putAll, Act.put, pS] at hK |-
        simp only [e19, e27] at hK |-
        clear e19 e27
        refine gwp_some rfl g14 ?_
        clear g14
        go_simp
        exact hK _ _ rfl bR
       refine And.intro (fun w1 vals hB hd K hK => ?_) ?_
       ·have e14 := tI (hd 14 rfl) rfl
        have e28 := tI (hd 28 rfl) rfl
        clear hd
        simp only [putAll, Act.put, pS] at hK |-
        simp only [e14, e28] at hK |-
        clear e14 e28
        refine gwp_none rfl ?_
        go_simp
        exact hK _ _ rfl bR
       exact trivial
      ·intro w1 vals hB hd
       have e29 := tI (hd 29 (by decide)) rfl
       clear hd
       simp only [putAll, Act.put, pS]
       simp only [e29]
       clear e29
       have HB8 : Hid (Below w4.heap.size w4 w1) := HB7.out.trans (hB.mono HB7.out.size)
       clear hB HCN HCR HC4 h1 h1' h2 h2' h2'' h2n h3 h3' hw1 hw2 hw3 hmz hmA hg hq HHH
       have hmx : max (t : Int) ((m : Int) + 1) = ((max t (m + 1) : Nat) : Int) := by omega
       go_wp2
       go_roundw
       case rel => exact ⟨j + 1, max t (m + 1), HJT.out, by go_num, by go_num, HM5.out.symm, HB8⟩
       case measure => have := HJT.out; simp [intOf]; omega
     ·obtain rfl : rn = j := by omega
      have hjz : ¬ (rn : Int) < (rn : Int) := by omega
      have HTT : Hid (t = (numsF [] (allR (L.take (i + 1)))).length) := by
       show t = _
       have e : rs.take rn = rs := List.take_of_length_le (by have := HPR.out.refs.len; simp only at this; omega)
       rw [HNXT.out, HT.out, e]
      go_wp2
      go_roundw
      case rel => exact ⟨i + 1, t, HLT.out, by go_num, rfl, HTT, HB6⟩
      case measure => have := HLT.out; simp [intOf]; omega
   ·obtain rfl : n = i := by omega
    have hiz : ¬ (n : Int) < (n : Int) := by omega
    have htn : t = nl := by
     have h1 := HT.out
     rw [List.take_of_length_le (by rw [HLN.out]; exact Nat.le_refl _), HNL.out, HNN.out] at h1
     exact h1
    subst htn
    have heq : ((t : Int) == (t : Int)) = true := beq_self_eq_true _
    go_wp2_with fail
    refine (HA.out w5 (HBW.out _ HB5.out)).mono ?_
    rintro e w10 ⟨rfl, hb10⟩
    have HBE := hI ((HBW.out _ HB5.out).trans (hb10.mono (HBW.out _ HB5.out).size))
    clear hb10
    go_wp2
    go_ret
    exact ⟨rfl, HBE.out⟩
end
section
open Go.RowKit Go.ChangeShapes Go.WideShapes Go.ChangeAt Go.Deep Go.Joins Ru Lay
section
variable {H : Type} {enc : TypeId × Value → H} {w : World} {spare : Nat → Bool} {held : Bool} {fuel : Nat} {v : Value} {x : DataW H × List MemPlace}
instance : Inhabited Pt := ⟨⟨0, ⟨#[]⟩, ⟨#[]⟩, none, 0, 0, none, 0, 0, []⟩⟩
theorem intw_of {c : Value} (h : DataW.trod enc Tryd.prog w 0 spare held fuel 3 [c] = some x) : ∃ s, c = .int .i64 s /\ (Lit.int .i64 s).wf = true := by
 obtain ⟨s, e, _, hw⟩ := DataW.trod_int Tryd.underlying3 h
 injection e with e
 exact ⟨s, e, hw⟩
theorem ref_of {c0 c1 : Value} (h : DataW.trod enc Tryd.prog w 0 spare held fuel 32 [c0, c1] = some x) : ∃ r : Rf, [c0, c1] = encR r /\ RfOk r := by
 have hci : Tryd.prog.cellsOf 3 = 1 := by kernel_rfl
 obtain ⟨n, hs⟩ := trod_fields Tryd.underlying32 h
 obtain ⟨_, t0⟩ : ∃ y, DataW.trod enc Tryd.prog w 0 spare held n 3 (([c0, c1].drop 0).take (Tryd.prog.cellsOf 3)) = some y := hs 0 _ rfl
 obtain ⟨_, t1⟩ : ∃ y, DataW.trod enc Tryd.prog w 0 spare held n 3 (([c0, c1].drop 1).take (Tryd.prog.cellsOf 3)) = some y := hs 1 _ rfl
 simp only [hci, List.drop, List.take] at t0 t1
 obtain ⟨s0, rfl, h0⟩ := intw_of t0
 obtain ⟨s1, rfl, h1⟩ := intw_of t1
 exact ⟨(s0, s1), rfl, h0, h1⟩
theorem open_RefsR (hf : DataW.trod enc Tryd.prog w 0 spare held fuel 25 [v] = some x) : ∃ A n c l, v = .slice A n c /\ RefsR w w.heap.size A n l /\ (∀ r ∈ l, RfOk r) /\ n <= maxLen := by
 rcases open_slice Tryd.underlying25 hf with ⟨h0, _⟩ | ⟨a, len, cap, m, n, D, Pl, h0, _, hl, hm, hmm, _, hx⟩
 ·injection h0 with h0
  subst h0
  exact ⟨none, 0, 0, [], rfl, RecR.none_, fun _ h => (by cases h), Nat.zero_le _⟩
 ·injection h0 with h0
  subst h0
  have hlm : len <= m := by rw [hmm]; split <;> omega
  have hce : Tryd.prog.cellsOf 32 = 2 := by kernel_rfl
  rw [hce] at hx
  obtain ⟨l, hr, hp⟩ := recR_of (w := w) (α := Rf) (f := encR) (s := 2) (len := len) (a := a) (p := RfOk) (by omega) encR_len (fun i hi => by
   obtain ⟨cs, h1, h2⟩ := hx i (by omega)
   obtain ⟨_, hcl, hcc⟩ := World.cells?_some h1
   obtain ⟨c0, c1, rfl⟩ : ∃ c0 c1, cs = [c0, c1] := by
    match cs, hcl with
    | [c0, c1], _ => exact ⟨c0, c1, rfl⟩
   obtain ⟨y, hy, hyn⟩ := ref_of h2
   refine ⟨y, fun j u hu => ?_, hyn⟩
   rw [<- hy] at hu
   have hj : j < 2 := (List.getElem?_eq_some_iff.1 hu).1
   have := hcc j (by simpa using hj)
   rw [add_of_add] at this
   rw [this]
   exact hu)
  exact ⟨some a, len, cap, l, rfl, hr, hp, by omega⟩
theorem pointE_of {c0 c1 c2 c3 c4 : Value} (h : DataW.trod enc Tryd.prog w 0 spare held fuel 29 [c0, c1, c2, c3, c4] = some x) : ∃ p : Pt, [c0, c1, c2, c3, c4] = encP p /\ PtR w w.heap.size p /\ p.en <= 9223372036854775807 /\ ∃ ls : List Int, Reads w w.heap.size 1 p.ea p.en (ls.map (.int .i64)) := by
 have hci : Tryd.prog.cellsOf 3 = 1 := by kernel_rfl
 have hcs : Tryd.prog.cellsOf 9 = 1 := by kernel_rfl
 have hc1 : Tryd.prog.cellsOf 27 = 1 := by kernel_rfl
 have hc2 : Tryd.prog.cellsOf 25 = 1 := by kernel_rfl
 obtain ⟨n, hs⟩ := trod_fields Tryd.underlying29 h
 obtain ⟨_, t0⟩ : ∃ y, DataW.trod enc Tryd.prog w 0 spare held n 3 (([c0, c1, c2, c3, c4].drop 0).take (Tryd.prog.cellsOf 3)) = some y := hs 0 _ rfl
 obtain ⟨_, t1⟩ : ∃ y, DataW.trod enc Tryd.prog w 0 spare held n 9 (([c0, c1, c2, c3, c4].drop 1).take (Tryd.prog.cellsOf 9)) = some y := hs 1 _ rfl
 obtain ⟨_, t2⟩ : ∃ y, DataW.trod enc Tryd.prog w 0 spare held n 9 (([c0, c1, c2, c3, c4].drop 2).take (Tryd.prog.cellsOf 9)) = some y := hs 2 _ rfl
 obtain ⟨_, t3⟩ : ∃ y, DataW.trod enc Tryd.prog w 0 spare held n 27 (([c0, c1, c2, c3, c4].drop 3).take (Tryd.prog.cellsOf 27)) = some y := hs 3 _ rfl
 obtain ⟨_, t4⟩ : ∃ y, DataW.trod enc Tryd.prog w 0 spare held n 25 (([c0, c1, c2, c3, c4].drop 4).take (Tryd.prog.cellsOf 25)) = some y := hs 4 _ rfl
 simp only [hci, hcs, hc1, hc2, List.drop, List.take] at t0 t1 t2 t3 t4
 obtain ⟨s0, rfl⟩ := int_of t0
 obtain ⟨s1, rfl, h1⟩ := str_of t1
 obtain ⟨s2, rfl, h2⟩ := str_of t2
 obtain ⟨ea, en, ec, ls, rfl, hls, hle⟩ := open_ints t3
 obtain ⟨ra, rn, rc, rs, rfl, hr, hok, hn⟩ := open_RefsR t4
 exact ⟨⟨s0, s1, s2, ea, en, ec, ra, rn, rc, rs⟩, rfl, ⟨hr, hok, by unfold maxLen at h1 h2 hn; exact ⟨h1, h2, hn⟩⟩, by unfold maxLen at hle; exact hle, ls, hls⟩
theorem point_of {c0 c1 c2 c3 c4 : Value} (h : DataW.trod enc Tryd.prog w 0 spare held fuel 29 [c0, c1, c2, c3, c4] = some x) : ∃ p : Pt, [c0, c1, c2, c3, c4] = encP p /\ PtR w w.heap.size p := by
 obtain ⟨p, h1, h2, _⟩ := pointE_of h
 exact ⟨p, h1, h2⟩
theorem open_PtsR (hf : DataW.trod enc Tryd.prog w 0 spare held fuel 22 [v] = some x) : ∃ A n c l, v = .slice A n c /\ PtsR w w.heap.size A n l /\ n <= maxLen := by
 rcases open_slice Tryd.underlying22 hf with ⟨h0, _⟩ | ⟨a, len, cap, m, n, D, Pl, h0, _, hl, hm, hmm, _, hx⟩
 ·injection h0 with h0
  subst h0
  exact ⟨none, 0, 0, [], rfl, ⟨RecR.none_, fun _ h => (by cases h)⟩, Nat.zero_le _⟩
 ·injection h0 with h0
  subst h0
  have hlm : len <= m := by rw [hmm]; split <;> omega
  have hce : Tryd.prog.cellsOf 29 = 5 := by kernel_rfl
  rw [hce] at hx
  obtain ⟨l, hr, hp⟩ := recR_of (w := w) (α := Pt) (f := encP) (s := 5) (len := len) (a := a) (p := PtR w w.heap.size) (by omega) encP_len (fun i hi => by
   obtain ⟨cs, h1, h2⟩ := hx i (by omega)
   obtain ⟨_, hcl, hcc⟩ := World.cells?_some h1
   obtain ⟨c0, c1, c2, c3, c4, rfl⟩ : ∃ c0 c1 c2 c3 c4, cs = [c0, c1, c2, c3, c4] := by
    match cs, hcl with
    | [c0, c1, c2, c3, c4], _ => exact ⟨c0, c1, c2, c3, c4, rfl⟩
   obtain ⟨y, hy, hyn⟩ := point_of h2
   refine ⟨y, fun j u hu => ?_, hyn⟩
   rw [<- hy] at hu
   have hj : j < 5 := (List.getElem?_eq_some_iff.1 hu).1
   have := hcc j (by simpa using hj)
   rw [add_of_add] at this
   rw [this]
   exact hu)
  exact ⟨some a, len, cap, l, rfl, ⟨hr, hp⟩, by omega⟩
end
end
end Go.Proofs.YthcabnfcgjnlnaaDoor
