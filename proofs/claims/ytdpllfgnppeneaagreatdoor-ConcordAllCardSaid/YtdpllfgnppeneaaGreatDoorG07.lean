import Derived.Test.YtdpllfgnppeneaaGreatDoorG00
import Derived.Test.YtdpllfgnppeneaaGreatDoorProg
import Derived.Deep.QuietTactic
import Derived.BigQuiet
import Derived.Lib.Strings
/-
  PLAIN LAW of the chapter on collation: what the functions compute, over lists. No program in sight.
-/
set_option linter.unusedVariables false
set_option linter.unusedSimpArgs false
namespace Go.Proofs.YtdpllfgnppeneaaGreatDoor.Col

def preB (v s : List UInt8) : Bool := v.isPrefixOf s
abbrev Acc := Nat × Nat × Nat × Bool
def stepF (s : List UInt8) (acc : Acc) (i k : Nat) (v : List UInt8) : Acc := if acc.2.2.1 < v.length ∧ preB v s = true then (i, k, v.length, true) else acc
def innerF (s : List UInt8) (l : List ByteArray) (i : Nat) (acc : Acc) : Nat → Acc
  | 0 => acc
  | k + 1 => stepF s (innerF s l i acc k) i k (l.getD k default).data.toList
def outerF (s : List UInt8) (L : List (List ByteArray)) : Nat → Acc
  | 0 => (0, 0, 0, false)
  | i + 1 => innerF s (L.getD i []) i (outerF s L i) (L.getD i []).length
def firstF (L : List (List ByteArray)) (s : List UInt8) : Acc := outerF s L L.length

theorem size_list (v : ByteArray) : v.data.toList.length = v.size := by
  simp only [Array.length_toList]
  rfl
theorem inner_hit {s : List UInt8} {l : List ByteArray} {i k a b m : Nat} {o : Bool} {acc : Acc} {v : ByteArray} (h : innerF s l i acc k = (a, b, m, o)) (hv : l[k]? = some v)
    (h1 : m < v.size) (h2 : preB v.data.toList s = true) : innerF s l i acc (k + 1) = (i, k, v.size, true) := by
  rw [innerF, h, List.getD, hv]
  simp only [stepF, Option.getD_some, size_list]
  rw [if_pos ⟨h1, h2⟩]
theorem inner_miss {s : List UInt8} {l : List ByteArray} {i k a b m : Nat} {o : Bool} {acc : Acc} {v : ByteArray} (h : innerF s l i acc k = (a, b, m, o)) (hv : l[k]? = some v)
    (h1 : m < v.size → preB v.data.toList s = false) : innerF s l i acc (k + 1) = (a, b, m, o) := by
  rw [innerF, h, List.getD, hv]
  simp only [stepF, Option.getD_some, size_list]
  rw [if_neg (fun ⟨x, y⟩ => by rw [h1 x] at y; cases y)]
theorem outer_next {s : List UInt8} {L : List (List ByteArray)} {i : Nat} {l : List ByteArray} {r : Acc} (hl : L[i]? = some l) (h : innerF s l i (outerF s L i) l.length = r) :
    outerF s L (i + 1) = r := by
  rw [outerF, List.getD, hl]
  exact h

/-- What is taken off: the primary and the secondary key, whether it is a letter, and how many bytes. -/
def take1 (L : List (List ByteArray)) (s : List UInt8) : Nat × Nat × Bool × Nat :=
  match firstF L s with
  | (a, b, m, true) => (a, b, true, m)
  | (_, _, _, false) => (L.length + (s.headD 0).toNat, 0, false, 1)
def lettersN (L : List (List ByteArray)) : Nat → List UInt8 → List (Nat × Nat × Bool)
  | 0, _ => []
  | f + 1, s => if s = [] then [] else ((take1 L s).1, (take1 L s).2.1, (take1 L s).2.2.1) :: lettersN L f (s.drop (take1 L s).2.2.2)
def letters (L : List (List ByteArray)) (s : List UInt8) : List (Nat × Nat × Bool) := lettersN L s.length s

theorem stepF_pos (s : List UInt8) (acc : Acc) (i k : Nat) (v : List UInt8) (h : acc.2.2.2 = true → 1 ≤ acc.2.2.1) : (stepF s acc i k v).2.2.2 = true → 1 ≤ (stepF s acc i k v).2.2.1 := by
  unfold stepF
  split
  · rename_i hh
    intro _
    simp only
    omega
  · exact h
theorem innerF_pos (s : List UInt8) (l : List ByteArray) (i : Nat) (acc : Acc) (h : acc.2.2.2 = true → 1 ≤ acc.2.2.1) : ∀ k, (innerF s l i acc k).2.2.2 = true → 1 ≤ (innerF s l i acc k).2.2.1
  | 0 => h
  | k + 1 => stepF_pos s _ i k _ (innerF_pos s l i acc h k)
theorem outerF_pos (s : List UInt8) (L : List (List ByteArray)) : ∀ i, (outerF s L i).2.2.2 = true → 1 ≤ (outerF s L i).2.2.1
  | 0 => by simp [outerF]
  | i + 1 => innerF_pos s _ i _ (outerF_pos s L i) _
theorem take1_true {L : List (List ByteArray)} {s : List UInt8} {a b m : Nat} (h : firstF L s = (a, b, m, true)) : take1 L s = (a, b, true, m) := by
  unfold take1
  rw [h]
theorem take1_false {L : List (List ByteArray)} {s : List UInt8} {a b m : Nat} (h : firstF L s = (a, b, m, false)) : take1 L s = (L.length + (s.headD 0).toNat, 0, false, 1) := by
  unfold take1
  rw [h]
theorem take1_pos (L : List (List ByteArray)) (s : List UInt8) : 1 ≤ (take1 L s).2.2.2 := by
  unfold take1
  have := outerF_pos s L L.length
  unfold firstF
  generalize outerF s L L.length = r at this
  obtain ⟨a, b, m, o⟩ := r
  cases o with
  | false => simp
  | true => simpa using this
theorem stepF_le (s : List UInt8) (acc : Acc) (i k : Nat) (v : List UInt8) (h : acc.2.2.1 ≤ s.length) : (stepF s acc i k v).2.2.1 ≤ s.length := by
  unfold stepF
  split
  · rename_i hh
    exact (List.isPrefixOf_iff_prefix.1 hh.2).length_le
  · exact h
theorem innerF_le (s : List UInt8) (l : List ByteArray) (i : Nat) (acc : Acc) (h : acc.2.2.1 ≤ s.length) : ∀ k, (innerF s l i acc k).2.2.1 ≤ s.length
  | 0 => h
  | k + 1 => stepF_le s _ i k _ (innerF_le s l i acc h k)
theorem outerF_le (s : List UInt8) (L : List (List ByteArray)) : ∀ i, (outerF s L i).2.2.1 ≤ s.length
  | 0 => Nat.zero_le _
  | i + 1 => innerF_le s _ i _ (outerF_le s L i) _
theorem take1_le (L : List (List ByteArray)) (s : List UInt8) (h : s ≠ []) : (take1 L s).2.2.2 ≤ s.length := by
  unfold take1
  have := outerF_le s L L.length
  unfold firstF
  generalize outerF s L L.length = r at this
  obtain ⟨a, b, m, o⟩ := r
  cases o with
  | false => simp; exact List.length_pos_iff.2 h
  | true => simpa using this
theorem lettersN_enough (L : List (List ByteArray)) : ∀ (f g : Nat) (s : List UInt8), s.length ≤ f → s.length ≤ g → lettersN L f s = lettersN L g s := by
  intro f
  induction f with
  | zero =>
    intro g s hf hg
    have : s = [] := List.eq_nil_of_length_eq_zero (by omega)
    subst this
    cases g <;> simp [lettersN]
  | succ f ih =>
    intro g s hf hg
    cases g with
    | zero =>
      have : s = [] := List.eq_nil_of_length_eq_zero (by omega)
      subst this
      simp [lettersN]
    | succ g =>
      simp only [lettersN]
      by_cases hs : s = []
      · simp [hs]
      · have h1 := take1_pos L s
        rw [if_neg hs, if_neg hs, ih g _ (by rw [List.length_drop]; omega) (by rw [List.length_drop]; omega)]
theorem letters_nil (L : List (List ByteArray)) : letters L [] = [] := rfl
theorem letters_cons (L : List (List ByteArray)) (s : List UInt8) (h : s ≠ []) : letters L s = ((take1 L s).1, (take1 L s).2.1, (take1 L s).2.2.1) :: letters L (s.drop (take1 L s).2.2.2) := by
  have h0 : 0 < s.length := List.length_pos_iff.2 h
  obtain ⟨n, hn⟩ : ∃ n, s.length = n + 1 := ⟨s.length - 1, by omega⟩
  have h1 := take1_pos L s
  show lettersN L s.length s = _
  rw [hn, lettersN, if_neg h]
  congr 1
  exact lettersN_enough L _ _ _ (by rw [List.length_drop]; omega) (Nat.le_refl _)
theorem letters_length (L : List (List ByteArray)) : ∀ (n : Nat) (s : List UInt8), s.length ≤ n → (letters L s).length ≤ s.length := by
  intro n
  induction n with
  | zero =>
    intro s hs
    have : s = [] := List.eq_nil_of_length_eq_zero (by omega)
    subst this
    simp [letters_nil]
  | succ n ih =>
    intro s hs
    by_cases h : s = []
    · subst h; simp [letters_nil]
    · have h1 := take1_pos L s
      have h2 := take1_le L s h
      rw [letters_cons L s h, List.length_cons]
      have := ih (s.drop (take1 L s).2.2.2) (by rw [List.length_drop]; omega)
      rw [List.length_drop] at this
      omega
end Go.Proofs.YtdpllfgnppeneaaGreatDoor.Col
namespace Go.Proofs.YtdpllfgnppeneaaGreatDoor.Col

def section_ (L : List (List ByteArray)) (s : List UInt8) : Int :=
  match s with
  | [] => -1
  | _ :: _ => if (firstF L s).2.2.2 = true then ((firstF L s).1 : Int) else -1
theorem section_nil (L : List (List ByteArray)) : section_ L [] = -1 := rfl
theorem section_yes {L : List (List ByteArray)} {s : List UInt8} {a b m : Nat} (hs : s ≠ []) (h : firstF L s = (a, b, m, true)) : section_ L s = a := by
  cases s with
  | nil => exact absurd rfl hs
  | cons x l => simp [section_, h]
theorem section_no {L : List (List ByteArray)} {s : List UInt8} {a b m : Nat} (hs : s ≠ []) (h : firstF L s = (a, b, m, false)) : section_ L s = -1 := by
  cases s with
  | nil => exact absurd rfl hs
  | cons x l => simp [section_, h]

theorem stepF_lt (s : List UInt8) (acc : Acc) (i k : Nat) (v : List UInt8) (n : Nat) (hi : i < n) (h : acc.2.2.2 = true → acc.1 < n) : (stepF s acc i k v).2.2.2 = true → (stepF s acc i k v).1 < n := by
  unfold stepF
  split
  · intro _; exact hi
  · exact h
theorem innerF_lt (s : List UInt8) (l : List ByteArray) (i : Nat) (acc : Acc) (n : Nat) (hi : i < n) (h : acc.2.2.2 = true → acc.1 < n) : ∀ k, (innerF s l i acc k).2.2.2 = true → (innerF s l i acc k).1 < n
  | 0 => h
  | k + 1 => stepF_lt s _ i k _ n hi (innerF_lt s l i acc n hi h k)
theorem outerF_lt (s : List UInt8) (L : List (List ByteArray)) : ∀ i, i ≤ L.length → (outerF s L i).2.2.2 = true → (outerF s L i).1 < L.length
  | 0, _ => by simp [outerF]
  | i + 1, h => innerF_lt s _ i _ _ (by omega) (outerF_lt s L i (by omega)) _
theorem firstF_lt {L : List (List ByteArray)} {s : List UInt8} {a b m : Nat} (h : firstF L s = (a, b, m, true)) : a < L.length := by
  have := outerF_lt s L L.length (Nat.le_refl _)
  unfold firstF at h
  rw [h] at this
  exact this rfl

/-- The reference's section: of the first key. -/
def refSection (L : List (List ByteArray)) (d : List (Nat × Nat × Bool)) : Int :=
  match d with
  | [] => -1
  | x :: _ => if L.length ≤ x.1 then -1 else (x.1 : Int)
theorem refSection_eq (L : List (List ByteArray)) (s : List UInt8) : refSection L (letters L s) = section_ L s := by
  by_cases hs : s = []
  · subst hs; rfl
  · rw [letters_cons L s hs]
    obtain ⟨⟨a, b, m, o⟩, hf⟩ : ∃ x, firstF L s = x := ⟨_, rfl⟩
    cases o with
    | true =>
      rw [section_yes hs hf, take1_true hf]
      have := firstF_lt hf
      simp only [refSection]
      rw [if_neg (by omega)]
    | false =>
      rw [section_no hs hf, take1_false hf]
      simp [refSection]
end Go.Proofs.YtdpllfgnppeneaaGreatDoor.Col
namespace Go.Proofs.YtdpllfgnppeneaaGreatDoor.Col
def headOf (L : List (List ByteArray)) (i : Int) : ByteArray := if 0 ≤ i ∧ i < (L.length : Int) then (L.getD i.toNat []).headD ⟨#[]⟩ else ⟨#[]⟩
theorem headOf_out {L : List (List ByteArray)} {i : Int} (h : ¬ (0 ≤ i ∧ i < (L.length : Int))) : headOf L i = ⟨#[]⟩ := if_neg h
theorem headOf_in {L : List (List ByteArray)} {k : Nat} {l : List ByteArray} (h : L[k]? = some l) : headOf L (k : Int) = l.headD ⟨#[]⟩ := by
  have hk : k < L.length := (List.getElem?_eq_some_iff.1 h).1
  unfold headOf
  rw [if_pos ⟨by omega, by omega⟩, List.getD, Int.toNat_natCast, h]
  rfl
end Go.Proofs.YtdpllfgnppeneaaGreatDoor.Col

namespace Go.Proofs.YtdpllfgnppeneaaGreatDoor
open Go.RowKit
set_option linter.unusedVariables false
set_option linter.unusedSimpArgs false

/-- Does s begin with t? -/
def preS (t s : ByteArray) : Bool := Col.preB t.data.toList s.data.toList
theorem prefix_raw (s t : ByteArray) (h : t.size ≤ s.size) : ((s.extract 0 t.size).toList == t.toList) = preS t s := by
  have := Lib.hasPrefix_raw s t
  simpa [h, Lib.hasPrefix, preS, Col.preB] using this
theorem prefix_long (s t : ByteArray) (h : ¬ t.size ≤ s.size) : preS t s = false := by
  have := Lib.hasPrefix_raw s t
  simpa [h, Lib.hasPrefix, preS, Col.preB] using this

set_option maxHeartbeats 400000 in
theorem hasPrefix_lite (s t : ByteArray) (w : World) (hs : s.size ≤ 9223372036854775807) (ht : t.size ≤ 9223372036854775807) :
    Calls Tryz.prog 85 #[.string s, .string t] w fun e w' => e = .returned (.bool (preS t s)) ∧ w = w' := by
  by_cases h : t.size ≤ s.size
  · go_enter Tryz.func85, Tryz.ntmps85
    go_wp2
    go_ret
    exact ⟨ret_bool (prefix_raw s t h), rfl⟩
  · go_enter Tryz.func85, Tryz.ntmps85
    go_wp2
    go_ret
    exact ⟨ret_bool (prefix_long s t h).symm, rfl⟩

set_option maxHeartbeats 400000 in
theorem hasPrefix_any (s t : ByteArray) (w : World) (hs : s.size ≤ 9223372036854775807) (ht : t.size ≤ 9223372036854775807) :
    Calls Tryz.prog 62 #[.string s, .string t] w fun e w' => e = .returned (.bool (preS t s)) ∧ w = w' := by
  go_enter Tryz.func62, Tryz.ntmps62
  go_wp2_with (go_at_call 85; refine (hasPrefix_lite s t _ hs ht).mono ?_; rintro e w' ⟨rfl, rfl⟩)
  go_ret
  exact ⟨rfl, rfl⟩
end Go.Proofs.YtdpllfgnppeneaaGreatDoor

namespace Go.Proofs.YtdpllfgnppeneaaGreatDoor
open Go.RowKit
set_option linter.unusedVariables false
set_option linter.unusedSimpArgs false

theorem results_tmp4 {fn : Func} {t u v x : Tmp} (h : fn.results = #[.tmp t, .tmp u, .tmp v, .tmp x]) (tmps : Array Value) (P : Program) (w : World) :
    (results fn tmps).run P w = .ok (.tuple #[tmps.getD t undef, tmps.getD u undef, tmps.getD v undef, tmps.getD x undef]) w := by simp [results, h]

/-- A slice of slices of strings reads as L. -/
def RowsR (w : World) (B : Nat) (A : Option Addr) (n : Nat) (L : List (List ByteArray)) : Prop :=
  ∃ xs, Reads w B 1 A n xs ∧ L.length = n ∧ ∀ (i : Nat) (l : List ByteArray), L[i]? = some l → ∃ A' n' c', xs[i]? = some (Value.slice A' n' c') ∧ SR w B A' n' l
/-- Sizes that no sum of a walk outgrows. -/
def SizedS (l : List ByteArray) : Prop := l.length ≤ 140737488355328 ∧ ∀ s ∈ l, s.size ≤ 140737488355328
def SizedL (L : List (List ByteArray)) : Prop := L.length ≤ 140737488355328 ∧ ∀ l ∈ L, SizedS l

theorem SR.below {w w' : World} {B : Nat} {A : Option Addr} {n : Nat} {l : List ByteArray} (h : SR w B A n l) (hb : Below B w w') : SR w' B A n l := Reads.below h hb
theorem RowsR.at_ {w : World} {B : Nat} {A : Option Addr} {n k : Nat} {L : List (List ByteArray)} (h : RowsR w B A n L) (hk : k < n) :
    ∃ ad l A' n' c', A = some ad ∧ ad.block < B ∧ L[k]? = some l ∧ w.cell? (ad.add k) = some (Value.slice A' n' c') ∧ SR w B A' n' l := by
  obtain ⟨xs, hr, hl, hi⟩ := h
  obtain ⟨ad, u, e, hb, hx, hc⟩ := hr.at_ hk
  have hlt : k < L.length := by omega
  obtain ⟨A', n', c', hx', hs⟩ := hi k L[k] (List.getElem?_eq_getElem hlt)
  rw [hx] at hx'
  cases hx'
  exact ⟨ad, L[k], A', n', c', e, hb, List.getElem?_eq_getElem hlt, hc, hs⟩
theorem RowsR.len {w : World} {B : Nat} {A : Option Addr} {n : Nat} {L : List (List ByteArray)} (h : RowsR w B A n L) : L.length = n := by obtain ⟨xs, hr, hl, hi⟩ := h; exact hl
theorem RowsR.below {w w' : World} {B : Nat} {A : Option Addr} {n : Nat} {L : List (List ByteArray)} (h : RowsR w B A n L) (hb : Below B w w') : RowsR w' B A n L := by
  obtain ⟨xs, hr, hl, hi⟩ := h
  refine ⟨xs, hr.below hb, hl, fun i l hil => ?_⟩
  obtain ⟨A', n', c', hx', hs⟩ := hi i l hil
  exact ⟨A', n', c', hx', hs.below hb⟩

def tupF (r : Col.Acc) : Value := .tuple #[.int .i64 r.1, .int .i64 r.2.1, .int .i64 r.2.2.1, .bool r.2.2.2]

set_option maxHeartbeats 400000 in
theorem first_any (nm : ByteArray) (UA A : Option Addr) (un uc n c : Nat) (L : List (List ByteArray)) (s : ByteArray) (w : World) (B : Nat)
    (hL : RowsR w B A n L) (hB : B ≤ w.heap.size) (hz : SizedL L) (hs : s.size ≤ 140737488355328) :
    Calls Tryz.prog 93 #[.agg #[.string nm, .slice UA un uc, .slice A n c], .string s] w fun e w' => e = .returned (tupF (Col.firstF L s.data.toList)) ∧ Below w.heap.size w w' := by
  have hn : n ≤ 140737488355328 := by have := hz.1; rw [hL.len] at this; exact this
  go_enter Tryz.func93, Tryz.ntmps93
  go_wp2
  go_loop [4, 5, 6, 7, 15] (fun t4 t5 t6 t7 t15 => ∃ (k a b m : Nat) (o : Bool), k ≤ n ∧ t15 = .int .i64 k ∧ Hid (Col.outerF s.data.toList L k = (a, b, m, o)) ∧ t4 = .int .i64 a ∧ t5 = .int .i64 b ∧ t6 = .int .i64 m ∧ t7 = .bool o) (fun _ _ _ _ t15 => n - (intOf t15).toNat)
  case atStart => exact ⟨0, 0, 0, 0, false, Nat.zero_le _, rfl, rfl, rfl, rfl, rfl, rfl⟩
  case round =>
    obtain ⟨k, a, b, m, o, hk, rfl, hacc, rfl, rfl, rfl, rfl⟩ := hrel
    by_cases hlt : k < n
    · obtain ⟨ad, l, A', n', c', rfl, hab, hl, hc, hSR⟩ := hL.at_ hlt
      have hcell : (w.alloc (.cells #[Value.string nm, Value.slice UA un uc, Value.slice (some ad) n c] 50)).cell? (ad.add k) = some (Value.slice A' n' c') := (World.cell?_alloc_lt _ _ _ (by rw [block_of_add]; omega)).trans hc
      have hn' : n' ≤ 140737488355328 := by have := (hz.2 l (List.mem_of_getElem? hl)).1; rw [hSR.len] at this; exact this
      have hsz : ∀ x, x ∈ l → x.size ≤ 140737488355328 := (hz.2 l (List.mem_of_getElem? hl)).2
      have HL := Lib.hid hl; clear hl
      have HSZ := Lib.hid hsz; clear hsz
      have HZ := Lib.hid hz; clear hz
      go_wp2
      go_loop [4, 5, 6, 7, 22] (fun t4 t5 t6 t7 t22 => ∃ (k' a b m : Nat) (o : Bool), k' ≤ n' ∧ t22 = .int .i64 k' ∧ Hid (Col.innerF s.data.toList l k (Col.outerF s.data.toList L k) k' = (a, b, m, o)) ∧ t4 = .int .i64 a ∧ t5 = .int .i64 b ∧ t6 = .int .i64 m ∧ t7 = .bool o) (fun _ _ _ _ t22 => n' - (intOf t22).toNat)
      case atStart => exact ⟨0, a, b, m, o, Nat.zero_le _, rfl, hacc.out, rfl, rfl, rfl, rfl⟩
      case round =>
        clear hacc
        obtain ⟨k', a, b, m, o, hk', rfl, hacc, rfl, rfl, rfl, rfl⟩ := hrel
        by_cases hlt' : k' < n'
        · obtain ⟨ad', v, rfl, hab', hv, hc'⟩ := hSR.at_ hlt'
          have hcell' : (w.alloc (.cells #[Value.string nm, Value.slice UA un uc, Value.slice (some ad) n c] 50)).cell? (ad'.add k') = some (Value.string v) := (World.cell?_alloc_lt _ _ _ (by rw [block_of_add]; omega)).trans hc'
          have hvs : v.size ≤ 140737488355328 := HSZ.out v (List.mem_of_getElem? hv)
          have HV := Lib.hid hv; clear hv
          by_cases hm : m < v.size
          · go_wp2_with (go_at_call 62; refine (hasPrefix_any _ _ _ (by omega) (by omega)).mono ?_; rintro e w' ⟨rfl, rfl⟩)
            · have hp : preS v s = true := by assumption
              go_round
              case rel => exact ⟨k' + 1, k, k', v.size, true, by omega, by go_num, Col.inner_hit hacc.out HV.out hm hp, rfl, rfl, rfl, rfl⟩
              case measure => simp [intOf]; omega
            · have hp : preS v s = false := by assumption
              go_round
              case rel => exact ⟨k' + 1, a, b, m, o, by omega, by go_num, Col.inner_miss hacc.out HV.out (fun _ => hp), rfl, rfl, rfl, rfl⟩
              case measure => simp [intOf]; omega
          · go_wp2
            go_round
            case rel => exact ⟨k' + 1, a, b, m, o, by omega, by go_num, Col.inner_miss hacc.out HV.out (fun h => absurd h hm), rfl, rfl, rfl, rfl⟩
            case measure => simp [intOf]; omega
        · go_wp2
          obtain rfl : k' = n' := by omega
          have HLL := Lib.hid hSR.len
          go_round
          case rel => exact ⟨k + 1, a, b, m, o, by omega, by go_num, Col.outer_next HL.out (by rw [HLL.out]; exact hacc.out), rfl, rfl, rfl, rfl⟩
          case measure => simp [intOf]; omega
    · go_wp2
      obtain rfl : k = n := by omega
      refine bodyPost_ret (results_tmp4 rfl _ _ _) rfl ⟨?_, (Below.refl _ _).alloc (Nat.le_refl _) _⟩
      have h1 : Col.firstF L s.data.toList = (a, b, m, o) := by unfold Col.firstF; rw [hL.len]; exact hacc.out
      rw [h1]
      rfl
theorem firstC_eq {a b m : Nat} {o : Bool} (nm : ByteArray) (UA A : Option Addr) (un uc n c : Nat) (L : List (List ByteArray)) (s : ByteArray) (w : World) (B : Nat)
    (hL : RowsR w B A n L) (hB : B ≤ w.heap.size) (hz : SizedL L) (hs : s.size ≤ 140737488355328) (hf : Hid (Col.firstF L s.data.toList = (a, b, m, o))) :
    Calls Tryz.prog 93 #[.agg #[.string nm, .slice UA un uc, .slice A n c], .string s] w fun e w' => e = .returned (.tuple #[.int .i64 a, .int .i64 b, .int .i64 m, .bool o]) ∧ Below w.heap.size w w' :=
  (first_any nm UA A un uc n c L s w B hL hB hz hs).mono fun e w' ⟨he, hb⟩ => ⟨by rw [he, hf.out]; rfl, hb⟩
end Go.Proofs.YtdpllfgnppeneaaGreatDoor

namespace Go.Proofs.YtdpllfgnppeneaaGreatDoor
open Go.RowKit
set_option linter.unusedVariables false
set_option linter.unusedSimpArgs false

def strSize : Value → Nat | .string s => s.size | _ => 0
/-- The two keys, as they lie in memory. -/
def prim (d : List (Nat × Nat × Bool)) : List Value := d.map fun x => .int .i64 x.1
def secd (d : List (Nat × Nat × Bool)) : List Value := d.map fun x => .int .i64 x.2.1
def allL (d : List (Nat × Nat × Bool)) : Bool := d.all fun x => x.2.2

def LetRel (B0 : Nat) (w : World) (L : List (List ByteArray)) (s : ByteArray) (t1 t7 t8 t9 : Value) (wr : World) : Prop :=
  ∃ (r : ByteArray) (d : List (Nat × Nat × Bool)), t1 = .string r ∧ t9 = .bool (allL d) ∧ d ++ Col.letters L r.data.toList = Col.letters L s.data.toList ∧ d.length + r.size ≤ s.size ∧
    wr.ownsRow B0 3 1 t7 d.length (prim d) ∧ wr.ownsRow B0 3 1 t8 d.length (secd d) ∧ Apart t7 t8 ∧ Below B0 w wr

theorem data_pos {r : ByteArray} (h : 0 < r.size) : r.data.toList ≠ [] := by
  intro h0
  have := Lib.size_eq r
  rw [h0, List.length_nil] at this
  omega
theorem size_pos {r : ByteArray} (h : r.toList.isEmpty = false) : 0 < r.size := by
  rw [Lib.toList_data, Lib.size_eq] at *
  cases hl : r.data.toList with
  | nil => rw [hl] at h; simp at h
  | cons x l => simp
theorem extract_rest (r : ByteArray) (m : Nat) : (r.extract m r.size).data.toList = r.data.toList.drop m := by
  rw [Lib.extract_data, List.take_of_length_le (by rw [List.length_drop, Lib.size_eq]; exact Nat.le_refl _)]
theorem head_byte (r : ByteArray) (h : 0 < r.size) : r.data.toList.headD 0 = r[0] := by
  obtain ⟨⟨l⟩⟩ := r
  cases l with
  | nil => exact absurd h (by decide)
  | cons x l => rfl

theorem let_step {B0 : Nat} {w w3 : World} {L : List (List ByteArray)} {s r : ByteArray} {d : List (Nat × Nat × Bool)} {p q m : Nat} {k : Bool} {v7 v8 t9 : Value}
    (hd : d ++ Col.letters L r.data.toList = Col.letters L s.data.toList) (hr : 0 < r.size) (ht : Col.take1 L r.data.toList = (p, q, k, m)) (hlen : d.length + r.size ≤ s.size)
    (h7 : w3.ownsRow B0 3 1 v7 (d.length + 1) (prim d ++ [.int .i64 p])) (h8 : w3.ownsRow B0 3 1 v8 (d.length + 1) (secd d ++ [.int .i64 q])) (hap : Apart v7 v8) (hb : Below B0 w w3)
    (h9 : t9 = .bool (allL (d ++ [(p, q, k)]))) : LetRel B0 w L s (.string (r.extract m r.size)) v7 v8 t9 w3 ∧ strSize (.string (r.extract m r.size)) < strSize (.string r) := by
  have h1 := Col.take1_pos L r.data.toList
  have h2 := Col.take1_le L r.data.toList (data_pos hr)
  rw [ht] at h1 h2
  simp only at h1 h2
  rw [← Lib.size_eq] at h2
  have hsz : (r.extract m r.size).size = r.size - m := by rw [Lib.size_eq, extract_rest, List.length_drop, ← Lib.size_eq]
  refine ⟨⟨r.extract m r.size, d ++ [(p, q, k)], rfl, h9, ?_, ?_, ?_, ?_, hap, hb⟩, ?_⟩
  · rw [extract_rest, ← hd, Col.letters_cons L r.data.toList (data_pos hr), ht]
    simp
  · rw [hsz, List.length_append, List.length_singleton]
    omega
  · simpa [prim] using h7
  · simpa [secd] using h8
  · simp only [strSize, hsz]
    omega

set_option maxHeartbeats 400000 in
theorem letters_any (nm : ByteArray) (UA A : Option Addr) (un uc n c : Nat) (L : List (List ByteArray)) (s : ByteArray) (w : World) (B : Nat)
    (hL : RowsR w B A n L) (hB : B ≤ w.heap.size) (hz : SizedL L) (hs : s.size ≤ 1099511627776) :
    Calls Tryz.prog 74 #[.agg #[.string nm, .slice UA un uc, .slice A n c], .string s] w fun e w' => ∃ va vb,
      e = .returned (.tuple #[va, vb, .bool (allL (Col.letters L s.data.toList))]) ∧
      w'.ownsRow w.heap.size 3 1 va (Col.letters L s.data.toList).length (prim (Col.letters L s.data.toList)) ∧
      w'.ownsRow w.heap.size 3 1 vb (Col.letters L s.data.toList).length (secd (Col.letters L s.data.toList)) ∧ Below w.heap.size w w' := by
  have hn : n ≤ 140737488355328 := by have := hz.1; rw [hL.len] at this; exact this
  obtain ⟨i0, hi, hz0, hz1, hz2⟩ := info_parts info_int
  go_enter Tryz.func74, Tryz.ntmps74
  go_wp2
  go_loopw [1, 7, 8, 9] (fun t1 t7 t8 t9 wr => LetRel (w.heap.size + 1) (w.alloc (.cells #[Value.string nm, Value.slice UA un uc, Value.slice A n c] 50)) L s t1 t7 t8 t9 wr) (fun t1 _ _ _ _ => strSize t1)
  case atStart => exact ⟨s, [], rfl, rfl, rfl, by simp, World.ownsRow_nil _ _ _ _, World.ownsRow_nil _ _ _ _, Apart.nil_left _, Below.refl _ _⟩
  case round =>
    obtain ⟨r, d, rfl, rfl, hd, hlen, h7, h8, hap, hbl⟩ := hrel
    have c0 : wr.cell? ⟨w.heap.size, 0, none⟩ = some (.string nm) := (hbl.cell (by simp)).trans (by rw [World.cell?_alloc_at _ _ _ _ rfl]; rfl)
    have c1 : wr.cell? ⟨w.heap.size, 1, none⟩ = some (.slice UA un uc) := (hbl.cell (by simp)).trans (by rw [World.cell?_alloc_at _ _ _ _ rfl]; rfl)
    have c2 : wr.cell? ⟨w.heap.size, 2, none⟩ = some (.slice A n c) := (hbl.cell (by simp)).trans (by rw [World.cell?_alloc_at _ _ _ _ rfl]; rfl)
    have hsz : w.heap.size + 1 ≤ wr.heap.size := by have := hbl.size; simpa using this
    have hLr : RowsR wr B A n L := (hL.below (((Below.refl B w).alloc hB _).trans (hbl.mono (by omega))))
    have HD := Lib.hid hd; clear hd
    have HZ := Lib.hid hz; clear hz
    by_cases hr : r.toList.isEmpty = true
    · go_wp2
      go_ret3
      have hr0 : r.data.toList = [] := by rw [← Lib.toList_data]; simpa using hr
      have hd := HD.out
      rw [hr0, Col.letters_nil, List.append_nil] at hd
      subst hd
      exact ⟨u7, u8, rfl, own_base h7 (by omega), own_base h8 (by omega), ((Below.refl _ _).alloc (Nat.le_refl _) _).trans (hbl.mono (by omega))⟩
    · have hr' : r.toList.isEmpty = false := by simpa using hr
      clear hr
      obtain ⟨⟨a, b, m, o⟩, hf⟩ : ∃ x, Hid (Col.firstF L r.data.toList = x) := ⟨_, rfl⟩
      have h1 : 0 < r.size := size_pos hr'
      have hlen' : d.length ≤ 1099511627776 := by omega
      have hb0 : (r[0]'h1).toNat < 256 := UInt8.toNat_lt _
      cases o with
      | true =>
        have HT := Lib.hid (Col.take1_true hf.out)
        have hm : m ≤ r.size := by
          have := Col.take1_le L r.data.toList (data_pos h1)
          rw [HT.out, ← Lib.size_eq] at this
          exact this
        go_wp2_with
          (first
          | (go_at_call 93; refine (firstC_eq nm UA A un uc n c L r _ B hLr (by omega) HZ.out (by omega) hf).mono ?_; rintro e w1 ⟨rfl, hb1⟩; have hs1 := hb1.size; have h71 := own_below h7 hb1; have h81 := own_below h8 hb1)
          | (at_builtin; refine wpList_app1 rfl (.tmp 33) (.tmp 35) _ rfl (w.heap.size + 1) 3 8 _ info_int rfl Tryz.underlying22 rfl h71 rfl rfl (by omega) (by omega) (by omega) ?_; rintro v7 w2 hown7 hb2 hs2 hk2; obtain ⟨h82, hap2⟩ := hk2 _ _ _ _ _ _ h81 hap.symm; clear hk2)
          | (at_builtin; refine wpList_app1 rfl (.tmp 37) (.tmp 39) _ rfl (w.heap.size + 1) 3 8 _ info_int rfl Tryz.underlying22 rfl h82 rfl rfl (by omega) (by omega) (by omega) ?_; rintro v8 w3 hown8 hb3 hs3 hk3; obtain ⟨hown7', hap3⟩ := hk3 _ _ _ _ _ _ hown7 hap2.symm; clear hk3))
        exact let_step HD.out h1 HT.out hlen hown7' hown8 hap3 (((hbl.trans (hb1.mono hsz)).trans hb2).trans hb3) (by simp [allL])
      | false =>
        have HT := Lib.hid (Col.take1_false hf.out)
        have c2' : ∀ w1, Below wr.heap.size wr w1 → w1.cell? ⟨w.heap.size, 2, none⟩ = some (.slice A n c) := fun w1 hb1 => (hb1.cell (by simp; omega)).trans c2
        go_wp2_with (go_at_call 93; refine (firstC_eq nm UA A un uc n c L r _ B hLr (by omega) HZ.out (by omega) hf).mono ?_; rintro e w1 ⟨rfl, hb1⟩; have hs1 := hb1.size; have h71 := own_below h7 hb1; have h81 := own_below h8 hb1)
        have c2'' := c2' w1 hb1
        clear c2'
        go_quiet (fail)
        obtain ⟨w1', hw1', hs1', h71', h81', hb1'⟩ : ∃ w1', Hid (w1' = w1.drewN nq) ∧ w1.heap.size ≤ w1'.heap.size ∧ w1'.ownsRow (w.heap.size + 1) 3 1 u7 d.length (prim d) ∧ w1'.ownsRow (w.heap.size + 1) 3 1 u8 d.length (secd d) ∧ Below w1.heap.size w1 w1' :=
          ⟨w1.drewN nq, rfl, Nat.le_refl _, h71, h81, below_drewN (Below.refl _ _) _⟩
        rw [← hw1'.out]
        go_wp2_with
          (first
          | (go_at_call 93; refine (firstC_eq nm UA A un uc n c L r _ B hLr (by omega) HZ.out (by omega) hf).mono ?_; rintro e w1 ⟨rfl, hb1⟩; have hs1 := hb1.size; have h71 := own_below h7 hb1; have h81 := own_below h8 hb1)
          | (at_builtin; refine wpList_app1 rfl (.tmp 33) (.tmp 35) _ rfl (w.heap.size + 1) 3 8 _ info_int rfl Tryz.underlying22 rfl h71' rfl rfl (by omega) (by omega) (by omega) ?_; rintro v7 w2 hown7 hb2 hs2 hk2; obtain ⟨h82, hap2⟩ := hk2 _ _ _ _ _ _ h81' hap.symm; clear hk2)
          | (at_builtin; refine wpList_app1 rfl (.tmp 37) (.tmp 39) _ rfl (w.heap.size + 1) 3 8 _ info_int rfl Tryz.underlying22 rfl h82 rfl rfl (by omega) (by omega) (by omega) ?_; rintro v8 w3 hown8 hb3 hs3 hk3; obtain ⟨hown7', hap3⟩ := hk3 _ _ _ _ _ _ hown7 hap2.symm; clear hk3))
        have hp : ((n : Int) + ((r[0]'h1).toNat : Int)) = ((L.length + (r.data.toList.headD 0).toNat : Nat) : Int) := by rw [head_byte r h1, hL.len]; omega
        rw [hp] at hown7'
        exact let_step HD.out h1 HT.out hlen hown7' hown8 hap3 ((((hbl.trans (hb1.mono hsz)).trans (hb1'.mono (by omega))).trans hb2).trans hb3) (by simp [allL])
end Go.Proofs.YtdpllfgnppeneaaGreatDoor

namespace Go.Proofs.YtdpllfgnppeneaaGreatDoor
open Go.RowKit
set_option linter.unusedVariables false
set_option linter.unusedSimpArgs false

/-- How the reference's three numbers stand to the program's four. -/
def RefAcc (o : Bool) (a b : Nat) (x y : Int) : Prop := (o = true → x = a ∧ y = b) ∧ (o = false → x = -1 ∧ y = -1)

def RefRel (B0 : Nat) (w : World) (L : List (List ByteArray)) (s : ByteArray) (t7 t8 t9 t10 : Value) (wr : World) : Prop :=
  ∃ (at_ : Nat) (d : List (Nat × Nat × Bool)), at_ ≤ s.size ∧ t10 = .int .i64 at_ ∧ t9 = .bool (allL d) ∧ d ++ Col.letters L (s.data.toList.drop at_) = Col.letters L s.data.toList ∧ d.length ≤ at_ ∧
    wr.ownsRow B0 3 1 t7 d.length (prim d) ∧ wr.ownsRow B0 3 1 t8 d.length (secd d) ∧ Apart t7 t8 ∧ Below B0 w wr

theorem head_at (s : ByteArray) (k : Nat) (h : k < s.size) : (s.data.toList.drop k).headD 0 = s[k] := by
  obtain ⟨⟨l⟩⟩ := s
  have h' : k < l.length := h
  show (l.drop k).headD 0 = l[k]
  rw [List.drop_eq_getElem_cons h']
  rfl

theorem ref_step {B0 : Nat} {w w3 : World} {L : List (List ByteArray)} {s : ByteArray} {d : List (Nat × Nat × Bool)} {p q m at_ : Nat} {k : Bool} {v7 v8 t9 : Value}
    (hd : d ++ Col.letters L (s.data.toList.drop at_) = Col.letters L s.data.toList) (hr : at_ < s.size) (ht : Col.take1 L (s.data.toList.drop at_) = (p, q, k, m)) (hlen : d.length ≤ at_)
    (h7 : w3.ownsRow B0 3 1 v7 (d.length + 1) (prim d ++ [.int .i64 p])) (h8 : w3.ownsRow B0 3 1 v8 (d.length + 1) (secd d ++ [.int .i64 q])) (hap : Apart v7 v8) (hb : Below B0 w w3)
    (h9 : t9 = .bool (allL (d ++ [(p, q, k)]))) (e : Int) (he : e = at_ + m) : RefRel B0 w L s v7 v8 t9 (.int .i64 e) w3 ∧ s.size - (intOf (.int .i64 e)).toNat < s.size - (intOf (.int .i64 at_)).toNat := by
  have hne : s.data.toList.drop at_ ≠ [] := by
    intro h0
    have := congrArg List.length h0
    rw [List.length_drop, ← Lib.size_eq] at this
    simp at this
    omega
  have h1 := Col.take1_pos L (s.data.toList.drop at_)
  have h2 := Col.take1_le L (s.data.toList.drop at_) hne
  rw [ht] at h1 h2
  rw [List.length_drop, ← Lib.size_eq] at h2
  simp only at h1 h2
  subst he
  refine ⟨⟨at_ + m, d ++ [(p, q, k)], by omega, by go_num, h9, ?_, ?_, ?_, ?_, hap, hb⟩, ?_⟩
  · rw [← hd, Col.letters_cons L (s.data.toList.drop at_) hne, ht]
    simp
  · rw [List.length_append, List.length_singleton]
    omega
  · simpa [prim] using h7
  · simpa [secd] using h8
  · simp only [intOf]
    omega

end Go.Proofs.YtdpllfgnppeneaaGreatDoor

namespace Go.Proofs.YtdpllfgnppeneaaGreatDoor
open Go.RowKit
set_option linter.unusedVariables false
set_option linter.unusedSimpArgs false

end Go.Proofs.YtdpllfgnppeneaaGreatDoor

/-
  PLAIN LAW: comparisons that are total orders. No program in sight.
-/
set_option linter.unusedVariables false
set_option linter.unusedSimpArgs false
namespace Go.Proofs.YtdpllfgnppeneaaGreatDoor.Col

/-- A comparison: -1, 0 or 1; a total order. -/
structure IsCmpS {α : Type} (c : α → α → Int) : Prop where
  range : ∀ x y, c x y = -1 ∨ c x y = 0 ∨ c x y = 1
  anti : ∀ x y, c y x = - c x y
  trans : ∀ x y z, c x y ≤ 0 → c y z ≤ 0 → c x z = min (c x y) (c y z)
theorem IsCmpS.self {α : Type} {c : α → α → Int} (h : IsCmpS c) (x : α) : c x x = 0 := by have := h.anti x x; omega
theorem IsCmpS.comap {α β : Type} {c : α → α → Int} (h : IsCmpS c) (f : β → α) : IsCmpS (fun x y => c (f x) (f y)) := ⟨fun _ _ => h.range _ _, fun _ _ => h.anti _ _, fun _ _ _ => h.trans _ _ _⟩
def or2 (a b : Int) : Int := if a = 0 then b else a
theorem IsCmpS.or {α : Type} {c d : α → α → Int} (hc : IsCmpS c) (hd : IsCmpS d) : IsCmpS (fun x y => or2 (c x y) (d x y)) := by
  refine ⟨fun x y => ?_, fun x y => ?_, fun x y z => ?_⟩
  · unfold or2; split
    · exact hd.range x y
    · exact hc.range x y
  · have h1 := hc.anti x y; have h2 := hd.anti x y; unfold or2; split <;> split <;> omega
  · have h1 := hc.trans x y z; have h2 := hd.trans x y z
    have r1 := hc.range x y; have r2 := hc.range y z; have r3 := hd.range x y; have r4 := hd.range y z
    have t1 := hc.anti x y; have t2 := hc.anti y z; have t3 := hc.anti x z
    unfold or2
    intro a b
    by_cases e1 : c x y = 0
    · rw [if_pos e1] at a ⊢
      by_cases e2 : c y z = 0
      · rw [if_pos e2] at b ⊢
        have := h1 (by omega) (by omega)
        have h0 : c x z = 0 := by omega
        rw [if_pos h0]
        exact h2 a b
      · rw [if_neg e2] at b ⊢
        have := h1 (by omega) (by omega)
        rw [if_neg (by omega)]
        omega
    · rw [if_neg e1] at a ⊢
      by_cases e2 : c y z = 0
      · rw [if_pos e2] at b ⊢
        have := h1 (by omega) (by omega)
        rw [if_neg (by omega)]
        omega
      · rw [if_neg e2] at b ⊢
        have := h1 (by omega) (by omega)
        rw [if_neg (by omega)]
        omega

def cmpN (a b : Int) : Int := if a < b then -1 else if b < a then 1 else 0
theorem cmpN_is : IsCmpS cmpN := by
  refine ⟨fun x y => ?_, fun x y => ?_, fun x y z => ?_⟩ <;> unfold cmpN <;> repeat' split
  all_goals first | omega | skip

def cmpI : List Int → List Int → Int
  | [], [] => 0
  | [], _ :: _ => -1
  | _ :: _, [] => 1
  | a :: l, b :: m => or2 (cmpN a b) (cmpI l m)
theorem cmpI_range : ∀ l m, cmpI l m = -1 ∨ cmpI l m = 0 ∨ cmpI l m = 1
  | [], [] => by simp [cmpI]
  | [], _ :: _ => by simp [cmpI]
  | _ :: _, [] => by simp [cmpI]
  | a :: l, b :: m => by
    have := cmpI_range l m
    have h := cmpN_is.range a b
    simp only [cmpI, or2]
    split <;> omega
theorem cmpI_anti : ∀ l m, cmpI m l = - cmpI l m
  | [], [] => by simp [cmpI]
  | [], _ :: _ => by simp [cmpI]
  | _ :: _, [] => by simp [cmpI]
  | a :: l, b :: m => by
    have := cmpI_anti l m
    have h := cmpN_is.anti a b
    simp only [cmpI, or2]
    split <;> split <;> omega
theorem cmpI_trans : ∀ l m n, cmpI l m ≤ 0 → cmpI m n ≤ 0 → cmpI l n = min (cmpI l m) (cmpI m n)
  | [], [], [] => by simp [cmpI]
  | [], [], _ :: _ => by simp [cmpI]; omega
  | [], _ :: _, [] => by simp [cmpI]
  | _ :: _, [], _ => by simp [cmpI]
  | _ :: _, _ :: _, [] => by simp [cmpI]
  | [], a :: l, b :: m => by
    have := cmpI_range (a :: l) (b :: m)
    intro _ h
    show (-1 : Int) = min (-1) (cmpI (a :: l) (b :: m))
    omega
  | a :: l, b :: m, e :: n => by
    have h1 := cmpN_is.trans a b e
    have h2 := cmpI_trans l m n
    have r1 := cmpN_is.range a b; have r2 := cmpN_is.range b e; have r3 := cmpI_range l m; have r4 := cmpI_range m n
    simp only [cmpI, or2]
    intro x y
    by_cases e1 : cmpN a b = 0
    · rw [if_pos e1] at x ⊢
      by_cases e2 : cmpN b e = 0
      · rw [if_pos e2] at y ⊢
        have := h1 (by omega) (by omega)
        rw [if_pos (by omega)]
        exact h2 x y
      · rw [if_neg e2] at y ⊢
        have := h1 (by omega) (by omega)
        rw [if_neg (by omega)]
        omega
    · rw [if_neg e1] at x ⊢
      by_cases e2 : cmpN b e = 0
      · rw [if_pos e2] at y ⊢
        have := h1 (by omega) (by omega)
        rw [if_neg (by omega)]
        omega
      · rw [if_neg e2] at y ⊢
        have := h1 (by omega) (by omega)
        rw [if_neg (by omega)]
        omega
theorem cmpI_is : IsCmpS cmpI := ⟨cmpI_range, cmpI_anti, cmpI_trans⟩
theorem cmpN_zero {a b : Int} (h : cmpN a b = 0) : a = b := by
  unfold cmpN at h
  split at h
  · omega
  · split at h <;> omega
theorem cmpI_zero : ∀ l m, cmpI l m = 0 → l = m
  | [], [] => by simp
  | [], _ :: _ => by simp [cmpI]
  | _ :: _, [] => by simp [cmpI]
  | a :: l, b :: m => by
    simp only [cmpI, or2]
    split
    · rename_i h
      intro h2
      rw [cmpN_zero h, cmpI_zero l m h2]
    · intro h2; omega

theorem cmpI_at : ∀ {l m : List Int} {k : Nat} {x y : Int}, l.take k = m.take k → l[k]? = some x → m[k]? = some y → cmpN x y ≠ 0 → cmpI l m = cmpN x y
  | [], _, _, _, _, _, h, _, _ => by simp at h
  | _ :: _, [], _, _, _, _, _, h, _ => by simp at h
  | a :: l, b :: m, 0, x, y, _, hx, hy, h => by
    simp at hx hy
    subst hx hy
    simp only [cmpI, or2]
    rw [if_neg h]
  | a :: l, b :: m, k + 1, x, y, ht, hx, hy, h => by
    simp at ht hx hy
    obtain ⟨rfl, ht⟩ := ht
    simp only [cmpI, or2]
    rw [if_pos (cmpN_is.self a)]
    exact cmpI_at ht hx hy h
theorem cmpI_end : ∀ {l m : List Int}, l.take (min l.length m.length) = m.take (min l.length m.length) → cmpI l m = cmpN l.length m.length
  | [], [], _ => rfl
  | [], b :: m, _ => by simp [cmpI, cmpN]; try omega
  | a :: l, [], _ => by simp [cmpI, cmpN]; try omega
  | a :: l, b :: m, h => by
    have e : min (a :: l).length (b :: m).length = min l.length m.length + 1 := by simp only [List.length_cons]; omega
    rw [e] at h
    simp at h
    obtain ⟨rfl, h⟩ := h
    simp only [cmpI, or2]
    rw [if_pos (cmpN_is.self a), cmpI_end h]
    simp [cmpN]

/-- The two keys as numbers; the bytes as numbers. -/
def primI (L : List (List ByteArray)) (s : List UInt8) : List Int := (letters L s).map fun x => (x.1 : Int)
def secI (L : List (List ByteArray)) (s : List UInt8) : List Int := (letters L s).map fun x => (x.2.1 : Int)
def bytesI (s : List UInt8) : List Int := s.map fun b => (b.toNat : Int)
theorem bytesI_inj {s t : List UInt8} (h : bytesI s = bytesI t) : s = t := by
  unfold bytesI at h
  induction s generalizing t with
  | nil => cases t with
    | nil => rfl
    | cons y t => simp at h
  | cons x s ih => cases t with
    | nil => simp at h
    | cons y t =>
      simp at h
      obtain ⟨h1, h2⟩ := h
      rw [show x = y from UInt8.toNat_inj.1 (by omega), ih h2]
def cmpS (L : List (List ByteArray)) (s t : List UInt8) : Int := or2 (cmpI (primI L s) (primI L t)) (or2 (cmpI (secI L s) (secI L t)) (cmpI (bytesI s) (bytesI t)))
theorem cmpS_is (L : List (List ByteArray)) : IsCmpS (cmpS L) := (cmpI_is.comap (primI L)).or ((cmpI_is.comap (secI L)).or (cmpI_is.comap bytesI))
theorem cmpS_zero {L : List (List ByteArray)} {s t : List UInt8} (h : cmpS L s t = 0) : s = t := by
  unfold cmpS or2 at h
  split at h
  · split at h
    · exact bytesI_inj (cmpI_zero _ _ h)
    · omega
  · omega
end Go.Proofs.YtdpllfgnppeneaaGreatDoor.Col
