import Derived.Test.YtgbhpmbkhhbifaaStr
import Derived.Test.YtgbhpmbkhhbifaaPlainCol
namespace Go.Proofs.Ytgbhpmbkhhbifaa
open Go.RowKit
set_option linter.unusedVariables false
set_option linter.unusedSimpArgs false

theorem results_tmp4 {fn : Func} {t u v x : Tmp} (h : fn.results = #[.tmp t, .tmp u, .tmp v, .tmp x]) (tmps : Array Value) (P : Program) (w : World) :
    (results fn tmps).run P w = .ok (.tuple #[tmps.getD t undef, tmps.getD u undef, tmps.getD v undef, tmps.getD x undef]) w := by simp [results, h]

/-- A slice of strings reads as l. -/
def SR (w : World) (B : Nat) (A : Option Addr) (n : Nat) (l : List ByteArray) : Prop := Reads w B 1 A n (l.map .string)
/-- A slice of slices of strings reads as L. -/
def RowsR (w : World) (B : Nat) (A : Option Addr) (n : Nat) (L : List (List ByteArray)) : Prop :=
  ∃ xs, Reads w B 1 A n xs ∧ L.length = n ∧ ∀ (i : Nat) (l : List ByteArray), L[i]? = some l → ∃ A' n' c', xs[i]? = some (Value.slice A' n' c') ∧ SR w B A' n' l
/-- Sizes that no sum of a walk outgrows. -/
def SizedS (l : List ByteArray) : Prop := l.length ≤ 140737488355328 ∧ ∀ s ∈ l, s.size ≤ 140737488355328
def SizedL (L : List (List ByteArray)) : Prop := L.length ≤ 140737488355328 ∧ ∀ l ∈ L, SizedS l

theorem SR.at_ {w : World} {B : Nat} {A : Option Addr} {n k : Nat} {l : List ByteArray} (h : SR w B A n l) (hk : k < n) :
    ∃ ad x, A = some ad ∧ ad.block < B ∧ l[k]? = some x ∧ w.cell? (ad.add k) = some (.string x) := by
  obtain ⟨ad, u, e, hb, hx, hc⟩ := Reads.at_ h hk
  rw [List.getElem?_map] at hx
  cases hz : l[k]? with
  | none => rw [hz] at hx; cases hx
  | some x => rw [hz] at hx; cases hx; exact ⟨ad, x, e, hb, rfl, hc⟩
theorem SR.len {w : World} {B : Nat} {A : Option Addr} {n : Nat} {l : List ByteArray} (h : SR w B A n l) : l.length = n := by simpa using h.1
theorem SR.below {w w' : World} {B : Nat} {A : Option Addr} {n : Nat} {l : List ByteArray} (h : SR w B A n l) (hb : Below B w w') : SR w' B A n l := Reads.below h hb
theorem RowsR.at_ {w : World} {B : Nat} {A : Option Addr} {n k : Nat} {L : List (List ByteArray)} (h : RowsR w B A n L) (hk : k < n) :
    ∃ ad l A' n' c', A = some ad ∧ ad.block < B ∧ L[k]? = some l ∧ w.cell? (ad.add k) = some (Value.slice A' n' c') ∧ SR w B A' n' l := by
  obtain ⟨xs, hr, hl, hi⟩ := h
  obtain ⟨ad, u, e, hb, hx, hc⟩ := hr.at_ hk
  have hlt : k < L.length := by omega
  obtain ⟨A', n', c', hx', hs⟩ := hi k L[k] (List.getElem?_eq_getElem hlt)
  rw [hx] at hx'
  cases hx'
  exact ⟨ad, L[k], A', n', c', e, hb, List.getElem?_eq_getElem hlt, hc, hs⟩
theorem RowsR.len {w : World} {B : Nat} {A : Option Addr} {n : Nat} {L : List (List ByteArray)} (h : RowsR w B A n L) : L.length = n := by obtain ⟨xs, hr, hl, hi⟩ := h; exact hl
theorem RowsR.below {w w' : World} {B : Nat} {A : Option Addr} {n : Nat} {L : List (List ByteArray)} (h : RowsR w B A n L) (hb : Below B w w') : RowsR w' B A n L := by
  obtain ⟨xs, hr, hl, hi⟩ := h
  refine ⟨xs, hr.below hb, hl, fun i l hil => ?_⟩
  obtain ⟨A', n', c', hx', hs⟩ := hi i l hil
  exact ⟨A', n', c', hx', hs.below hb⟩

def tupF (r : Col.Acc) : Value := .tuple #[.int .i64 r.1, .int .i64 r.2.1, .int .i64 r.2.2.1, .bool r.2.2.2]

set_option maxHeartbeats 400000 in
theorem first_any (nm : ByteArray) (UA A : Option Addr) (un uc n c : Nat) (L : List (List ByteArray)) (s : ByteArray) (w : World) (B : Nat)
    (hL : RowsR w B A n L) (hB : B ≤ w.heap.size) (hz : SizedL L) (hs : s.size ≤ 140737488355328) :
    Calls Try.prog 29 #[.agg #[.string nm, .slice UA un uc, .slice A n c], .string s] w fun e w' => e = .returned (tupF (Col.firstF L s.data.toList)) ∧ Below w.heap.size w w' := by
  have hn : n ≤ 140737488355328 := by have := hz.1; rw [hL.len] at this; exact this
  go_enter Try.func29, Try.ntmps29
  go_wp2
  go_loop [4, 5, 6, 7, 15] (fun t4 t5 t6 t7 t15 => ∃ (k a b m : Nat) (o : Bool), k ≤ n ∧ t15 = .int .i64 k ∧ Hid (Col.outerF s.data.toList L k = (a, b, m, o)) ∧ t4 = .int .i64 a ∧ t5 = .int .i64 b ∧ t6 = .int .i64 m ∧ t7 = .bool o) (fun _ _ _ _ t15 => n - (intOf t15).toNat)
  case atStart => exact ⟨0, 0, 0, 0, false, Nat.zero_le _, rfl, rfl, rfl, rfl, rfl, rfl⟩
  case round =>
    obtain ⟨k, a, b, m, o, hk, rfl, hacc, rfl, rfl, rfl, rfl⟩ := hrel
    by_cases hlt : k < n
    · obtain ⟨ad, l, A', n', c', rfl, hab, hl, hc, hSR⟩ := hL.at_ hlt
      have hcell : (w.alloc (.cells #[Value.string nm, Value.slice UA un uc, Value.slice (some ad) n c] 28)).cell? (ad.add k) = some (Value.slice A' n' c') := (World.cell?_alloc_lt _ _ _ (by rw [block_of_add]; omega)).trans hc
      have hn' : n' ≤ 140737488355328 := by have := (hz.2 l (List.mem_of_getElem? hl)).1; rw [hSR.len] at this; exact this
      have hsz : ∀ x, x ∈ l → x.size ≤ 140737488355328 := (hz.2 l (List.mem_of_getElem? hl)).2
      have HL := Lib.hid hl; clear hl
      have HSZ := Lib.hid hsz; clear hsz
      have HZ := Lib.hid hz; clear hz
      go_wp2
      go_loop [4, 5, 6, 7, 22] (fun t4 t5 t6 t7 t22 => ∃ (k' a b m : Nat) (o : Bool), k' ≤ n' ∧ t22 = .int .i64 k' ∧ Hid (Col.innerF s.data.toList l k (Col.outerF s.data.toList L k) k' = (a, b, m, o)) ∧ t4 = .int .i64 a ∧ t5 = .int .i64 b ∧ t6 = .int .i64 m ∧ t7 = .bool o) (fun _ _ _ _ t22 => n' - (intOf t22).toNat)
      case atStart => exact ⟨0, a, b, m, o, Nat.zero_le _, rfl, hacc.out, rfl, rfl, rfl, rfl⟩
      case round =>
        clear hacc
        obtain ⟨k', a, b, m, o, hk', rfl, hacc, rfl, rfl, rfl, rfl⟩ := hrel
        by_cases hlt' : k' < n'
        · obtain ⟨ad', v, rfl, hab', hv, hc'⟩ := hSR.at_ hlt'
          have hcell' : (w.alloc (.cells #[Value.string nm, Value.slice UA un uc, Value.slice (some ad) n c] 28)).cell? (ad'.add k') = some (Value.string v) := (World.cell?_alloc_lt _ _ _ (by rw [block_of_add]; omega)).trans hc'
          have hvs : v.size ≤ 140737488355328 := HSZ.out v (List.mem_of_getElem? hv)
          have HV := Lib.hid hv; clear hv
          by_cases hm : m < v.size
          · go_wp2_with (go_at_call 43; refine (hasPrefix_any _ _ _ (by omega) (by omega)).mono ?_; rintro e w' ⟨rfl, rfl⟩)
            · have hp : preS v s = true := by assumption
              go_round
              case rel => exact ⟨k' + 1, k, k', v.size, true, by omega, by go_num, Col.inner_hit hacc.out HV.out hm hp, rfl, rfl, rfl, rfl⟩
              case measure => simp [intOf]; omega
            · have hp : preS v s = false := by assumption
              go_round
              case rel => exact ⟨k' + 1, a, b, m, o, by omega, by go_num, Col.inner_miss hacc.out HV.out (fun _ => hp), rfl, rfl, rfl, rfl⟩
              case measure => simp [intOf]; omega
          · go_wp2
            go_round
            case rel => exact ⟨k' + 1, a, b, m, o, by omega, by go_num, Col.inner_miss hacc.out HV.out (fun h => absurd h hm), rfl, rfl, rfl, rfl⟩
            case measure => simp [intOf]; omega
        · go_wp2
          obtain rfl : k' = n' := by omega
          have HLL := Lib.hid hSR.len
          go_round
          case rel => exact ⟨k + 1, a, b, m, o, by omega, by go_num, Col.outer_next HL.out (by rw [HLL.out]; exact hacc.out), rfl, rfl, rfl, rfl⟩
          case measure => simp [intOf]; omega
    · go_wp2
      obtain rfl : k = n := by omega
      refine bodyPost_ret (results_tmp4 rfl _ _ _) rfl ⟨?_, (Below.refl _ _).alloc (Nat.le_refl _) _⟩
      have h1 : Col.firstF L s.data.toList = (a, b, m, o) := by unfold Col.firstF; rw [hL.len]; exact hacc.out
      rw [h1]
      rfl
theorem first_eq {a b m : Nat} {o : Bool} (nm : ByteArray) (UA A : Option Addr) (un uc n c : Nat) (L : List (List ByteArray)) (s : ByteArray) (w : World) (B : Nat)
    (hL : RowsR w B A n L) (hB : B ≤ w.heap.size) (hz : SizedL L) (hs : s.size ≤ 140737488355328) (hf : Hid (Col.firstF L s.data.toList = (a, b, m, o))) :
    Calls Try.prog 29 #[.agg #[.string nm, .slice UA un uc, .slice A n c], .string s] w fun e w' => e = .returned (.tuple #[.int .i64 a, .int .i64 b, .int .i64 m, .bool o]) ∧ Below w.heap.size w w' :=
  (first_any nm UA A un uc n c L s w B hL hB hz hs).mono fun e w' ⟨he, hb⟩ => ⟨by rw [he, hf.out]; rfl, hb⟩
end Go.Proofs.Ytgbhpmbkhhbifaa
