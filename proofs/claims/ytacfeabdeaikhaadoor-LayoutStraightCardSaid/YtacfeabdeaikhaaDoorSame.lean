import Derived.Test.YtacfeabdeaikhaaDoorProg
import Derived.Test.YtacfeabdeaikhaaDoorWords
import Derived.Deep.QuietTactic
import Derived.BigQuiet
namespace Go.Proofs.YtacfeabdeaikhaaDoor
open Go.RowKit

theorem ints_at {w : World} {B : Nat} {A : Option Addr} {n k : Nat} {xs : List Int} (h : Reads w B 1 A n (xs.map (.int .i64))) (hk : k < n) :
    ∃ ad x, A = some ad ∧ ad.block < B ∧ xs[k]? = some x ∧ w.cell? (ad.add k) = some (.int .i64 x) := by
  obtain ⟨ad, u, e, hb, hx, hc⟩ := h.at_ hk
  rw [List.getElem?_map] at hx
  cases hz : xs[k]? with
  | none => rw [hz] at hx; cases hx
  | some x => rw [hz] at hx; cases hx; exact ⟨ad, x, e, hb, rfl, hc⟩

theorem take_snoc_eq {α : Type} {xs ys : List α} {k : Nat} {x y : α} (h : xs.take k = ys.take k) (hx : xs[k]? = some x) (hy : ys[k]? = some y) (he : x = y) : xs.take (k + 1) = ys.take (k + 1) := by
  rw [List.take_add_one, List.take_add_one, h, hx, hy, he]

set_option maxHeartbeats 400000 in
theorem same_ints (A B : Option Addr) (n m c d : Nat) (xs ys : List Int) (w : World) (ha : Reads w w.heap.size 1 A n (xs.map (.int .i64))) (hb : Reads w w.heap.size 1 B m (ys.map (.int .i64)))
    (hn : n ≤ 9223372036854775807) (hm : m ≤ 9223372036854775807) :
    Calls Tryd.prog 18 #[.slice A n c, .slice B m d] w fun e w' => e = .returned (.bool (xs == ys)) ∧ ∃ k, w' = w.drewN k := by
  have hxl : xs.length = n := by simpa using ha.1
  have hyl : ys.length = m := by simpa using hb.1
  by_cases hnm : n = m
  · subst hnm
    have HX := Lib.hid hxl; clear hxl
    have HY := Lib.hid hyl; clear hyl
    go_enter Tryd.func18, Tryd.ntmps18
    go_wp2
    go_loopw [5, 13] (fun _ i wr => ∃ k : Nat, k ≤ n ∧ i = .int .i64 k ∧ Hid (xs.take k = ys.take k) ∧ ∃ q, wr = w.drewN q) (fun _ i _ => n - (intOf i).toNat)
    case atStart => exact ⟨0, Nat.zero_le _, rfl, rfl, 0, rfl⟩
    case round =>
      obtain ⟨k, hk, rfl, hpre, q, rfl⟩ := hrel
      by_cases hlt : k < n
      · obtain ⟨ad, x, rfl, _, hx, hcx⟩ := ints_at ha hlt
        obtain ⟨bd, y, rfl, _, hy, hcy⟩ := ints_at hb hlt
        have HXK := Lib.hid hx; clear hx
        have HYK := Lib.hid hy; clear hy
        go_wp2
        go_quiet (fail)
        go_wp2
        · have hne : (x != y) = true := by first | assumption | (simp; assumption)
          go_ret
          refine ⟨?_, _, World.drewN_drewN _ _ _⟩
          have he : (xs == ys) = false := beq_eq_false_iff_ne.2 fun he => by
            have h1 := HXK.out
            rw [he, HYK.out] at h1
            injection h1 with h1
            simp [h1] at hne
          rw [he]
          rfl
        · have heq : (x != y) = false := by first | assumption | (simp; assumption)
          go_roundw
          case rel => exact ⟨k + 1, by omega, by go_num, take_snoc_eq hpre.out HXK.out HYK.out (by simpa using heq), _, rfl⟩
          case measure => simp [intOf]; omega
      · go_wp2
        obtain rfl : k = n := by omega
        go_ret
        refine ⟨?_, _, rfl⟩
        have h1 := hpre.out
        rw [List.take_of_length_le (by rw [HX.out]; exact Nat.le_refl _), List.take_of_length_le (by rw [HY.out]; exact Nat.le_refl _)] at h1
        simp [h1]
  · have hd : ((n : Int) != (m : Int)) = true := by rw [bne_iff_ne]; omega
    go_enter Tryd.func18, Tryd.ntmps18
    go_wp2
    go_ret
    refine ⟨?_, 0, rfl⟩
    congr 2
    simp
    intro he
    exact hnm (by rw [← hxl, ← hyl, he])
end Go.Proofs.YtacfeabdeaikhaaDoor
