import Derived.Test.YtdpllfgnppeneaaDoorQClu
import Derived.Test.YtdpllfgnppeneaaDoorG05
import Derived.Test.YtdpllfgnppeneaaDoorG00
import Derived.Test.YtdpllfgnppeneaaDoorG04
import Derived.Laws.StructEq
import Derived.Lib.Join
import Derived.Lib.MinMax
import Derived.Laws.ResultCell
import Derived.Deep.MidRow
import Derived.Deep.Upon
namespace Go.Proofs.YtdpllfgnppeneaaDoor
open Go.RowKit Ru
set_option linter.unusedVariables false
set_option linter.unusedSimpArgs false

theorem ir_new (w : World) (e : TypeId) (l : List Int) (c : Array Value) (hc : c.toList = l.map (.int .i64)) (n : Nat) (hn : n = l.length) : IR (w.alloc (.cells c e)) (w.alloc (.cells c e)).heap.size (some ⟨w.heap.size, 0, none⟩) n l := by
  subst hn
  have h := reads_new w e c
  have e1 : c.size = l.length := by rw [← Array.length_toList, hc, List.length_map]
  rw [hc, e1] at h
  exact h
theorem sr_new (w : World) (e : TypeId) (l : List ByteArray) (c : Array Value) (hc : c.toList = l.map .string) (n : Nat) (hn : n = l.length) : SR (w.alloc (.cells c e)) (w.alloc (.cells c e)).heap.size (some ⟨w.heap.size, 0, none⟩) n l := by
  subst hn
  have h := reads_new w e c
  have e1 : c.size = l.length := by rw [← Array.length_toList, hc, List.length_map]
  rw [hc, e1] at h
  exact h
theorem points_some (s : ByteArray) (d : List Nat) (w : World) (hs : s.size ≤ 1099511627776) (hT : Tabs w) (hd : points s.data.toList = some d) :
    Calls Tryd.prog 52 #[.string s] w fun e w' => ∃ A c, e = .returned (.tuple #[.slice A d.length c, .bool true]) ∧ IR w' w'.heap.size A d.length (d.map fun (p : Nat) => (p : Int)) ∧ Below w.heap.size w w' := by
  refine (points_any s w hs hT).mono ?_
  rw [hd]
  rintro e w' ⟨_, h2, hb⟩
  obtain ⟨v, rfl, hown⟩ := h2 d rfl
  obtain ⟨A, c, rfl, _, _, hr⟩ := own_form hown
  exact ⟨A, c, rfl, NR.ints hr, hb⟩
theorem points_no (s : ByteArray) (w : World) (hs : s.size ≤ 1099511627776) (hT : Tabs w) (hd : points s.data.toList = none) :
    Calls Tryd.prog 52 #[.string s] w fun e w' => e = .returned (.tuple #[.slice none 0 0, .bool false]) ∧ Below w.heap.size w w' := by
  refine (points_any s w hs hT).mono ?_
  rw [hd]
  rintro e w' ⟨h1, _, hb⟩
  exact ⟨h1 rfl, hb⟩
theorem clusters_some (s : ByteArray) (l : List ByteArray) (w : World) (hs : s.size ≤ 1099511627) (hT : Tabs w) (hd : clusB s.data.toList = l) :
    Calls Tryd.prog 53 #[.string s] w fun e w' => ∃ A c, e = .returned (.slice A l.length c) ∧ SR w' w'.heap.size A l.length l ∧ Below w.heap.size w w' := by
  subst hd
  refine (clusters_any s w hs hT).mono ?_
  rintro e w' ⟨v, rfl, hown, hb⟩
  obtain ⟨A, c, rfl, _, _, hr⟩ := own_form hown
  exact ⟨A, c, rfl, hr, hb⟩
theorem drewN_below {w w' : World} (o : Obj) (h : ∃ k, w' = (w.alloc o).drewN k) : Below w.heap.size w w' := by
  obtain ⟨k, rfl⟩ := h
  exact below_drewN (below_new _ _) _
theorem equal_new {A : Option Addr} {c m : Nat} (w : World) (cs : Array Value) (l : List ByteArray) (t : TypeId) {n : Nat} (h : SR w w.heap.size A n l) (hc : cs.toList = l.map .string) (hn : n = l.length ∧ n ≤ 1000) :
    Calls Tryd.prog 17 #[.slice A n c, .slice (some ⟨w.heap.size, 0, none⟩) n m] (w.alloc (.cells cs t)) fun e w' => e = .returned (.bool true) ∧ Below w.heap.size w w' := by
  refine (equal_strs A _ n n c m l l _ (SR.on h (below_new _ _)) (sr_new w t l cs hc n hn.1) (by omega) (by omega)).mono ?_
  rintro e w' ⟨rfl, hk⟩
  exact ⟨by rw [decide_eq_true rfl], drewN_below _ hk⟩

end Go.Proofs.YtdpllfgnppeneaaDoor

/-
  LINES OF A CONCORDANCE, as they are read; two equal ones.
-/
namespace Go.Proofs.YtdpllfgnppeneaaDoor
open Go.RowKit Ru Lay
attribute [local go_sem ↓] Go.wp_at_zero Go.wp_at_succ
set_option linter.unusedVariables false
set_option linter.unusedSimpArgs false

/-- A line and where its two lists lie. -/
structure Hv extends Ht where
  la : Option Addr
  ln : Nat
  lc : Nat
  ra : Option Addr
  rn : Nat
  rc : Nat
def encH (h : Hv) : List Value := [.int .i64 h.rid, .int .i64 h.nid, .slice h.la h.ln h.lc, .string h.key, .slice h.ra h.rn h.rc]
theorem encH_len (h : Hv) : (encH h).length = 5 := rfl
/-- Texts that are short. -/
def SzS (l : List ByteArray) : Prop := l.length ≤ 1000 ∧ ∀ s ∈ l, s.size ≤ 1000
structure HvR (w : World) (B : Nat) (h : Hv) : Prop where
  left : SR w B h.la h.ln h.left
  right : SR w B h.ra h.rn h.right
  lc : h.ln ≤ h.lc ∧ h.lc ≤ 9223372036854775807
  rc : h.rn ≤ h.rc ∧ h.rc ≤ 9223372036854775807
structure HvZ (h : Ht) : Prop where
  left : SzS h.left
  right : SzS h.right
  key : h.key.size ≤ 1000
theorem SR.below' {w w' : World} {B n : Nat} {A : Option Addr} {l : List ByteArray} (h : SR w B A n l) (hb : Below B w w') : SR w' B A n l := Reads.below h hb
theorem HvR.below {w w' : World} {B : Nat} {h : Hv} (hh : HvR w B h) (hb : Below B w w') : HvR w' B h := ⟨hh.left.below' hb, hh.right.below' hb, hh.lc, hh.rc⟩
theorem HvR.more {w : World} {B B' : Nat} {h : Hv} (hh : HvR w B h) (hB : B ≤ B') : HvR w B' h := ⟨Reads.more hh.left hB, Reads.more hh.right hB, hh.lc, hh.rc⟩
theorem HvR.on {w w' : World} {h : Hv} (hh : HvR w w.heap.size h) (hb : Below w.heap.size w w') : HvR w' w'.heap.size h := (hh.below hb).more hb.size
/-- A slice of lines, as it is read. -/
def HitsR (w : World) (B : Nat) (A : Option Addr) (n : Nat) (l : List Hv) : Prop := RecR encH 5 w B A n l ∧ ∀ h ∈ l, HvR w B h
theorem HitsR.below {w w' : World} {B n : Nat} {A : Option Addr} {l : List Hv} (hh : HitsR w B A n l) (hb : Below B w w') : HitsR w' B A n l := ⟨hh.1.below hb, fun h hm => (hh.2 h hm).below hb⟩
theorem HitsR.more {w : World} {B B' n : Nat} {A : Option Addr} {l : List Hv} (hh : HitsR w B A n l) (hB : B ≤ B') : HitsR w B' A n l := ⟨⟨hh.1.1.more hB, hh.1.2⟩, fun h hm => (hh.2 h hm).more hB⟩
theorem HitsR.on {w w' : World} {n : Nat} {A : Option Addr} {l : List Hv} (hh : HitsR w w.heap.size A n l) (hb : Below w.heap.size w w') : HitsR w' w'.heap.size A n l := (hh.below hb).more hb.size
theorem HitsR.len {w : World} {B n : Nat} {A : Option Addr} {l : List Hv} (hh : HitsR w B A n l) : l.length = n := hh.1.2
theorem HitsR.at_ {w : World} {B n k : Nat} {A : Option Addr} {l : List Hv} (hh : HitsR w B A n l) (hk : k < n) :
    ∃ ad x, A = some ad ∧ ad.block < B ∧ l[k]? = some x ∧ HvR w B x ∧ w.cell? (ad.add (k * 5)) = some (.int .i64 x.rid) ∧ w.cell? ⟨(ad.add (k * 5)).block, (ad.add (k * 5)).off + 1, none⟩ = some (.int .i64 x.nid) ∧
      w.cell? ⟨(ad.add (k * 5)).block, (ad.add (k * 5)).off + 2, none⟩ = some (.slice x.la x.ln x.lc) ∧ w.cell? ⟨(ad.add (k * 5)).block, (ad.add (k * 5)).off + 3, none⟩ = some (.string x.key) ∧
      w.cell? ⟨(ad.add (k * 5)).block, (ad.add (k * 5)).off + 4, none⟩ = some (.slice x.ra x.rn x.rc) := by
  obtain ⟨ad, x, e, hb, hx, h0, hj⟩ := hh.1.at_ encH_len (by omega) hk
  exact ⟨ad, x, e, hb, hx, hh.2 x (List.mem_of_getElem? hx), h0 _ rfl, hj 1 _ (by omega) rfl, hj 2 _ (by omega) rfl, hj 3 _ (by omega) rfl, hj 4 _ (by omega) rfl⟩
theorem eq_ref (a b : Int) (w : World) : (Op.equalIn 10000 30 (.agg #[.int .i64 a, .int .i64 b]) (.agg #[.int .i64 a, .int .i64 b])).run Tryd.prog w = .ok true w := by
  have h1 : ∀ (W : World) (x : Int), (Op.equalIn 9999 3 (.int .i64 x) (.int .i64 x)).run Tryd.prog W = .ok true W := fun W x => by
    rw [run_equalIn_int W 9998 _ _ .i64 x x Tryd.underlying3, beq_self_eq_true]
  rw [run_equalIn_struct w 9999 _ _ _ (by simp only [Program.fieldsOf, Tryd.underlying30]) (by kernel_rfl)]
  simp [Program.fieldsOf, Tryd.underlying30, Op.eqFields, part, h1, Tryd.isAgg3, Tryd.sizeOf3]
set_option maxHeartbeats 400000 in
theorem texts39_any (A B : Option Addr) (n m c d : Nat) (xs ys : List ByteArray) (w : World) (ha : SR w w.heap.size A n xs) (hb : SR w w.heap.size B m ys)
    (hn : n ≤ 9223372036854775807) (hm : m ≤ 9223372036854775807) :
    Calls Tryd.prog 59 #[.slice A n c, .slice B m d] w fun e w' => e = .returned (.bool (decide (xs = ys))) ∧ ∃ k, w' = w.drewN k := by
  have hxl : xs.length = n := ha.len
  have hyl : ys.length = m := hb.len
  by_cases hnm : n = m
  · subst hnm
    have HX := Lib.hid hxl; clear hxl
    have HY := Lib.hid hyl; clear hyl
    go_enter Tryd.func59, Tryd.ntmps59
    go_wp2
    go_loopw [5] (fun i wr => ∃ k : Nat, k ≤ n ∧ i = .int .i64 k ∧ Hid (xs.take k = ys.take k) ∧ Hid (∃ q, wr = w.drewN q)) (fun i _ => n - (intOf i).toNat)
    case atStart => exact ⟨0, Nat.zero_le _, rfl, rfl, ⟨0, rfl⟩⟩
    case round =>
      obtain ⟨k, hk, rfl, hpre, HZ⟩ := hrel
      by_cases hlt : k < n
      · obtain ⟨ad, x, rfl, _, hx, hcx⟩ := ha.at_ hlt
        obtain ⟨bd, y, rfl, _, hy, hcy⟩ := hb.at_ hlt
        have HXK := Lib.hid hx; clear hx
        have HYK := Lib.hid hy; clear hy
        replace hcx : wr.cell? (ad.add k) = _ := cell_z HZ hcx
        replace hcy : wr.cell? (bd.add k) = _ := cell_z HZ hcy
        have hkn : (k : Int) < (n : Int) := by omega
        by_cases hxy : x = y
        · subst hxy
          have HNEXT : Hid (xs.take (k + 1) = ys.take (k + 1)) := take_snoc_eq hpre.out HXK.out HYK.out rfl
          go_wp2_with fail
          go_quiet (fail)
          go_wp2
          go_roundw
          case rel => exact ⟨k + 1, by omega, by go_num, HNEXT, drew_z HZ _⟩
          case measure => simp [intOf]; omega
        · have hne : (x.toList == y.toList) = false := by
            rw [Lib.toList_data, Lib.toList_data]
            refine beq_eq_false_iff_ne.2 fun e => hxy ?_
            cases x with | mk d => cases y with | mk e' => cases d with | mk p => cases e' with | mk q => simp at e; rw [e]
          have HRES : Hid (decide (xs = ys) = false) := decide_eq_false fun he => by
            have h1 := HXK.out
            rw [he, HYK.out] at h1
            injection h1 with h1
            exact hxy h1.symm
          go_wp2_with fail
          go_quiet (fail)
          go_wp2
          go_ret
          exact ⟨ret_bool HRES.out.symm, drew_z HZ _⟩
      · obtain rfl : n = k := by omega
        have HRES : Hid (decide (xs = ys) = true) := by
          have h1 := hpre.out
          rw [List.take_of_length_le (by rw [HX.out]; exact Nat.le_refl _), List.take_of_length_le (by rw [HY.out]; exact Nat.le_refl _)] at h1
          exact decide_eq_true h1
        go_wp2
        go_ret
        exact ⟨ret_bool HRES.out.symm, HZ.out⟩
  · have hd : ((n : Int) != (m : Int)) = true := by rw [bne_iff_ne]; omega
    have HRES : Hid (decide (xs = ys) = false) := decide_eq_false fun he => hnm (by rw [← hxl, ← hyl, he])
    go_enter Tryd.func59, Tryd.ntmps59
    go_wp2
    go_ret
    exact ⟨ret_bool HRES.out.symm, 0, rfl⟩
theorem joinK_one {l : List ByteArray} {i : Nat} {s : ByteArray} (h : l[i]? = some s) (h0 : ¬ 0 < i) : strL (joinK l i) ++ s = strL (joinK l (i + 1)) := by
  refine ba_ext ?_
  rw [app_data, strL_data, strL_data]
  show _ = joinK l i ++ (if 0 < i then [32] else []) ++ (cellB l i).data.toList
  rw [if_neg h0, List.append_nil, cellB_some h]
theorem joinK_more {l : List ByteArray} {i : Nat} {s : ByteArray} (h : l[i]? = some s) (h0 : 0 < i) : strL (joinK l i) ++ ⟨#[32]⟩ ++ s = strL (joinK l (i + 1)) := by
  refine ba_ext ?_
  rw [app_data, app_data, strL_data, strL_data]
  show _ = joinK l i ++ (if 0 < i then [32] else []) ++ (cellB l i).data.toList
  rw [if_pos h0, cellB_some h]
theorem joinK_sz {l : List ByteArray} (h : SzS l) {i : Nat} (hi : i ≤ l.length) : (strL (joinK l i)).size ≤ 1001000 := by
  rw [strL_size]
  have h1 := joinK_len h.2 i
  have h2 : i * 1001 ≤ 1000 * 1001 := Nat.mul_le_mul_right _ (by have := h.1; omega)
  omega
set_option maxHeartbeats 1000000 in
theorem joined_any (A : Option Addr) (n c : Nat) (l : List ByteArray) (w : World) (hl : SR w w.heap.size A n l) (hz : SzS l) :
    Calls Tryd.prog 43 #[.slice A n c] w fun e w' => e = .returned (.string (strL (joinB l))) ∧ w' = w := by
  have HN := Lib.hid hl.len
  have HL := Lib.hid hl
  have HZ := Lib.hid hz
  have hn : n ≤ 1000 := by rw [← hl.len]; exact hz.1
  clear hl hz
  go_enter Tryd.func43, Tryd.ntmps43
  go_wp2_with fail
  go_loop [3, 4] (fun vs vi => ∃ i : Nat, i ≤ n ∧ vi = .int .i64 i ∧ vs = .string (strL (joinK l i))) (fun _ vi => n - (intOf vi).toNat)
  case atStart => exact ⟨0, Nat.zero_le _, rfl, rfl⟩
  case round =>
    obtain ⟨i, hi, rfl, rfl⟩ := hrel
    by_cases hlt : i < n
    · obtain ⟨ad, s, rfl, hab, hs, hc⟩ := HL.out.at_ hlt
      have hiz : (i : Int) < (n : Int) := by omega
      have hiA : (0 : Int) ≤ (i : Int) := by omega
      have hsz : s.size ≤ 1000 := HZ.out.2 s (List.mem_of_getElem? hs)
      have hx := joinK_sz HZ.out (i := i) (by rw [HN.out]; exact hi)
      by_cases h0 : 0 < i
      · have HX := Lib.hid (joinK_more hs h0)
        have h0z : (0 : Int) < (i : Int) := by omega
        clear hs
        obtain ⟨x, hxe⟩ : ∃ x, strL (joinK l i) = x := ⟨_, rfl⟩
        rw [hxe] at HX hx ⊢
        clear hxe
        have hq1 : x.size + (⟨#[32]⟩ : ByteArray).size ≤ 9223372036854775807 := by
          have : (⟨#[32]⟩ : ByteArray).size = 1 := rfl
          omega
        have hq2 : (x ++ ⟨#[32]⟩ : ByteArray).size + s.size ≤ 9223372036854775807 := by
          have h1 : (⟨#[32]⟩ : ByteArray).size = 1 := rfl
          rw [ByteArray.size_append, h1]
          omega
        go_wp2
        go_round
        case rel => exact ⟨i + 1, by omega, by go_num, by rw [HX.out]⟩
        case measure => simp [intOf]; omega
      · have HX := Lib.hid (joinK_one hs h0)
        have h0z : decide ((0 : Int) < (i : Int)) = false := decide_eq_false (by omega)
        have HI0 := Lib.hid h0
        clear hs h0
        obtain ⟨x, hxe⟩ : ∃ x, strL (joinK l i) = x := ⟨_, rfl⟩
        rw [hxe] at HX hx ⊢
        clear hxe
        have hq1 : x.size + s.size ≤ 9223372036854775807 := by omega
        have hi1 : i + 1 ≤ n := hlt
        clear hx
        go_wp2
        go_round
        case rel => exact ⟨i + 1, hi1, by go_num, by rw [HX.out]⟩
        case measure => simp [intOf]; omega
    · obtain rfl : n = i := by omega
      have HR : Hid (strL (joinK l n) = strL (joinB l)) := by show _ = _; unfold joinB; rw [HN.out]
      go_wp2
      go_ret
      exact ⟨ret_str HR.out, rfl⟩
set_option maxHeartbeats 1000000 in
theorem lawJoined_any (A : Option Addr) (n c : Nat) (l : List ByteArray) (w : World) (hl : SR w w.heap.size A n l) (hz : SzS l) :
    Calls Tryd.prog 24 #[.slice A n c] w fun e w' => e = .returned (.string (strL (joinB l))) ∧ w' = w := by
  have HN := Lib.hid hl.len
  have HL := Lib.hid hl
  have HZ := Lib.hid hz
  have hn : n ≤ 1000 := by rw [← hl.len]; exact hz.1
  clear hl hz
  go_enter Tryd.func24, Tryd.ntmps24
  go_wp2_with fail
  go_loop [3, 4] (fun vs vi => ∃ i : Nat, i ≤ n ∧ vi = .int .i64 i ∧ vs = .string (strL (joinK l i))) (fun _ vi => n - (intOf vi).toNat)
  case atStart => exact ⟨0, Nat.zero_le _, rfl, rfl⟩
  case round =>
    obtain ⟨i, hi, rfl, rfl⟩ := hrel
    by_cases hlt : i < n
    · obtain ⟨ad, s, rfl, hab, hs, hc⟩ := HL.out.at_ hlt
      have hiz : (i : Int) < (n : Int) := by omega
      have hiA : (0 : Int) ≤ (i : Int) := by omega
      have hsz : s.size ≤ 1000 := HZ.out.2 s (List.mem_of_getElem? hs)
      have hx := joinK_sz HZ.out (i := i) (by rw [HN.out]; exact hi)
      by_cases h0 : 0 < i
      · have HX := Lib.hid (joinK_more hs h0)
        have h0z : (0 : Int) < (i : Int) := by omega
        clear hs
        obtain ⟨x, hxe⟩ : ∃ x, strL (joinK l i) = x := ⟨_, rfl⟩
        rw [hxe] at HX hx ⊢
        clear hxe
        have hq1 : x.size + (⟨#[32]⟩ : ByteArray).size ≤ 9223372036854775807 := by
          have : (⟨#[32]⟩ : ByteArray).size = 1 := rfl
          omega
        have hq2 : (x ++ ⟨#[32]⟩ : ByteArray).size + s.size ≤ 9223372036854775807 := by
          have h1 : (⟨#[32]⟩ : ByteArray).size = 1 := rfl
          rw [ByteArray.size_append, h1]
          omega
        go_wp2
        go_round
        case rel => exact ⟨i + 1, by omega, by go_num, by rw [HX.out]⟩
        case measure => simp [intOf]; omega
      · have HX := Lib.hid (joinK_one hs h0)
        have h0z : decide ((0 : Int) < (i : Int)) = false := decide_eq_false (by omega)
        have HI0 := Lib.hid h0
        clear hs h0
        obtain ⟨x, hxe⟩ : ∃ x, strL (joinK l i) = x := ⟨_, rfl⟩
        rw [hxe] at HX hx ⊢
        clear hxe
        have hq1 : x.size + s.size ≤ 9223372036854775807 := by omega
        have hi1 : i + 1 ≤ n := hlt
        clear hx
        go_wp2
        go_round
        case rel => exact ⟨i + 1, hi1, by go_num, by rw [HX.out]⟩
        case measure => simp [intOf]; omega
    · obtain rfl : n = i := by omega
      have HR : Hid (strL (joinK l n) = strL (joinB l)) := by show _ = _; unfold joinB; rw [HN.out]
      go_wp2
      go_ret
      exact ⟨ret_str HR.out, rfl⟩
end Go.Proofs.YtdpllfgnppeneaaDoor

/-
  Two lines that are equal, by the reference.
-/
namespace Go.Proofs.YtdpllfgnppeneaaDoor
open Go.RowKit Ru Lay
attribute [local go_sem ↓] Go.wp_at_zero Go.wp_at_succ
set_option linter.unusedVariables false
set_option linter.unusedSimpArgs false

set_option maxHeartbeats 2000000 in
theorem equalH_any (a b : Hv) (w : World) (he : a.toHt = b.toHt) (ha : HvR w w.heap.size a) (hb : HvR w w.heap.size b) (hn1 : a.ln ≤ 9223372036854775807) (hn2 : a.rn ≤ 9223372036854775807) (hn3 : b.ln ≤ 9223372036854775807) (hn4 : b.rn ≤ 9223372036854775807) :
    Calls Tryd.prog 34 #[.agg (encH a).toArray, .agg (encH b).toArray] w fun e w' => e = .returned (.bool true) ∧ Below w.heap.size w w' := by
  obtain ⟨⟨r1, n1, L1, k1, R1⟩, la1, ln1, lc1, ra1, rn1, rc1⟩ := a
  obtain ⟨⟨r2, n2, L2, k2, R2⟩, la2, ln2, lc2, ra2, rn2, rc2⟩ := b
  simp only [Ht.mk.injEq] at he
  obtain ⟨rfl, rfl, rfl, rfl, rfl⟩ := he
  have HL := Lib.hid fun W (hW : Below w.heap.size w W) => mono_eq (texts39_any la1 la2 ln1 ln2 lc1 lc2 L1 L1 W (ha.left.on hW) (hb.left.on hW) hn1 hn3) (v' := .bool true) (by simp)
  have HR := Lib.hid fun W (hW : Below w.heap.size w W) => mono_eq (texts39_any ra1 ra2 rn1 rn2 rc1 rc2 R1 R1 W (ha.right.on hW) (hb.right.on hW) hn2 hn4) (v' := .bool true) (by simp)
  have hg := Tryd.eqGuardType30
  have hq : ∀ W : World, (Op.equalIn 10000 30 (.agg #[.int .i64 r1, .int .i64 n1]) (.agg #[.int .i64 r1, .int .i64 n1])).run Tryd.prog W = .ok true W := eq_ref _ _
  clear ha hb
  show Calls Tryd.prog 34 #[.agg #[.int .i64 r1, .int .i64 n1, .slice la1 ln1 lc1, .string k1, .slice ra1 rn1 rc1], .agg #[.int .i64 r1, .int .i64 n1, .slice la2 ln2 lc2, .string k1, .slice ra2 rn2 rc2]] w _
  go_enter Tryd.func34, Tryd.ntmps34
  go_wp2_with fail
  refine (HL.out _ (((Below.refl _ w).alloc (Nat.le_refl _) _).alloc (by simp) _)).mono ?_
  rintro e w1 ⟨rfl, z, rfl⟩
  go_wp2_with fail
  refine (HR.out _ (below_drewN (((Below.refl _ w).alloc (Nat.le_refl _) _).alloc (by simp) _) z)).mono ?_
  rintro e w2 ⟨rfl, z2, rfl⟩
  go_wp2
  go_ret
  exact ⟨rfl, below_drewN (((Below.refl _ w).alloc (Nat.le_refl _) _).alloc (by simp) _) (z + z2)⟩
end Go.Proofs.YtdpllfgnppeneaaDoor

/-
  Width and Pad, and those of the reference.
-/
namespace Go.Proofs.YtdpllfgnppeneaaDoor
open Go.RowKit Go.Shelf Ru Lay
set_option linter.unusedVariables false
set_option linter.unusedSimpArgs false

def intsO : Option (List Nat) → List Int
  | none => []
  | some d => d.map fun (p : Nat) => (p : Int)
theorem PointsPost.val {w w' : World} {o : Option (List Nat)} {e : Ending} (h : PointsPost w o e w') :
    ∃ A n c, e = .returned (.tuple #[.slice A n c, .bool o.isSome]) ∧ IR w' w'.heap.size A n (intsO o) ∧ n ≤ 9223372036854775807 ∧ Below w.heap.size w w' := by
  obtain ⟨h1, h2, h3⟩ := h
  cases o with
  | none => exact ⟨none, 0, 0, h1 rfl, Reads.none_, by omega, h3⟩
  | some d =>
    obtain ⟨v, rfl, hown⟩ := h2 d rfl
    obtain ⟨A, c, rfl, h5, h6, hr⟩ := own_form hown
    exact ⟨A, _, c, rfl, NR.ints hr, by omega, h3⟩
theorem widB_none {s : ByteArray} (h : points s.data.toList = none) : widB s = s.size := by
  unfold widB wid
  rw [h, Lib.size_eq]
theorem widB_some {s : ByteArray} {d : List Nat} (h : points s.data.toList = some d) : widB s = (clusB s.data.toList).length := wid_clusB _ (by rw [h]; rfl)
def padB (s : ByteArray) (n : Int) : ByteArray := strL (pad s.data.toList n)
theorem padB_size (s : ByteArray) (n : Int) : (padB s n).size ≤ s.size + 4000 := by
  unfold padB
  rw [strL_size, Lib.size_eq]
  exact pad_len _ _
theorem padB_id {s : ByteArray} {n : Int} (h : 4000 < n ∨ n ≤ widB s) : padB s n = s := by
  unfold padB
  rw [pad_id h]
  exact (strL_of rfl).symm

set_option maxHeartbeats 1000000 in
theorem width_any (s : ByteArray) (w : World) (hs : s.size ≤ 1099511627) (hT : Tabs w) :
    Calls Tryd.prog 28 #[.string s] w fun e w' => e = .returned (.int .i64 (widB s : Int)) ∧ Below w.heap.size w w' := by
  have HT := Lib.hid hT
  have HP := Lib.hid (points_any s w (by omega) HT.out)
  have HC := Lib.hid fun W (hb : Below w.heap.size w W) => clusters_any s W (by omega) (HT.out.on hb)
  clear hT
  obtain ⟨o, ho⟩ : ∃ o, points s.data.toList = o := ⟨_, rfl⟩
  rw [ho] at HP
  cases o with
  | none =>
    have HW : Hid ((s.size : Int) = (widB s : Int)) := by show _ = _; rw [widB_none ho]
    clear ho
    go_enter Tryd.func28, Tryd.ntmps28
    go_wp2_with fail
    refine HP.out.mono ?_
    intro e w1 hpp
    obtain ⟨A1, n1, c1, rfl, _, _, hb⟩ := hpp.val
    have HB1 : Hid (Below w.heap.size w w1) := hb
    clear hpp hb
    go_wp2
    go_ret
    exact ⟨ret_i64 HW.out, HB1.out⟩
  | some d =>
    have HW : Hid (((clusB s.data.toList).length : Int) = (widB s : Int)) := by show _ = _; rw [widB_some ho]
    clear ho
    go_enter Tryd.func28, Tryd.ntmps28
    go_wp2_with fail
    refine HP.out.mono ?_
    intro e w1 hpp
    obtain ⟨A1, n1, c1, rfl, _, _, hb⟩ := hpp.val
    have HB1 : Hid (Below w.heap.size w w1) := hb
    clear hpp hb
    go_wp2_with fail
    refine (HC.out _ HB1.out).mono ?_
    rintro e w2 ⟨v, rfl, hown, hb⟩
    obtain ⟨A2, c2, rfl, _, _, _⟩ := own_form hown
    have HB2 : Hid (Below w.heap.size w w2) := HB1.out.trans (hb.mono HB1.out.size)
    clear hown hb
    go_wp2
    go_ret
    exact ⟨ret_i64 HW.out, HB2.out⟩
set_option maxHeartbeats 1000000 in
theorem refWidth_any (s : ByteArray) (w : World) (hs : s.size ≤ 1099511627) :
    Calls Tryd.prog 27 #[.string s] w fun e w' => e = .returned (.int .i64 (widB s : Int)) ∧ Below w.heap.size w w' := by
  have HP := Lib.hid (points02_any s w (by omega))
  have HC := Lib.hid fun W => refClusters_any s W (by omega)
  obtain ⟨o, ho⟩ : ∃ o, points s.data.toList = o := ⟨_, rfl⟩
  rw [ho] at HP
  cases o with
  | none =>
    have HW : Hid ((s.size : Int) = (widB s : Int)) := by show _ = _; rw [widB_none ho]
    clear ho
    go_enter Tryd.func27, Tryd.ntmps27
    go_wp2_with fail
    refine HP.out.mono ?_
    intro e w1 hpp
    obtain ⟨A1, n1, c1, rfl, _, _, hb⟩ := hpp.val
    have HB1 : Hid (Below w.heap.size w w1) := hb
    clear hpp hb
    go_wp2
    go_ret
    exact ⟨ret_i64 HW.out, HB1.out⟩
  | some d =>
    have HW : Hid (((clusB s.data.toList).length : Int) = (widB s : Int)) := by show _ = _; rw [widB_some ho]
    clear ho
    go_enter Tryd.func27, Tryd.ntmps27
    go_wp2_with fail
    refine HP.out.mono ?_
    intro e w1 hpp
    obtain ⟨A1, n1, c1, rfl, _, _, hb⟩ := hpp.val
    have HB1 : Hid (Below w.heap.size w w1) := hb
    clear hpp hb
    go_wp2_with fail
    refine (HC.out _).mono ?_
    rintro e w2 ⟨v, rfl, hown, hb⟩
    obtain ⟨A2, c2, rfl, _, _, _⟩ := own_form hown
    have HB2 : Hid (Below w.heap.size w w2) := HB1.out.trans (hb.mono HB1.out.size)
    clear hown hb
    go_wp2
    go_ret
    exact ⟨ret_i64 HW.out, HB2.out⟩
theorem repeat_sp (n : Nat) : Lib.repeatL [32] n = sp n := by
  induction n with
  | zero => rfl
  | succ n ih => show [32] ++ Lib.repeatL [32] n = _; rw [ih]; rfl
theorem pad_go {s : ByteArray} {n : Int} {k j : Nat} (hk : widB s = k) (h1 : (k : Int) + j = n) (h2 : n ≤ 4000) : s ++ strL (sp j) = padB s n := by
  refine ba_ext ?_
  rw [app_data, strL_data]
  unfold padB
  rw [strL_data]
  unfold pad
  rw [show wid s.data.toList = k from hk]
  by_cases h : (k : Int) < n
  · rw [if_pos ⟨h, h2⟩, show n - (k : Int) = (j : Int) by omega]
    rfl
  · rw [if_neg (fun hh => h hh.1), show j = 0 by omega, sp_zero, List.append_nil]
theorem sp_next (s : ByteArray) (j : Nat) : s ++ strL (sp j) ++ ⟨#[32]⟩ = s ++ strL (sp (j + 1)) := by
  refine ba_ext ?_
  rw [app_data, app_data, app_data, strL_data, strL_data, sp_snoc, List.append_assoc]
end Go.Proofs.YtdpllfgnppeneaaDoor

/-
  Lines, and that of the reference.
-/
namespace Go.Proofs.YtdpllfgnppeneaaDoor
open Go.RowKit Ru Lay
attribute [local go_sem ↓] Go.wp_at_zero Go.wp_at_succ
set_option linter.unusedVariables false
set_option linter.unusedSimpArgs false

theorem addr_plain {w : World} {a : Addr} {v : Value} (h : w.cell? a = some v) : a = ⟨a.block, a.off, none⟩ := by
  obtain ⟨b, o, s⟩ := a
  cases s with
  | none => rfl
  | some k =>
    unfold World.cell? at h
    split at h
    · simp at h
    · cases h
theorem join_tail (x : ByteArray) (r : List ByteArray) : ∀ i, i ≤ r.length → joinK (x :: r) (i + 1) = x.data.toList ++ Lib.joinTail [32] ((r.map (·.data.toList)).take i)
  | 0, _ => by
    show [] ++ (if 0 < 0 then [32] else []) ++ (cellB (x :: r) 0).data.toList = _
    rw [if_neg (by omega), cellB_some (s := x) rfl, List.take_zero]
    simp [Lib.joinTail]
  | i + 1, h => by
    have ih := join_tail x r i (by omega)
    have hx : r[i]? = some r[i] := List.getElem?_eq_getElem (by omega)
    show joinK (x :: r) (i + 1) ++ (if 0 < i + 1 then [32] else []) ++ (cellB (x :: r) (i + 1)).data.toList = _
    rw [ih, if_pos (by omega), cellB_some (s := r[i]) (by rw [List.getElem?_cons_succ]; exact hx), Lib.joinTail_take_succ [32] (r.map (·.data.toList)) i r[i].data.toList (by rw [List.getElem?_map, hx]; rfl)]
    simp
theorem join_eq (l : List ByteArray) : Lib.join (l.map (·.data.toList)) [32] = joinB l := by
  cases l with
  | nil => rfl
  | cons x r =>
    rw [List.map_cons, Lib.join_cons]
    unfold joinB
    rw [List.length_cons, join_tail x r r.length (Nat.le_refl _), List.take_of_length_le (by simp)]
theorem joinB_len {l : List ByteArray} (h : SzS l) : (joinB l).length ≤ 1001000 := by
  have := joinK_sz h (Nat.le_refl _)
  rw [strL_size] at this
  exact this
theorem join_any (A : Option Addr) (n c : Nat) (l : List ByteArray) (w : World) (hl : SR w w.heap.size A n l) (hz : SzS l) (hc : n ≤ c) :
    Calls Tryd.prog 41 #[.slice A n c, .string ⟨#[32]⟩] w fun e w' => e = .returned (.string (strL (joinB l))) ∧ Below w.heap.size w w' := by
  have hn := hl.len
  have h1000 := hz.1
  cases n with
  | zero =>
    have : l = [] := List.eq_nil_of_length_eq_zero hn
    subst this
    refine (Tryd.strings_Join_none A c ⟨#[32]⟩ w).mono ?_
    rintro e w' ⟨rfl, rfl⟩
    exact ⟨rfl, Below.refl _ _⟩
  | succ n =>
    obtain ⟨ad, s, rfl, hab, _, h0⟩ := hl.at_ (k := 0) (by omega)
    have hp := addr_plain h0
    rw [Addr.add, if_pos rfl] at hp
    obtain ⟨_, ad', he, _, hcell⟩ := show ∃ _ : True, ∃ ad', some ad = some ad' ∧ ad'.block < w.heap.size ∧ ∀ j u, (l.map Value.string)[j]? = some u → w.cell? (ad'.add (j * 1)) = some u from by
      obtain ⟨a1, e1, h1, h2⟩ := hl.2 (by omega)
      exact ⟨trivial, a1, e1, h1, fun j u hu => by rw [Nat.mul_one]; exact h2 j u hu⟩
    cases he
    have hlen : (Lib.join (l.map (·.data.toList)) (⟨#[32]⟩ : ByteArray).data.toList).length ≤ 140737488355328 := by
      rw [show (⟨#[32]⟩ : ByteArray).data.toList = [32] from rfl, join_eq]
      have := joinB_len hz
      omega
    have h := Tryd.strings_Join ad.block ad.off c l ⟨#[32]⟩ w (fun j x hx => by
      have := hcell j (.string x) (by rw [List.getElem?_map, hx]; rfl)
      rw [Nat.mul_one] at this
      have e : ad.add j = ⟨ad.block, ad.off + j, none⟩ := by
        unfold Addr.add
        split
        · rename_i hj; rw [hj]; exact hp
        · rfl
      rw [e] at this
      exact this) hab (by omega) (by omega) hlen
    rw [hn, ← hp, show (⟨#[32]⟩ : ByteArray).data.toList = [32] from rfl, join_eq] at h
    exact h
theorem repeat_any (k : Nat) (w : World) (hk : k ≤ 1099511627776) :
    Calls Tryd.prog 42 #[.string ⟨#[32]⟩, .int .i64 (k : Int)] w fun e w' => e = .returned (.string (strL (sp k))) ∧ Below w.heap.size w w' := by
  have h := Tryd.strings_Repeat ⟨#[32]⟩ k w (by omega) (by show 1 * k ≤ _; omega)
  rw [show (⟨#[32]⟩ : ByteArray).data.toList = [32] from rfl, repeat_sp] at h
  exact h
theorem leftW_sz {h : Ht} (hz : HvZ h) : leftW h ≤ 1001000 := Nat.le_trans (wid_le _) (joinB_len hz.left)
theorem mostK_sz {l : List Ht} (h : ∀ x ∈ l, HvZ x) (i : Nat) : mostK l i ≤ 1001000 := mostK_small (fun x hx => leftW_sz (h x hx)) i
/-- A row of strings of the call's own. -/
def OwnS (w : World) (base : Nat) (v : Value) (l : List ByteArray) : Prop := w.ownsRow base 9 1 v l.length (l.map .string)
theorem OwnS.nil (w : World) (base : Nat) : OwnS w base (.slice none 0 0) [] := World.ownsRow_nil _ _ _ _
theorem OwnS.on {w w' : World} {base : Nat} {v : Value} {l : List ByteArray} (h : OwnS w base v l) (hb : Below w.heap.size w w') : OwnS w' base v l := own_below h hb
theorem OwnS.form {w : World} {base : Nat} {v : Value} {l : List ByteArray} (h : OwnS w base v l) : ∃ A c, v = .slice A l.length c ∧ l.length ≤ c ∧ c ≤ 9223372036854775807 ∧ SR w w.heap.size A l.length l := own_form h
theorem own_s {w : World} {base n : Nat} {v : Value} {l : List ByteArray} {s : ByteArray} (h : w.ownsRow base 9 1 v (l.length + 1) (l.map .string ++ [.string s])) : OwnS w base v (l ++ [s]) := by
  show World.ownsRow _ _ _ _ _ _ _
  rw [List.length_append, List.length_singleton, List.map_append]
  exact h
theorem take_at2 {α : Type} {l : List α} {k : Nat} {x : α} (h : l[k]? = some x) : l.take (k + 1) = l.take k ++ [x] := by rw [List.take_add_one, h]; rfl
theorem hts_at {l : List Hv} {i : Nat} {h : Hv} (hi : l[i]? = some h) : (l.map Hv.toHt)[i]? = some h.toHt := by rw [List.getElem?_map, hi]; rfl
end Go.Proofs.YtdpllfgnppeneaaDoor

/-
  Notes of a document; Get.
-/
namespace Go.Proofs.YtdpllfgnppeneaaDoor
open Go.RowKit Ru Lay
attribute [local go_sem ↓] Go.wp_at_zero Go.wp_at_succ
set_option linter.unusedVariables false
set_option linter.unusedSimpArgs false

/-- A note. -/
structure Nt where
  nid : Int
  tier : Int
  parent : Int
  at1 : Int
  at2 : Int
  rank : Int
  text : ByteArray
def nt0 : Nt := ⟨0, 0, 0, 0, 0, 0, ⟨#[]⟩⟩
def encN (n : Nt) : List Value := [.int .i64 n.nid, .int .i64 n.tier, .int .i64 n.parent, .int .i64 n.at1, .int .i64 n.at2, .int .i64 n.rank, .string n.text]
theorem encN_len (n : Nt) : (encN n).length = 7 := rfl
def noteV (n : Nt) : Value := .agg #[.int .i64 n.nid, .int .i64 n.tier, .int .i64 n.parent, .int .i64 n.at1, .int .i64 n.at2, .int .i64 n.rank, .string n.text]
/-- A document: its own fields, and where its lists lie. -/
structure Dv where
  rid : Int
  name : ByteArray
  len : Int
  day : Int
  sa : Option Addr
  sn : Nat
  sc : Nat
  ta : Option Addr
  tn : Nat
  tc : Nat
  na : Option Addr
  nn : Nat
  nc : Nat
def docV (d : Dv) : Value := .agg #[.int .i64 d.rid, .string d.name, .int .i64 d.len, .int .i64 d.day, .slice d.sa d.sn d.sc, .slice d.ta d.tn d.tc, .slice d.na d.nn d.nc]
def NotesR (w : World) (B : Nat) (A : Option Addr) (n : Nat) (l : List Nt) : Prop := RecR encN 7 w B A n l
theorem NotesR.len {w : World} {B n : Nat} {A : Option Addr} {l : List Nt} (hh : NotesR w B A n l) : l.length = n := hh.2
theorem NotesR.below {w w' : World} {B n : Nat} {A : Option Addr} {l : List Nt} (hh : NotesR w B A n l) (hb : Below B w w') : NotesR w' B A n l := RecR.below hh hb
theorem NotesR.on {w w' : World} {n : Nat} {A : Option Addr} {l : List Nt} (hh : NotesR w w.heap.size A n l) (hb : Below w.heap.size w w') : NotesR w' w'.heap.size A n l := RecR.on hh hb
theorem NotesR.at_ {w : World} {B n k : Nat} {A : Option Addr} {l : List Nt} (hh : NotesR w B A n l) (hk : k < n) :
    ∃ ad x, A = some ad ∧ ad.block < B ∧ l[k]? = some x ∧ ∀ W, Below B w W → W.cell? (ad.add (k * 7)) = some (.int .i64 x.nid) ∧ W.cell? ⟨(ad.add (k * 7)).block, (ad.add (k * 7)).off + 1, none⟩ = some (.int .i64 x.tier) ∧
      W.cell? ⟨(ad.add (k * 7)).block, (ad.add (k * 7)).off + 2, none⟩ = some (.int .i64 x.parent) ∧ W.cell? ⟨(ad.add (k * 7)).block, (ad.add (k * 7)).off + 3, none⟩ = some (.int .i64 x.at1) ∧
      W.cell? ⟨(ad.add (k * 7)).block, (ad.add (k * 7)).off + 4, none⟩ = some (.int .i64 x.at2) ∧ W.cell? ⟨(ad.add (k * 7)).block, (ad.add (k * 7)).off + 5, none⟩ = some (.int .i64 x.rank) ∧
      W.cell? ⟨(ad.add (k * 7)).block, (ad.add (k * 7)).off + 6, none⟩ = some (.string x.text) := by
  obtain ⟨ad, x, e, hb, hx, _, _⟩ := RecR.at_ encN_len (by omega) hh hk
  refine ⟨ad, x, e, hb, hx, fun W hW => ?_⟩
  obtain ⟨ad', x', e', _, hx', h0, hj⟩ := RecR.at_ encN_len (by omega) (RecR.below hh hW) hk
  rw [e] at e'
  cases e'
  rw [hx] at hx'
  cases hx'
  exact ⟨h0 _ rfl, hj 1 _ (by omega) rfl, hj 2 _ (by omega) rfl, hj 3 _ (by omega) rfl, hj 4 _ (by omega) rfl, hj 5 _ (by omega) rfl, hj 6 _ (by omega) rfl⟩
/-- The note of a number. -/
def getN (l : List Nt) (id : Int) : Option Nt := l.find? fun n => decide (n.nid = id)
theorem getN_here {l : List Nt} {id : Int} {k : Nat} {x : Nt} (hp : ∀ j y, j < k → l[j]? = some y → y.nid ≠ id) (hx : l[k]? = some x) (h : x.nid = id) : getN l id = some x := by
  induction l generalizing k with
  | nil => simp at hx
  | cons y t ih =>
    unfold getN
    cases k with
    | zero =>
      simp at hx
      subst hx
      rw [List.find?_cons_of_pos (by simpa using h)]
    | succ k =>
      rw [List.find?_cons_of_neg (by simpa using hp 0 y (by omega) rfl)]
      rw [List.getElem?_cons_succ] at hx
      exact ih (fun j z hj hz => hp (j + 1) z (by omega) (by rw [List.getElem?_cons_succ]; exact hz)) hx
theorem getN_none {l : List Nt} {id : Int} (hp : ∀ j y, j < l.length → l[j]? = some y → y.nid ≠ id) : getN l id = none := by
  unfold getN
  rw [List.find?_eq_none]
  intro x hx
  obtain ⟨j, hj⟩ := List.getElem?_of_mem hx
  simpa using hp j x (List.getElem?_eq_some_iff.1 hj).1 hj
theorem pre_step {α : Type} {l : List α} {Q : α → Prop} {i : Nat} {x : α} (h : ∀ j y, j < i → l[j]? = some y → Q y) (hx : l[i]? = some x) (hq : Q x) : ∀ j y, j < i + 1 → l[j]? = some y → Q y := fun j y hj hy => by
  by_cases e : j = i
  · subst e
    rw [hx] at hy
    cases hy
    exact hq
  · exact h j y (by omega) hy
def getV (o : Option Nt) : Value := .tuple #[noteV (o.getD nt0), .bool o.isSome]
theorem there_below {B : Nat} {a w : World} {b o n : Nat} (hb : Below B a w) (hlt : b < B) (h : a.there b o n) : w.there b o n := fun j hj => by
  obtain ⟨h1, h2⟩ := h j hj
  exact ⟨by rw [hb.cell (p := ⟨b, o + j, none⟩) hlt]; exact h1, (hb.frozen (p := ⟨b, o + j, none⟩) hlt).trans h2⟩
theorem range_below {B : Nat} {a w : World} {b o : Nat} {cs : List Value} (hb : Below B a w) (hlt : b < B) (h : a.rangeAt b o cs) : w.rangeAt b o cs := fun j v hv => (hb.cell (p := ⟨b, o + j, none⟩) hlt).trans (h j v hv)
theorem there_new (w : World) (c : Array Value) (e : TypeId) : (w.alloc (.cells c e)).there w.heap.size 0 c.size := fun j hj => by
  rw [Nat.zero_add]
  refine ⟨?_, World.frozen?_alloc_new w _ _ j⟩
  have : (w.alloc (.cells c e)).cell? ⟨w.heap.size, j, none⟩ = c[j]? := World.cell?_alloc_new w _ _ j
  rw [this, Array.getElem?_eq_getElem hj]
  rfl
theorem heap_setCells_size (b : Nat) : ∀ (vs : List Value) (o : Nat) (w : World), (w.setCells b o vs).heap.size = w.heap.size
  | [], _, _ => rfl
  | v :: r, o, w => by
    show ((w.setCell ⟨b, o, none⟩ v).setCells b (o + 1) r).heap.size = _
    rw [heap_setCells_size b r (o + 1)]
    simp
theorem heap_setCells_tape (b : Nat) : ∀ (vs : List Value) (o : Nat) (w : World), (w.setCells b o vs).tape = w.tape
  | [], _, _ => rfl
  | v :: r, o, w => by
    show ((w.setCell ⟨b, o, none⟩ v).setCells b (o + 1) r).tape = _
    rw [heap_setCells_tape b r (o + 1)]
    rfl
theorem below_set {B : Nat} {a w : World} {b o : Nat} {vs : List Value} (h : Below B a w) (hB : B ≤ b) (hs : B ≤ w.heap.size) : Below B a (w.setCells b o vs) :=
  ⟨(World.os_setCells _ _ _ _).trans h.os, (heap_setCells_tape _ _ _ _).trans h.tape, (World.output_setCells _ _ _ _).trans h.output, by rw [heap_setCells_size]; exact h.size, fun k hk => by
    rw [World.heap_setCells_other _ _ _ _ (Nat.lt_of_lt_of_le hk hs) (by omega)]
    exact h.block k hk⟩
theorem results_cell_of {P : Program} {fn : Func} {p u : Tmp} {ty : TypeId} (h : fn.results = #[.cell p ty, .tmp u]) (tmps : Array Value) (w : World) (b : Nat) (cs : List Value) (x : Value) (d : TypeDesc)
    (hp : tmps.getD p undef = .pointer (some ⟨b, 0, none⟩)) (hx : tmps.getD u undef = x) (hc : w.rangeAt b 0 cs) (hu : P.underlying ty = some d) (hd : d.isRow = true) (hi : (P.info? ty).map (·.size) = some cs.length) :
    (results fn tmps).run P w = .ok (.tuple #[.agg cs.toArray, x]) w := by
  rw [results_cell_tmp h, hp, hx]
  show ((loadVar ty ⟨b, 0, none⟩).run P w).andThen _ = _
  rw [run_loadVar_mid w b 0 ty cs d hc hu hd hi]
  rfl
set_option maxHeartbeats 1000000 in
set_option maxRecDepth 100000 in
theorem get_any (d : Dv) (l : List Nt) (id : Int) (w : World) (hl : NotesR w w.heap.size d.na d.nn l) (hn : d.nn ≤ 9223372036854775807) :
    Calls Tryd.prog 46 #[docV d, .int .i64 id] w fun e w' => e = .returned (getV (getN l id)) ∧ Below w.heap.size w w' := by
  have HL := Lib.hid hl
  have HLN := Lib.hid hl.len
  clear hl
  unfold docV
  obtain ⟨rid, name, len, day, sa, sn, sc, ta, tn, tc, na, nn, nc⟩ := d
  simp only at HL HLN hn ⊢
  go_enter Tryd.func46, Tryd.ntmps46
  go_wp2_with fail
  obtain ⟨W0, hW0⟩ : ∃ W0, (w.alloc (.cells #[.int .i64 rid, .string name, .int .i64 len, .int .i64 day, .slice sa sn sc, .slice ta tn tc, .slice na nn nc] 51)).alloc (.cells #[.int .i64 0, .int .i64 0, .int .i64 0, .int .i64 0, .int .i64 0, .int .i64 0, .string ⟨#[]⟩] 55) = W0 := ⟨_, rfl⟩
  have HB : Hid (Below w.heap.size w W0) := by rw [← hW0]; exact ((Below.refl _ w).alloc (Nat.le_refl _) _).alloc (by simp) _
  have hz0 : W0.heap.size = w.heap.size + 1 + 1 := by rw [← hW0]; simp
  have HTH : Hid (W0.there (w.heap.size + 1) 0 7) := by
    have h := there_new (w.alloc (.cells #[.int .i64 rid, .string name, .int .i64 len, .int .i64 day, .slice sa sn sc, .slice ta tn tc, .slice na nn nc] 51)) #[.int .i64 0, .int .i64 0, .int .i64 0, .int .i64 0, .int .i64 0, .int .i64 0, .string ⟨#[]⟩] 55
    rw [hW0] at h
    show W0.there _ _ _
    simpa using h
  have HRG : Hid (W0.rangeAt (w.heap.size + 1) 0 (encN nt0)) := fun j v hv => by
    rw [← hW0, Nat.zero_add]
    have h := World.cell?_alloc_new (w.alloc (.cells #[.int .i64 rid, .string name, .int .i64 len, .int .i64 day, .slice sa sn sc, .slice ta tn tc, .slice na nn nc] 51)) #[.int .i64 0, .int .i64 0, .int .i64 0, .int .i64 0, .int .i64 0, .int .i64 0, .string ⟨#[]⟩] 55 j
    rw [show (w.alloc (.cells #[.int .i64 rid, .string name, .int .i64 len, .int .i64 day, .slice sa sn sc, .slice ta tn tc, .slice na nn nc] 51)).heap.size = w.heap.size + 1 by simp] at h
    rw [h, ← hv, ← List.getElem?_toArray]
    rfl
  rw [hW0]
  clear hW0
  go_loopw [7, 11] (fun v7 v11 wr => ∃ i : Nat, i ≤ nn ∧ v11 = .int .i64 i ∧ Hid (∀ j y, j < i → l[j]? = some y → y.nid ≠ id) ∧ Hid (Below W0.heap.size W0 wr)) (fun _ v11 _ => nn - (intOf v11).toNat)
  case atStart => exact ⟨0, Nat.zero_le _, rfl, fun j y h => by omega, Below.refl _ _⟩
  case round =>
    obtain ⟨i, hi, rfl, HP, HB0⟩ := hrel
    have hsz := HB0.out.size
    by_cases hlt : i < nn
    · have hiz : (i : Int) < (nn : Int) := by omega
      have hiA : (0 : Int) ≤ (i : Int) := by omega
      obtain ⟨ad, x, rfl, hab, hx, hcells⟩ := HL.out.at_ hlt
      obtain ⟨q0, q1, q2, q3, q4, q5, q6⟩ := hcells wr (HB.out.trans (HB0.out.mono HB.out.size))
      have HX := Lib.hid hx
      have HI := Lib.hid hlt
      clear hx hcells
      by_cases he : x.nid = id
      · have HG : Hid (getN l id = some x) := getN_here HP.out HX.out he
        subst he
        have HTW := Lib.hid (there_below HB0.out (by omega) HTH.out)
        have HRW := Lib.hid (range_below HB0.out (by omega) HRG.out)
        have hlt1 : w.heap.size + 1 < wr.heap.size := by omega
        have c0 : wr.cell? ⟨w.heap.size + 1, 0, none⟩ = some (.int .i64 0) := HRW.out 0 (.int .i64 0) rfl
        have f0 : wr.frozen? ⟨w.heap.size + 1, 0, none⟩ = false := (HTW.out 0 (by omega)).2
        have c1 : wr.cell? ⟨w.heap.size + 1, 1, none⟩ = some (.int .i64 0) := HRW.out 1 (.int .i64 0) rfl
        have f1 : wr.frozen? ⟨w.heap.size + 1, 1, none⟩ = false := (HTW.out 1 (by omega)).2
        have c2 : wr.cell? ⟨w.heap.size + 1, 2, none⟩ = some (.int .i64 0) := HRW.out 2 (.int .i64 0) rfl
        have f2 : wr.frozen? ⟨w.heap.size + 1, 2, none⟩ = false := (HTW.out 2 (by omega)).2
        have c3 : wr.cell? ⟨w.heap.size + 1, 3, none⟩ = some (.int .i64 0) := HRW.out 3 (.int .i64 0) rfl
        have f3 : wr.frozen? ⟨w.heap.size + 1, 3, none⟩ = false := (HTW.out 3 (by omega)).2
        have c4 : wr.cell? ⟨w.heap.size + 1, 4, none⟩ = some (.int .i64 0) := HRW.out 4 (.int .i64 0) rfl
        have f4 : wr.frozen? ⟨w.heap.size + 1, 4, none⟩ = false := (HTW.out 4 (by omega)).2
        have c5 : wr.cell? ⟨w.heap.size + 1, 5, none⟩ = some (.int .i64 0) := HRW.out 5 (.int .i64 0) rfl
        have f5 : wr.frozen? ⟨w.heap.size + 1, 5, none⟩ = false := (HTW.out 5 (by omega)).2
        have c6 : wr.cell? ⟨w.heap.size + 1, 6, none⟩ = some (.string ⟨#[]⟩) := HRW.out 6 (.string ⟨#[]⟩) rfl
        have f6 : wr.frozen? ⟨w.heap.size + 1, 6, none⟩ = false := (HTW.out 6 (by omega)).2
        go_wp2
        (try simp only [Exit.inBlock, Exit.then])
        refine bodyPost_ret (v := getV (some x)) ?_ rfl ⟨by rw [HG.out], ?_⟩
        · show _ = Result.ok (Value.tuple #[.agg (encN x).toArray, .bool true]) _
          refine results_cell_of rfl _ _ (w.heap.size + 1) (encN x) _ _ ?_ ?_ ?_ Tryd.underlying55 rfl (by kernel_rfl)
          · rfl
          · rfl
          · exact World.rangeAt_alloc (World.rangeAt_setCells_same wr (w.heap.size + 1) 0 [.int .i64 x.nid, .int .i64 x.tier, .int .i64 x.parent, .int .i64 x.at1, .int .i64 x.at2, .int .i64 x.rank, .string x.text] HTW.out) _
        · have hbs := below_set (w := wr) (b := w.heap.size + 1) (o := 0) (vs := [.int .i64 x.nid, .int .i64 x.tier, .int .i64 x.parent, .int .i64 x.at1, .int .i64 x.at2, .int .i64 x.rank, .string x.text]) (HB.out.trans (HB0.out.mono HB.out.size)) (by omega) (by omega)
          exact hbs.alloc (by rw [heap_setCells_size]; omega) _
      · have hbe : (x.nid == id) = false := beq_eq_false_iff_ne.2 he
        have HP2 := Lib.hid (pre_step HP.out HX.out he)
        have HB1 : Hid (Below W0.heap.size W0 (wr.alloc (.cells #[.int .i64 x.nid, .int .i64 x.tier, .int .i64 x.parent, .int .i64 x.at1, .int .i64 x.at2, .int .i64 x.rank, .string x.text] 55))) := HB0.out.alloc hsz _
        go_wp2
        go_roundw
        case rel => exact ⟨i + 1, HI.out, by go_num, HP2, HB1⟩
        case measure => have := HI.out; simp [intOf]; omega
    · obtain rfl : nn = i := by omega
      have hiz : ¬ (nn : Int) < (nn : Int) := by omega
      have HG : Hid (getN l id = none) := getN_none fun j y hj => HP.out j y (by rw [← HLN.out]; exact hj)
      have HTW := Lib.hid (there_below HB0.out (by omega) HTH.out)
      have HRW := Lib.hid (range_below HB0.out (by omega) HRG.out)
      have hlt1 : w.heap.size + 1 < wr.heap.size := by omega
      have c0 : wr.cell? ⟨w.heap.size + 1, 0, none⟩ = some (.int .i64 0) := HRW.out 0 (.int .i64 0) rfl
      have f0 : wr.frozen? ⟨w.heap.size + 1, 0, none⟩ = false := (HTW.out 0 (by omega)).2
      have c1 : wr.cell? ⟨w.heap.size + 1, 1, none⟩ = some (.int .i64 0) := HRW.out 1 (.int .i64 0) rfl
      have f1 : wr.frozen? ⟨w.heap.size + 1, 1, none⟩ = false := (HTW.out 1 (by omega)).2
      have c2 : wr.cell? ⟨w.heap.size + 1, 2, none⟩ = some (.int .i64 0) := HRW.out 2 (.int .i64 0) rfl
      have f2 : wr.frozen? ⟨w.heap.size + 1, 2, none⟩ = false := (HTW.out 2 (by omega)).2
      have c3 : wr.cell? ⟨w.heap.size + 1, 3, none⟩ = some (.int .i64 0) := HRW.out 3 (.int .i64 0) rfl
      have f3 : wr.frozen? ⟨w.heap.size + 1, 3, none⟩ = false := (HTW.out 3 (by omega)).2
      have c4 : wr.cell? ⟨w.heap.size + 1, 4, none⟩ = some (.int .i64 0) := HRW.out 4 (.int .i64 0) rfl
      have f4 : wr.frozen? ⟨w.heap.size + 1, 4, none⟩ = false := (HTW.out 4 (by omega)).2
      have c5 : wr.cell? ⟨w.heap.size + 1, 5, none⟩ = some (.int .i64 0) := HRW.out 5 (.int .i64 0) rfl
      have f5 : wr.frozen? ⟨w.heap.size + 1, 5, none⟩ = false := (HTW.out 5 (by omega)).2
      have c6 : wr.cell? ⟨w.heap.size + 1, 6, none⟩ = some (.string ⟨#[]⟩) := HRW.out 6 (.string ⟨#[]⟩) rfl
      have f6 : wr.frozen? ⟨w.heap.size + 1, 6, none⟩ = false := (HTW.out 6 (by omega)).2
      go_wp2
      (try simp only [Exit.inBlock, Exit.then])
      refine bodyPost_ret (v := getV none) ?_ rfl ⟨by rw [HG.out], ?_⟩
      · show _ = Result.ok (Value.tuple #[.agg (encN nt0).toArray, .bool false]) _
        refine results_cell_of rfl _ _ (w.heap.size + 1) (encN nt0) _ _ ?_ ?_ ?_ Tryd.underlying55 rfl (by kernel_rfl)
        · rfl
        · rfl
        · exact World.rangeAt_setCells_same wr (w.heap.size + 1) 0 [.int .i64 0, .int .i64 0, .int .i64 0, .int .i64 0, .int .i64 0, .int .i64 0, .string ⟨#[]⟩] HTW.out
      · exact below_set (w := wr) (b := w.heap.size + 1) (o := 0) (vs := [.int .i64 0, .int .i64 0, .int .i64 0, .int .i64 0, .int .i64 0, .int .i64 0, .string ⟨#[]⟩]) (HB.out.trans (HB0.out.mono HB.out.size)) (by omega) (by omega)
end Go.Proofs.YtdpllfgnppeneaaDoor

/-
  concord.texts: the texts of notes.
-/
namespace Go.Proofs.YtdpllfgnppeneaaDoor
open Go.RowKit Ru Lay
attribute [local go_sem ↓] Go.wp_at_zero Go.wp_at_succ
set_option linter.unusedVariables false
set_option linter.unusedSimpArgs false

def textN (l : List Nt) (id : Int) : ByteArray := ((getN l id).getD nt0).text
def textsN (l : List Nt) (ids : List Int) : List ByteArray := ids.map (textN l)
theorem textsN_take {l : List Nt} {ids : List Int} {i : Nat} {id : Int} (h : ids[i]? = some id) : (textsN l ids).take (i + 1) = (textsN l ids).take i ++ [textN l id] := take_at2 (by unfold textsN; rw [List.getElem?_map, h]; rfl)
set_option maxHeartbeats 4000000 in
set_option maxRecDepth 100000 in
theorem textsN_any (d : Dv) (l : List Nt) (A : Option Addr) (n c : Nat) (ids : List Int) (w : World) (hl : NotesR w w.heap.size d.na d.nn l) (hn : d.nn ≤ 9223372036854775807) (hi : IR w w.heap.size A n ids) (hz : n ≤ 1000) :
    Calls Tryd.prog 49 #[docV d, .slice A n c] w fun e w' => ∃ v, e = .returned v ∧ OwnS w' w.heap.size v (textsN l ids) ∧ Below w.heap.size w w' := by
  have HI := Lib.hid hi
  have HIN := Lib.hid hi.len
  have HG := Lib.hid fun (W : World) (hW : Below w.heap.size w W) (id : Int) => get_any d l id W (hl.on hW) hn
  clear hl hi
  unfold docV at HG
  unfold docV
  obtain ⟨rid, name, len, day, sa, sn, sc, ta, tn, tc, na, nn, nc⟩ := d
  simp only at HG hn ⊢
  go_enter Tryd.func49, Tryd.ntmps49
  go_wp2_with fail
  obtain ⟨W0, hW0⟩ : ∃ W0, (w.alloc (.cells #[.int .i64 rid, .string name, .int .i64 len, .int .i64 day, .slice sa sn sc, .slice ta tn tc, .slice na nn nc] 51)) = W0 := ⟨_, rfl⟩
  have HB : Hid (Below w.heap.size w W0) := by rw [← hW0]; exact (Below.refl _ w).alloc (Nat.le_refl _) _
  have hz0 : W0.heap.size = w.heap.size + 1 := by rw [← hW0]; simp
  have HK : Hid (∀ W, Below W0.heap.size W0 W → W.rangeAt w.heap.size 0 [.int .i64 rid, .string name, .int .i64 len, .int .i64 day, .slice sa sn sc, .slice ta tn tc, .slice na nn nc]) := fun W hW => by
    refine range_below hW (by omega) ?_
    intro j v hv
    rw [← hW0, Nat.zero_add, World.cell?_alloc_new w _ _ j, ← hv, ← List.getElem?_toArray]
  rw [hW0]
  clear hW0
  go_loopw [5, 7, 8, 9, 12] (fun v5 v7 v8 v9 v12 wr => ∃ i : Nat, i ≤ n ∧ v12 = .int .i64 i ∧ Hid (OwnS wr W0.heap.size v5 ((textsN l ids).take i)) ∧ Hid (Below W0.heap.size W0 wr)) (fun _ _ _ _ v12 _ => n - (intOf v12).toNat)
  case atStart => exact ⟨0, Nat.zero_le _, rfl, (by rw [List.take_zero]; exact OwnS.nil _ _), Below.refl _ _⟩
  case round =>
    obtain ⟨i, hi, rfl, HO, HB0⟩ := hrel
    obtain ⟨w0, hw0⟩ : ∃ w0, wr = w0 := ⟨_, rfl⟩
    rw [hw0] at HO HB0 ⊢
    clear hw0
    have HBW : Hid (Below w.heap.size w w0) := HB.out.trans (HB0.out.mono HB.out.size)
    by_cases hlt : i < n
    · have hiz : (i : Int) < (n : Int) := by omega
      have hiA : (0 : Int) ≤ (i : Int) := by omega
      obtain ⟨ad, id, rfl, hab, hx, hc⟩ := HI.out.at_ hlt
      have hcw : w0.cell? (ad.add i) = some (.int .i64 id) := (HBW.out.cell (by rw [block_of_add]; exact hab)).trans hc
      have HLT := Lib.hid hlt
      have HNX := Lib.hid (textsN_take (l := l) hx)
      have hll : ((textsN l ids).take i).length ≤ i := by rw [List.length_take]; omega
      obtain ⟨ll, hlq⟩ : ∃ ll, (textsN l ids).take i = ll := ⟨_, rfl⟩
      rw [hlq] at HO HNX hll
      have hk := HK.out w0 HB0.out
      have k0 : w0.cell? ⟨w.heap.size, 0, none⟩ = some (.int .i64 rid) := hk 0 _ rfl
      have k1 : w0.cell? ⟨w.heap.size, 1, none⟩ = some (.string name) := hk 1 _ rfl
      have k2 : w0.cell? ⟨w.heap.size, 2, none⟩ = some (.int .i64 len) := hk 2 _ rfl
      have k3 : w0.cell? ⟨w.heap.size, 3, none⟩ = some (.int .i64 day) := hk 3 _ rfl
      have k4 : w0.cell? ⟨w.heap.size, 4, none⟩ = some (.slice sa sn sc) := hk 4 _ rfl
      have k5 : w0.cell? ⟨w.heap.size, 5, none⟩ = some (.slice ta tn tc) := hk 5 _ rfl
      have k6 : w0.cell? ⟨w.heap.size, 6, none⟩ = some (.slice na nn nc) := hk 6 _ rfl
      have HGG := Lib.hid (HG.out w0 HBW.out id)
      unfold textN at HNX
      unfold getV noteV at HGG
      obtain ⟨y, hy⟩ : ∃ y, (getN l id).getD nt0 = y := ⟨_, rfl⟩
      obtain ⟨bs, hbs⟩ : ∃ bs, (getN l id).isSome = bs := ⟨_, rfl⟩
      rw [hy] at HGG HNX
      rw [hbs] at HGG
      have hsz := HB0.out.size
      clear hlq hx hc hk hy hbs
      go_wp2_with fail
      refine HGG.out.mono ?_
      rintro e w1 ⟨rfl, hb⟩
      have HO1 := Lib.hid (HO.out.on (hb.alloc hb.size (.cells #[.int .i64 y.nid, .int .i64 y.tier, .int .i64 y.parent, .int .i64 y.at1, .int .i64 y.at2, .int .i64 y.rank, .string y.text] 55)))
      have HB1 : Hid (Below W0.heap.size W0 w1) := HB0.out.trans (hb.mono hsz)
      have hsz1 : W0.heap.size ≤ (w1.alloc (.cells #[.int .i64 y.nid, .int .i64 y.tier, .int .i64 y.parent, .int .i64 y.at1, .int .i64 y.at2, .int .i64 y.rank, .string y.text] 55)).heap.size := by have := HB1.out.size; simp; omega
      have hsa : (w1.alloc (.cells #[.int .i64 y.nid, .int .i64 y.tier, .int .i64 y.parent, .int .i64 y.at1, .int .i64 y.at2, .int .i64 y.rank, .string y.text] 55)).heap.size = w1.heap.size + 1 := by simp
      have HB1' := Lib.hid (HB1.out.alloc HB1.out.size (.cells #[.int .i64 y.nid, .int .i64 y.tier, .int .i64 y.parent, .int .i64 y.at1, .int .i64 y.at2, .int .i64 y.rank, .string y.text] 55))
      clear hb k0 k1 k2 k3 k4 k5 k6 hcw
      go_wp2_with (at_builtin; refine wpList_app1 rfl (.tmp 22) (.tmp 25) 31 rfl W0.heap.size 9 16 (.string .empty) info_string rfl Tryd.underlying31 rfl HO1.out (by rw [hsa]; rfl) rfl (by omega) (by omega) hsz1 ?_; rintro v7 w4 hown7 hb7 hs7 hk7; clear hk7)
      have hO3 := own_s (n := 0) hown7
      rw [← HNX.out] at hO3
      have HO3 := Lib.hid hO3
      have HB3 : Hid (Below W0.heap.size W0 w4) := HB1'.out.trans hb7
      clear hO3 hown7 hb7 hs7
      have hi1 : i + 1 ≤ n := HLT.out
      go_wp2
      go_roundw
      case rel => exact ⟨i + 1, hi1, by go_num, HO3, HB3⟩
      case measure => have := HLT.out; simp [intOf]; omega
    · obtain rfl : n = i := by omega
      have hiz : ¬ (n : Int) < (n : Int) := by omega
      have h0 := HO.out
      rw [List.take_of_length_le (by unfold textsN; rw [List.length_map, HIN.out]; exact Nat.le_refl _)] at h0
      have HO5 := Lib.hid h0
      clear h0
      go_wp2
      go_ret
      exact ⟨_, rfl, own_base HO5.out HB.out.size, HBW.out⟩
end Go.Proofs.YtdpllfgnppeneaaDoor
