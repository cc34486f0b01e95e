/-
  THE STABLE SORT OF A ROW OF LINES, of any length (SortSym, turned).
-/
import Derived.Test.YtdpllfgnppeneaaDoorSortRotH
import Derived.Outline
namespace Go.Proofs.YtdpllfgnppeneaaDoor
open Go.RowKit Srt Col
set_option linter.unusedVariables false
set_option linter.unusedSimpArgs false

/-- Binary search among the elements behind the first: what one look says of all. -/
theorem srch_lt {α : Type} {c : α → α → Int} (hc : IsCmp c) {d : Nat → Tag α} {a m b i h : Nat} (hs : SortedOn c d m b) (hh : h < b) (hlt : c (d h).1 (d a).1 < 0) :
    ∀ k, m ≤ k → k < h + 1 → c (d k).1 (d a).1 < 0 := by
  intro k h1 h2
  by_cases e : k = h
  · rw [e]; exact hlt
  · have := hs k h h1 (by omega) hh
    have h3 : c (d k).1 (d h).1 ≤ 0 := by unfold lexLt at this; omega
    have := hc.trans _ _ _ h3 (Int.le_of_lt hlt)
    omega
theorem srch_ge {α : Type} {c : α → α → Int} (hc : IsCmp c) {d : Nat → Tag α} {a m b h : Nat} (hs : SortedOn c d m b) (hm : m ≤ h) (hge : ¬ c (d h).1 (d a).1 < 0) :
    ∀ k, h ≤ k → k < b → ¬ c (d k).1 (d a).1 < 0 := by
  intro k h1 h2
  by_cases e : k = h
  · rw [e]; exact hge
  · have := hs h k hm (by omega) h2
    have h3 : c (d h).1 (d k).1 ≤ 0 := by unfold lexLt at this; omega
    intro h4
    have := hc.trans _ _ _ h3 (Int.le_of_lt h4)
    omega

set_option maxHeartbeats 16000000 in
set_option maxRecDepth 1000000 in
theorem sym_first (c : Hv → Hv → Int) (hc : IsCmp c) (Q : Hv → Prop) (g : Nat) (cb : Array Value) (blk off cap n a m b : Nat) (d : Nat → Tag Hv) (w0 w : World)
    (eg : ∀ args w, (callFunc g args).run Tryd.prog w = .ok (.enter g args) w) (hcmp : CmpOKH g cb c Q w0 blk off n) (hQ : ∀ j, j < n → Q (d j).1) (S : SK (fun p : Tag Hv => encH p.1) 5 w0 blk off n d w)
    (hM : Merge c d a m b) (ham : m = a + 1) (hmb : m < b) (hb : b ≤ n) (hsz : n < 4611686018427387904) :
    Calls Tryd.prog 113 #[.slice (some ⟨blk, off, none⟩) n cap, .int .i64 a, .int .i64 m, .int .i64 b, .func (.func g) #[] cb] w fun e w' => e = .returned (.tuple #[]) ∧
      ∃ d', SK (fun p : Tag Hv => encH p.1) 5 w0 blk off n d' w' ∧ Merged c d d' a b := by
  have HC := Lib.hid hcmp; clear hcmp
  have S0 := Lib.hid S; clear S
  have HQ := Lib.hid hQ; clear hQ
  have HM := Lib.hid hM; clear hM
  have t1 : ((m : Int) - (a : Int) == 1) = true := beq_iff_eq.2 (by omega)
  have HA := Lib.hid ham
  have hma : a < m := by omega
  clear ham
  go_enter Tryd.func113, Tryd.ntmps113
  go_wp2
  go_loopg [10, 11] (b - m) (fun g1 vi vj wr => ∃ (i j : Nat), vi = .int .i64 i ∧ vj = .int .i64 j ∧ m ≤ i ∧ i ≤ j ∧ j ≤ b ∧ j - i ≤ g1 ∧ Hid (SK (fun p : Tag Hv => encH p.1) 5 w0 blk off n d wr) ∧
    Hid (∀ k, m ≤ k → k < i → c (d k).1 (d a).1 < 0) ∧ Hid (∀ k, j ≤ k → k < b → ¬ c (d k).1 (d a).1 < 0))
  case atStart => exact ⟨m, b, rfl, rfl, Nat.le_refl _, by omega, Nat.le_refl _, Nat.le_refl _, S0, fun k h1 h2 => by omega, fun k h1 h2 => by omega⟩
  case round =>
    clear S0
    obtain ⟨i, j, rfl, rfl, hmi, hij, hjb, hg1, S1, L1, G1⟩ := hrel
    by_cases hlt : i < j
    · have hltz : (i : Int) < (j : Int) := by omega
      obtain ⟨h, hh⟩ : ∃ h : Nat, Hid (h = (i + j) / 2) := ⟨_, rfl⟩
      have zh : ((i : Int) + (j : Int)) / 2 = (h : Int) := by have := hh.out; omega
      have hhi : i ≤ h := by have := hh.out; omega
      have hhj : h < j := by have := hh.out; omega
      obtain ⟨x, hx⟩ : ∃ x, Hid (d h = x) := ⟨_, rfl⟩
      obtain ⟨y, hy⟩ : ∃ y, Hid (d a = y) := ⟨_, rfl⟩
      have l10 : ∀ p : BW wr, p.at_.cell? ⟨blk, off + h * 5, none⟩ = some (.int .i64 x.1.rid) := fun p => sk_atH (i := 0) (S1.out.below p.bel) (by omega) hx.out rfl
      have l11 : ∀ p : BW wr, p.at_.cell? ⟨blk, off + h * 5 + 1, none⟩ = some (.int .i64 x.1.nid) := fun p => sk_atH (i := 1) (S1.out.below p.bel) (by omega) hx.out rfl
      have l12 : ∀ p : BW wr, p.at_.cell? ⟨blk, off + h * 5 + 2, none⟩ = some (.slice x.1.la x.1.ln x.1.lc) := fun p => sk_atH (i := 2) (S1.out.below p.bel) (by omega) hx.out rfl
      have l13 : ∀ p : BW wr, p.at_.cell? ⟨blk, off + h * 5 + 3, none⟩ = some (.string x.1.key) := fun p => sk_atH (i := 3) (S1.out.below p.bel) (by omega) hx.out rfl
      have l14 : ∀ p : BW wr, p.at_.cell? ⟨blk, off + h * 5 + 4, none⟩ = some (.slice x.1.ra x.1.rn x.1.rc) := fun p => sk_atH (i := 4) (S1.out.below p.bel) (by omega) hx.out rfl
      have l20 : ∀ p : BW wr, p.at_.cell? ⟨blk, off + a * 5, none⟩ = some (.int .i64 y.1.rid) := fun p => sk_atH (i := 0) (S1.out.below p.bel) (by omega) hy.out rfl
      have l21 : ∀ p : BW wr, p.at_.cell? ⟨blk, off + a * 5 + 1, none⟩ = some (.int .i64 y.1.nid) := fun p => sk_atH (i := 1) (S1.out.below p.bel) (by omega) hy.out rfl
      have l22 : ∀ p : BW wr, p.at_.cell? ⟨blk, off + a * 5 + 2, none⟩ = some (.slice y.1.la y.1.ln y.1.lc) := fun p => sk_atH (i := 2) (S1.out.below p.bel) (by omega) hy.out rfl
      have l23 : ∀ p : BW wr, p.at_.cell? ⟨blk, off + a * 5 + 3, none⟩ = some (.string y.1.key) := fun p => sk_atH (i := 3) (S1.out.below p.bel) (by omega) hy.out rfl
      have l24 : ∀ p : BW wr, p.at_.cell? ⟨blk, off + a * 5 + 4, none⟩ = some (.slice y.1.ra y.1.rn y.1.rc) := fun p => sk_atH (i := 4) (S1.out.below p.bel) (by omega) hy.out rfl
      have hcall := Lib.hid (HC.out wr d S1.out x.1 y.1 (by rw [← hx.out]; exact HQ.out _ (by omega)) (by rw [← hy.out]; exact HQ.out _ (by omega)))
      have b1 : (h : Int) < (n : Int) := by omega
      have b2 : (a : Int) < (n : Int) := by omega
      have p1 : (0 : Int) ≤ (h : Int) := by omega
      have p2 : (0 : Int) ≤ (a : Int) := by omega
      have HLT : Hid (c x.1 y.1 < 0 → ∀ k, m ≤ k → k < h + 1 → c (d k).1 (d a).1 < 0) := fun h => srch_lt (i := i) hc HM.out.right (by omega) (by rw [hx.out, hy.out]; exact h)
      have HGE : Hid (¬ c x.1 y.1 < 0 → ∀ k, h ≤ k → k < b → ¬ c (d k).1 (d a).1 < 0) := fun h => srch_ge hc HM.out.right (by omega) (by rw [hx.out, hy.out]; exact h)
      by_cases hlv : c x.1 y.1 < 0
      · have hd : decide (c x.1 y.1 < 0) = true := decide_eq_true hlv
        have HL := Lib.hid (HLT.out hlv)
        clear HLT HGE L1
        go_wp2_with fail
        refine wp_region_quiet_below (by kernel_rfl) (by kernel_rfl) ?_
        repeat (go_big_quiet_step (exact below_quiet (hcall.out _)))
        refine wpQuiet_nil ?_
        intro w2 hw'
        have hb2 := bw_below hw'
        clear hw'
        have S2 : Hid (SK (fun p : Tag Hv => encH p.1) 5 w0 blk off n d w2) := S1.out.below hb2
        clear l10 l20 l11 l21 l12 l22 l13 l23 l14 l24 hcall S1 hb2
        go_wp2
        go_roundg (j - (h + 1))
        case measure => omega
        case rel => exact ⟨h + 1, j, by first | rfl | go_num | (congr 1; omega), rfl, by omega, by omega, by omega, by omega, S2, HL, G1⟩
      · have hd : decide (c x.1 y.1 < 0) = false := decide_eq_false hlv
        have HG := Lib.hid (HGE.out hlv)
        clear HLT HGE G1
        go_wp2_with fail
        refine wp_region_quiet_below (by kernel_rfl) (by kernel_rfl) ?_
        repeat (go_big_quiet_step (exact below_quiet (hcall.out _)))
        refine wpQuiet_nil ?_
        intro w2 hw'
        have hb2 := bw_below hw'
        clear hw'
        have S2 : Hid (SK (fun p : Tag Hv => encH p.1) 5 w0 blk off n d w2) := S1.out.below hb2
        clear l10 l20 l11 l21 l12 l22 l13 l23 l14 l24 hcall S1 hb2
        go_wp2
        go_roundg (h - i)
        case measure => omega
        case rel => exact ⟨i, h, rfl, by first | rfl | (congr 1; omega), by omega, by omega, by omega, by omega, S2, L1, HG⟩
    · have hltz : ¬ (i : Int) < (j : Int) := by omega
      have HIJ : Hid (i = j) := show i = j by omega
      have G2 : Hid (∀ k, i ≤ k → k < b → ¬ c (d k).1 (d a).1 < 0) := by rw [HIJ.out]; exact G1.out
      clear G1
      go_wp2_with fail
      go_loopg [13] (i - a) (fun g1 vk wr => ∃ (k : Nat) (dk : Nat → Tag Hv), vk = .int .i64 k ∧ a ≤ k ∧ k + 1 ≤ i ∧ i - k ≤ g1 ∧ Hid (SK (fun p : Tag Hv => encH p.1) 5 w0 blk off n dk wr) ∧ Hid (Rotated d dk a (a + 1) (k + 1)))
      case atStart => exact ⟨a, d, rfl, Nat.le_refl _, by omega, by omega, S1, rotated_nil_right _ _ _⟩
      case round =>
        clear S1
        obtain ⟨k, dk, rfl, hak, hki, hg1, S1, P1⟩ := hrel
        by_cases hlt : k + 1 < i
        · have hltz : (k : Int) < (i : Int) - 1 := by omega
          have P2 : Hid (Rotated d (swpF dk k (k + 1)) a (a + 1) (k + 2)) := rotated_up P1.out hak
          obtain ⟨x, hx⟩ : ∃ x, Hid (dk k = x) := ⟨_, rfl⟩
          obtain ⟨y, hy⟩ : ∃ y, Hid (dk (k + 1) = y) := ⟨_, rfl⟩
          have S2d : Hid (SK (fun p : Tag Hv => encH p.1) 5 w0 blk off n dk wr.drew) := S1.out.drew
          obtain ⟨wd, hwd⟩ : ∃ wd, wr.drew = wd := ⟨_, rfl⟩
          rw [hwd] at S2d
          have hin : k < n := by omega
          have hjn : k + 1 < n := by omega
          have hr1 := Lib.hid (S2d.out.room hin)
          have hr2 := Lib.hid (S2d.out.room hjn)
          obtain ⟨wS, hwS⟩ : ∃ wS, wd.setCells blk (off + k * 5) (#[.int .i64 y.1.rid, .int .i64 y.1.nid, .slice y.1.la y.1.ln y.1.lc, .string y.1.key, .slice y.1.ra y.1.rn y.1.rc] : Array Value).toList = wS := ⟨_, rfl⟩
          have hr3 : Hid (wS.there blk (off + (k + 1) * 5) 5) := by rw [← hwS]; exact World.there_setCells hr2.out _ _ _
          have hcx : wd.rangeAt blk (off + k * 5) [.int .i64 x.1.rid, .int .i64 x.1.nid, .slice x.1.la x.1.ln x.1.lc, .string x.1.key, .slice x.1.ra x.1.rn x.1.rc] := by have := S2d.out.cells k hin; rw [hx.out] at this; exact this
          have hcy : wd.rangeAt blk (off + (k + 1) * 5) [.int .i64 y.1.rid, .int .i64 y.1.nid, .slice y.1.la y.1.ln y.1.lc, .string y.1.key, .slice y.1.ra y.1.rn y.1.rc] := by have := S2d.out.cells (k + 1) hjn; rw [hy.out] at this; exact this
          have S3 : Hid (SK (fun p : Tag Hv => encH p.1) 5 w0 blk off n (swpF dk k (k + 1)) (wS.setCells blk (off + (k + 1) * 5) (#[.int .i64 x.1.rid, .int .i64 x.1.nid, .slice x.1.la x.1.ln x.1.lc, .string x.1.key, .slice x.1.ra x.1.rn x.1.rc] : Array Value).toList)) := by
            rw [← hwS]
            have := S2d.out.swapped encHt_len (i := k) (j := k + 1) hin hjn
            rw [hx.out, hy.out] at this
            exact this
          clear S1 P1 S2d hr2
          have e1 : ((k : Int) + 1).toNat = k + 1 := by omega
          have p1 : (0 : Int) ≤ (k : Int) + 1 := by omega
          have b1 : (k : Int) + 1 < (n : Int) := by omega
          have b2 : (k : Int) < (n : Int) := by omega
          have r1 : IntKind.i64.wrap ((k : Int) + 1) = (k : Int) + 1 := by rw [IntKind.wrap_i64]; omega
          go_wp2_with fail
          refine wp_region_noPanic ?_
          refine wp_region_held_drew (S := fun _ => True) (by kernel_rfl) ?_ (fun hHeld => ?_)
          · trivial
          rw [hwd]
          clear hwd
          refine wpAnyH_take (i := 0) (oi := { dst := some 61, op := Go.Op.move (Go.Operand.tmp 0), type := 36, pos := "zsortanyfunc.go:398", after := #[], guard := none }) (v := ?_) rfl (by kernel_rfl) (by kernel_rfl) (by kernel_rfl) (fun _ _ _ h => h) (Or.inl ⟨by rfl, ?_⟩) (by assumption) ?_
          rotate_left
          · (intro w hSw; (try dsimp only at hSw); go_simp; try with_reducible rfl)
          rotate_left
          try simp only [Act.put, List.setIfInBounds_toArray, List.set_cons_zero, List.set_cons_succ]
          refine wpAnyH_take (i := 1) (oi := { dst := some 62, op := Go.Op.move (Go.Operand.tmp 13), type := 3, pos := "zsortanyfunc.go:398", after := #[], guard := none }) (v := ?_) rfl (by kernel_rfl) (by kernel_rfl) (by kernel_rfl) (fun _ _ _ h => h) (Or.inl ⟨by rfl, ?_⟩) (by assumption) ?_
          rotate_left
          · (intro w hSw; (try dsimp only at hSw); go_simp; try with_reducible rfl)
          rotate_left
          try simp only [Act.put, List.setIfInBounds_toArray, List.set_cons_zero, List.set_cons_succ]
          refine wpAnyH_take (i := 2) (oi := { dst := some 63, op := Go.Op.move (Go.Operand.tmp 0), type := 36, pos := "zsortanyfunc.go:398", after := #[{ on := 15, ground := Go.Ground.gcOnly Go.Departure.lateStores }], guard := none }) (v := ?_) rfl (by kernel_rfl) (by kernel_rfl) (by kernel_rfl) (fun _ _ _ h => h) (Or.inl ⟨by rfl, ?_⟩) (by assumption) ?_
          rotate_left
          · (intro w hSw; (try dsimp only at hSw); go_simp; try with_reducible rfl)
          rotate_left
          try simp only [Act.put, List.setIfInBounds_toArray, List.set_cons_zero, List.set_cons_succ]
          refine wpAnyH_take (i := 3) (oi := { dst := some 64, op := Go.Op.move (Go.Operand.tmp 13), type := 3, pos := "zsortanyfunc.go:398", after := #[{ on := 15, ground := Go.Ground.gcOnly Go.Departure.lateStores }], guard := none }) (v := ?_) rfl (by kernel_rfl) (by kernel_rfl) (by kernel_rfl) (fun _ _ _ h => h) (Or.inl ⟨by rfl, ?_⟩) (by assumption) ?_
          rotate_left
          · (intro w hSw; (try dsimp only at hSw); go_simp; try with_reducible rfl)
          rotate_left
          try simp only [Act.put, List.setIfInBounds_toArray, List.set_cons_zero, List.set_cons_succ]
          refine wpAnyH_take (i := 4) (oi := { dst := some 65, op := Go.Op.binOp Go.BinOp.add 3 (Go.Operand.tmp 64) (Go.Operand.const (Go.Value.int Go.IntKind.i64 1)) 3, type := 3, pos := "zsortanyfunc.go:398", after := #[{ on := 3, ground := Go.Ground.data }, { on := 15, ground := Go.Ground.gcOnly Go.Departure.lateStores }], guard := none }) (v := ?_) rfl (by kernel_rfl) (by kernel_rfl) (by kernel_rfl) (fun _ _ _ h => h) (Or.inl ⟨by rfl, ?_⟩) (by assumption) ?_
          rotate_left
          · (intro w hSw; (try dsimp only at hSw); go_simp; try with_reducible rfl)
          rotate_left
          try simp only [Act.put, List.setIfInBounds_toArray, List.set_cons_zero, List.set_cons_succ]
          refine wpAnyH_take (i := 5) (oi := { dst := some 66, op := Go.Op.move (Go.Operand.tmp 0), type := 36, pos := "zsortanyfunc.go:398", after := #[], guard := none }) (v := ?_) rfl (by kernel_rfl) (by kernel_rfl) (by kernel_rfl) (fun _ _ _ h => h) (Or.inl ⟨by rfl, ?_⟩) (by assumption) ?_
          rotate_left
          · (intro w hSw; (try dsimp only at hSw); go_simp; try with_reducible rfl)
          rotate_left
          try simp only [Act.put, List.setIfInBounds_toArray, List.set_cons_zero, List.set_cons_succ]
          refine wpAnyH_take (i := 6) (oi := { dst := some 67, op := Go.Op.move (Go.Operand.tmp 13), type := 3, pos := "zsortanyfunc.go:398", after := #[], guard := none }) (v := ?_) rfl (by kernel_rfl) (by kernel_rfl) (by kernel_rfl) (fun _ _ _ h => h) (Or.inl ⟨by rfl, ?_⟩) (by assumption) ?_
          rotate_left
          · (intro w hSw; (try dsimp only at hSw); go_simp; try with_reducible rfl)
          rotate_left
          try simp only [Act.put, List.setIfInBounds_toArray, List.set_cons_zero, List.set_cons_succ]
          refine wpAnyH_take (i := 7) (oi := { dst := some 68, op := Go.Op.binOp Go.BinOp.add 3 (Go.Operand.tmp 67) (Go.Operand.const (Go.Value.int Go.IntKind.i64 1)) 3, type := 3, pos := "zsortanyfunc.go:398", after := #[{ on := 6, ground := Go.Ground.data }], guard := none }) (v := ?_) rfl (by kernel_rfl) (by kernel_rfl) (by kernel_rfl) (fun _ _ _ h => h) (Or.inl ⟨by rfl, ?_⟩) (by assumption) ?_
          rotate_left
          · (intro w hSw; (try dsimp only at hSw); go_simp; try with_reducible rfl)
          rotate_left
          try simp only [Act.put, List.setIfInBounds_toArray, List.set_cons_zero, List.set_cons_succ]
          refine wpAnyH_take (i := 8) (oi := { dst := some 69, op := Go.Op.indexAddr 36 (Go.Operand.tmp 66) (Go.Operand.tmp 68), type := 0, pos := "zsortanyfunc.go:398", after := #[{ on := 5, ground := Go.Ground.data }, { on := 7, ground := Go.Ground.data }], guard := none }) (v := ?_) rfl (by kernel_rfl) (by kernel_rfl) (by kernel_rfl) (fun _ _ _ h => h) (Or.inl ⟨by rfl, ?_⟩) (by assumption) ?_
          rotate_left
          · (intro w hSw; (try dsimp only at hSw); go_simp; try with_reducible rfl)
          rotate_left
          try simp only [Act.put, List.setIfInBounds_toArray, List.set_cons_zero, List.set_cons_succ]
          refine wpAnyH_take (i := 10) (oi := { dst := some 71, op := Go.Op.move (Go.Operand.tmp 0), type := 36, pos := "zsortanyfunc.go:398", after := #[], guard := none }) (v := ?_) rfl (by kernel_rfl) (by kernel_rfl) (by kernel_rfl) (fun _ _ _ h => h) (Or.inl ⟨by rfl, ?_⟩) (by assumption) ?_
          rotate_left
          · (intro w hSw; (try dsimp only at hSw); go_simp; try with_reducible rfl)
          rotate_left
          try simp only [Act.put, List.setIfInBounds_toArray, List.set_cons_zero, List.set_cons_succ]
          refine wpAnyH_take (i := 11) (oi := { dst := some 72, op := Go.Op.move (Go.Operand.tmp 13), type := 3, pos := "zsortanyfunc.go:398", after := #[], guard := none }) (v := ?_) rfl (by kernel_rfl) (by kernel_rfl) (by kernel_rfl) (fun _ _ _ h => h) (Or.inl ⟨by rfl, ?_⟩) (by assumption) ?_
          rotate_left
          · (intro w hSw; (try dsimp only at hSw); go_simp; try with_reducible rfl)
          rotate_left
          try simp only [Act.put, List.setIfInBounds_toArray, List.set_cons_zero, List.set_cons_succ]
          refine wpAnyH_take (i := 12) (oi := { dst := some 73, op := Go.Op.indexAddr 36 (Go.Operand.tmp 71) (Go.Operand.tmp 72), type := 0, pos := "zsortanyfunc.go:398", after := #[{ on := 10, ground := Go.Ground.data }, { on := 11, ground := Go.Ground.data }], guard := none }) (v := ?_) rfl (by kernel_rfl) (by kernel_rfl) (by kernel_rfl) (fun _ _ _ h => h) (Or.inl ⟨by rfl, ?_⟩) (by assumption) ?_
          rotate_left
          · (intro w hSw; (try dsimp only at hSw); go_simp; try with_reducible rfl)
          rotate_left
          try simp only [Act.put, List.setIfInBounds_toArray, List.set_cons_zero, List.set_cons_succ]
          refine wpAnyH_ready (rs := [9, 13]) (by kernel_rfl) (by simp) ?_
          refine AllReadyH.cons (o := { dst := some 70, op := Go.Op.load 33 (Go.Operand.tmp 69), type := 33, pos := "zsortanyfunc.go:398", after := #[{ on := 8, ground := Go.Ground.data }], guard := none }) rfl (fun K hK => ?_) ?_
          · rw [if_pos (show Region.wanted _ _ = true from rfl)]
            refine wp_load_mid 33 (.tmp 69) rfl blk (off + (k + 1) * 5) rfl [.int .i64 y.1.rid, .int .i64 y.1.nid, .slice y.1.la y.1.ln y.1.lc, .string y.1.key, .slice y.1.ra y.1.rn y.1.rc] _ hcy Tryd.underlying33 rfl (by kernel_rfl) ?_
            refine hK.out _ _ ?_ (fun hHeld => ?_)
            · trivial
            clear hK K
            try simp only [Act.put, List.setIfInBounds_toArray, List.set_cons_zero, List.set_cons_succ]
            refine wpAnyH_ready (rs := [13]) (by kernel_rfl) (by simp) ?_
            refine AllReadyH.cons (o := { dst := some 74, op := Go.Op.load 33 (Go.Operand.tmp 73), type := 33, pos := "zsortanyfunc.go:398", after := #[{ on := 12, ground := Go.Ground.data }], guard := none }) rfl (fun K hK => ?_) AllReadyH.nil
            rw [if_pos (show Region.wanted _ _ = true from rfl)]
            refine wp_load_mid 33 (.tmp 73) rfl blk (off + k * 5) rfl [.int .i64 x.1.rid, .int .i64 x.1.nid, .slice x.1.la x.1.ln x.1.lc, .string x.1.key, .slice x.1.ra x.1.rn x.1.rc] _ hcx Tryd.underlying33 rfl (by kernel_rfl) ?_
            refine hK.out _ _ ?_ (fun hHeld => ?_)
            · trivial
            clear hK K
            try simp only [Act.put, List.setIfInBounds_toArray, List.set_cons_zero, List.set_cons_succ]
            refine wpAnyH_take (i := 14) (oi := { dst := some 75, op := Go.Op.indexAddr 36 (Go.Operand.tmp 61) (Go.Operand.tmp 62), type := 0, pos := "zsortanyfunc.go:398", after := #[{ on := 0, ground := Go.Ground.data }, { on := 1, ground := Go.Ground.data }, { on := 0, ground := Go.Ground.phase }, { on := 1, ground := Go.Ground.phase }, { on := 2, ground := Go.Ground.textOnly Go.Departure.lateStores }, { on := 3, ground := Go.Ground.textOnly Go.Departure.lateStores }, { on := 4, ground := Go.Ground.textOnly Go.Departure.lateStores }, { on := 5, ground := Go.Ground.phase }, { on := 6, ground := Go.Ground.phase }, { on := 7, ground := Go.Ground.phase }, { on := 8, ground := Go.Ground.phase }, { on := 9, ground := Go.Ground.phase }, { on := 10, ground := Go.Ground.textOnly Go.Departure.lateStores }, { on := 11, ground := Go.Ground.textOnly Go.Departure.lateStores }, { on := 12, ground := Go.Ground.textOnly Go.Departure.lateStoresUnsure }, { on := 13, ground := Go.Ground.phase }], guard := none }) (v := ?_) rfl (by kernel_rfl) (by kernel_rfl) (by kernel_rfl) (fun _ _ _ h => h) (Or.inl ⟨by rfl, ?_⟩) (by assumption) ?_
            rotate_left
            · (intro w hSw; (try dsimp only at hSw); go_simp; try with_reducible rfl)
            rotate_left
            try simp only [Act.put, List.setIfInBounds_toArray, List.set_cons_zero, List.set_cons_succ]
            refine wpAnyH_ready (rs := [15]) (by kernel_rfl) (by simp) ?_
            refine AllReadyH.cons (o := { dst := none, op := Go.Op.store 33 (Go.Operand.tmp 75) (Go.Operand.tmp 70), type := 0, pos := "zsortanyfunc.go:398", after := #[{ on := 14, ground := Go.Ground.data }, { on := 9, ground := Go.Ground.data }, { on := 0, ground := Go.Ground.phase }, { on := 1, ground := Go.Ground.phase }, { on := 2, ground := Go.Ground.textOnly Go.Departure.lateStores }, { on := 3, ground := Go.Ground.textOnly Go.Departure.lateStores }, { on := 4, ground := Go.Ground.textOnly Go.Departure.lateStores }, { on := 5, ground := Go.Ground.phase }, { on := 6, ground := Go.Ground.phase }, { on := 7, ground := Go.Ground.phase }, { on := 8, ground := Go.Ground.phase }, { on := 9, ground := Go.Ground.phase }, { on := 10, ground := Go.Ground.textOnly Go.Departure.lateStores }, { on := 11, ground := Go.Ground.textOnly Go.Departure.lateStores }, { on := 12, ground := Go.Ground.textOnly Go.Departure.lateStoresUnsure }, { on := 13, ground := Go.Ground.phase }], guard := none }) rfl (fun K hK => ?_) AllReadyH.nil
            rw [if_pos (show Region.wanted _ _ = true from rfl)]
            refine wp_store_mid 33 (.tmp 75) (.tmp 70) rfl blk (off + k * 5) #[.int .i64 y.1.rid, .int .i64 y.1.nid, .slice y.1.la y.1.ln y.1.lc, .string y.1.key, .slice y.1.ra y.1.rn y.1.rc] rfl rfl hr1.out (by kernel_rfl) (by simp [Value.oneCell']) ?_
            rw [hwS]
            refine hK.out _ _ ?_ (fun hHeld => ?_)
            · trivial
            clear hK K
            try simp only [Act.put, List.setIfInBounds_toArray, List.set_cons_zero, List.set_cons_succ]
            refine wpAnyH_take (i := 16) (oi := { dst := some 76, op := Go.Op.indexAddr 36 (Go.Operand.tmp 63) (Go.Operand.tmp 65), type := 0, pos := "zsortanyfunc.go:398", after := #[{ on := 2, ground := Go.Ground.data }, { on := 4, ground := Go.Ground.data }, { on := 0, ground := Go.Ground.phase }, { on := 1, ground := Go.Ground.phase }, { on := 2, ground := Go.Ground.phase }, { on := 3, ground := Go.Ground.phase }, { on := 4, ground := Go.Ground.phase }, { on := 5, ground := Go.Ground.phase }, { on := 6, ground := Go.Ground.phase }, { on := 7, ground := Go.Ground.phase }, { on := 8, ground := Go.Ground.phase }, { on := 9, ground := Go.Ground.phase }, { on := 10, ground := Go.Ground.phase }, { on := 11, ground := Go.Ground.phase }, { on := 12, ground := Go.Ground.phase }, { on := 13, ground := Go.Ground.phase }, { on := 14, ground := Go.Ground.phase }, { on := 15, ground := Go.Ground.phase }], guard := none }) (v := ?_) rfl (by kernel_rfl) (by kernel_rfl) (by kernel_rfl) (fun _ _ _ h => h) (Or.inl ⟨by rfl, ?_⟩) (by assumption) ?_
            rotate_left
            · (intro w hSw; (try dsimp only at hSw); go_simp; try with_reducible rfl)
            rotate_left
            try simp only [Act.put, List.setIfInBounds_toArray, List.set_cons_zero, List.set_cons_succ]
            refine wpAnyH_ready (rs := [17]) (by kernel_rfl) (by simp) ?_
            refine AllReadyH.cons (o := { dst := none, op := Go.Op.store 33 (Go.Operand.tmp 76) (Go.Operand.tmp 74), type := 0, pos := "zsortanyfunc.go:398", after := #[{ on := 16, ground := Go.Ground.data }, { on := 13, ground := Go.Ground.data }, { on := 15, ground := Go.Ground.chain }, { on := 0, ground := Go.Ground.phase }, { on := 1, ground := Go.Ground.phase }, { on := 2, ground := Go.Ground.phase }, { on := 3, ground := Go.Ground.phase }, { on := 4, ground := Go.Ground.phase }, { on := 5, ground := Go.Ground.phase }, { on := 6, ground := Go.Ground.phase }, { on := 7, ground := Go.Ground.phase }, { on := 8, ground := Go.Ground.phase }, { on := 9, ground := Go.Ground.phase }, { on := 10, ground := Go.Ground.phase }, { on := 11, ground := Go.Ground.phase }, { on := 12, ground := Go.Ground.phase }, { on := 13, ground := Go.Ground.phase }, { on := 14, ground := Go.Ground.phase }, { on := 15, ground := Go.Ground.phase }], guard := none }) rfl (fun K hK => ?_) AllReadyH.nil
            rw [if_pos (show Region.wanted _ _ = true from rfl)]
            refine wp_store_mid 33 (.tmp 76) (.tmp 74) rfl blk (off + (k + 1) * 5) #[.int .i64 x.1.rid, .int .i64 x.1.nid, .slice x.1.la x.1.ln x.1.lc, .string x.1.key, .slice x.1.ra x.1.rn x.1.rc] rfl rfl hr3.out (by kernel_rfl) (by simp [Value.oneCell']) ?_
            refine hK.out _ _ ?_ (fun hHeld => ?_)
            · trivial
            clear hK K
            try simp only [Act.put, List.setIfInBounds_toArray, List.set_cons_zero, List.set_cons_succ]
            refine wpAnyH_done (by kernel_rfl) ?_ _
            refine NoPanic.normal ?_
            clear hr1 hr3 hcx hcy hwS
            generalize wS.setCells blk (off + (k + 1) * 5) (#[.int .i64 x.1.rid, .int .i64 x.1.nid, .slice x.1.la x.1.ln x.1.lc, .string x.1.key, .slice x.1.ra x.1.rn x.1.rc] : Array Value).toList = w3 at S3 ⊢
            clear e1 r1
            go_wp2
            go_roundg (i - (k + 1))
            case measure => omega
            case rel => exact ⟨k + 1, _, by go_num, by omega, by omega, by omega, S3, P2⟩
          refine AllReadyH.cons (o := { dst := some 74, op := Go.Op.load 33 (Go.Operand.tmp 73), type := 33, pos := "zsortanyfunc.go:398", after := #[{ on := 12, ground := Go.Ground.data }], guard := none }) rfl (fun K hK => ?_) AllReadyH.nil
          rw [if_pos (show Region.wanted _ _ = true from rfl)]
          refine wp_load_mid 33 (.tmp 73) rfl blk (off + k * 5) rfl [.int .i64 x.1.rid, .int .i64 x.1.nid, .slice x.1.la x.1.ln x.1.lc, .string x.1.key, .slice x.1.ra x.1.rn x.1.rc] _ hcx Tryd.underlying33 rfl (by kernel_rfl) ?_
          refine hK.out _ _ ?_ (fun hHeld => ?_)
          · trivial
          clear hK K
          try simp only [Act.put, List.setIfInBounds_toArray, List.set_cons_zero, List.set_cons_succ]
          refine wpAnyH_ready (rs := [9]) (by kernel_rfl) (by simp) ?_
          refine AllReadyH.cons (o := { dst := some 70, op := Go.Op.load 33 (Go.Operand.tmp 69), type := 33, pos := "zsortanyfunc.go:398", after := #[{ on := 8, ground := Go.Ground.data }], guard := none }) rfl (fun K hK => ?_) AllReadyH.nil
          rw [if_pos (show Region.wanted _ _ = true from rfl)]
          refine wp_load_mid 33 (.tmp 69) rfl blk (off + (k + 1) * 5) rfl [.int .i64 y.1.rid, .int .i64 y.1.nid, .slice y.1.la y.1.ln y.1.lc, .string y.1.key, .slice y.1.ra y.1.rn y.1.rc] _ hcy Tryd.underlying33 rfl (by kernel_rfl) ?_
          refine hK.out _ _ ?_ (fun hHeld => ?_)
          · trivial
          clear hK K
          try simp only [Act.put, List.setIfInBounds_toArray, List.set_cons_zero, List.set_cons_succ]
          refine wpAnyH_take (i := 14) (oi := { dst := some 75, op := Go.Op.indexAddr 36 (Go.Operand.tmp 61) (Go.Operand.tmp 62), type := 0, pos := "zsortanyfunc.go:398", after := #[{ on := 0, ground := Go.Ground.data }, { on := 1, ground := Go.Ground.data }, { on := 0, ground := Go.Ground.phase }, { on := 1, ground := Go.Ground.phase }, { on := 2, ground := Go.Ground.textOnly Go.Departure.lateStores }, { on := 3, ground := Go.Ground.textOnly Go.Departure.lateStores }, { on := 4, ground := Go.Ground.textOnly Go.Departure.lateStores }, { on := 5, ground := Go.Ground.phase }, { on := 6, ground := Go.Ground.phase }, { on := 7, ground := Go.Ground.phase }, { on := 8, ground := Go.Ground.phase }, { on := 9, ground := Go.Ground.phase }, { on := 10, ground := Go.Ground.textOnly Go.Departure.lateStores }, { on := 11, ground := Go.Ground.textOnly Go.Departure.lateStores }, { on := 12, ground := Go.Ground.textOnly Go.Departure.lateStoresUnsure }, { on := 13, ground := Go.Ground.phase }], guard := none }) (v := ?_) rfl (by kernel_rfl) (by kernel_rfl) (by kernel_rfl) (fun _ _ _ h => h) (Or.inl ⟨by rfl, ?_⟩) (by assumption) ?_
          rotate_left
          · (intro w hSw; (try dsimp only at hSw); go_simp; try with_reducible rfl)
          rotate_left
          try simp only [Act.put, List.setIfInBounds_toArray, List.set_cons_zero, List.set_cons_succ]
          refine wpAnyH_ready (rs := [15]) (by kernel_rfl) (by simp) ?_
          refine AllReadyH.cons (o := { dst := none, op := Go.Op.store 33 (Go.Operand.tmp 75) (Go.Operand.tmp 70), type := 0, pos := "zsortanyfunc.go:398", after := #[{ on := 14, ground := Go.Ground.data }, { on := 9, ground := Go.Ground.data }, { on := 0, ground := Go.Ground.phase }, { on := 1, ground := Go.Ground.phase }, { on := 2, ground := Go.Ground.textOnly Go.Departure.lateStores }, { on := 3, ground := Go.Ground.textOnly Go.Departure.lateStores }, { on := 4, ground := Go.Ground.textOnly Go.Departure.lateStores }, { on := 5, ground := Go.Ground.phase }, { on := 6, ground := Go.Ground.phase }, { on := 7, ground := Go.Ground.phase }, { on := 8, ground := Go.Ground.phase }, { on := 9, ground := Go.Ground.phase }, { on := 10, ground := Go.Ground.textOnly Go.Departure.lateStores }, { on := 11, ground := Go.Ground.textOnly Go.Departure.lateStores }, { on := 12, ground := Go.Ground.textOnly Go.Departure.lateStoresUnsure }, { on := 13, ground := Go.Ground.phase }], guard := none }) rfl (fun K hK => ?_) AllReadyH.nil
          rw [if_pos (show Region.wanted _ _ = true from rfl)]
          refine wp_store_mid 33 (.tmp 75) (.tmp 70) rfl blk (off + k * 5) #[.int .i64 y.1.rid, .int .i64 y.1.nid, .slice y.1.la y.1.ln y.1.lc, .string y.1.key, .slice y.1.ra y.1.rn y.1.rc] rfl rfl hr1.out (by kernel_rfl) (by simp [Value.oneCell']) ?_
          rw [hwS]
          refine hK.out _ _ ?_ (fun hHeld => ?_)
          · trivial
          clear hK K
          try simp only [Act.put, List.setIfInBounds_toArray, List.set_cons_zero, List.set_cons_succ]
          refine wpAnyH_take (i := 16) (oi := { dst := some 76, op := Go.Op.indexAddr 36 (Go.Operand.tmp 63) (Go.Operand.tmp 65), type := 0, pos := "zsortanyfunc.go:398", after := #[{ on := 2, ground := Go.Ground.data }, { on := 4, ground := Go.Ground.data }, { on := 0, ground := Go.Ground.phase }, { on := 1, ground := Go.Ground.phase }, { on := 2, ground := Go.Ground.phase }, { on := 3, ground := Go.Ground.phase }, { on := 4, ground := Go.Ground.phase }, { on := 5, ground := Go.Ground.phase }, { on := 6, ground := Go.Ground.phase }, { on := 7, ground := Go.Ground.phase }, { on := 8, ground := Go.Ground.phase }, { on := 9, ground := Go.Ground.phase }, { on := 10, ground := Go.Ground.phase }, { on := 11, ground := Go.Ground.phase }, { on := 12, ground := Go.Ground.phase }, { on := 13, ground := Go.Ground.phase }, { on := 14, ground := Go.Ground.phase }, { on := 15, ground := Go.Ground.phase }], guard := none }) (v := ?_) rfl (by kernel_rfl) (by kernel_rfl) (by kernel_rfl) (fun _ _ _ h => h) (Or.inl ⟨by rfl, ?_⟩) (by assumption) ?_
          rotate_left
          · (intro w hSw; (try dsimp only at hSw); go_simp; try with_reducible rfl)
          rotate_left
          try simp only [Act.put, List.setIfInBounds_toArray, List.set_cons_zero, List.set_cons_succ]
          refine wpAnyH_ready (rs := [17]) (by kernel_rfl) (by simp) ?_
          refine AllReadyH.cons (o := { dst := none, op := Go.Op.store 33 (Go.Operand.tmp 76) (Go.Operand.tmp 74), type := 0, pos := "zsortanyfunc.go:398", after := #[{ on := 16, ground := Go.Ground.data }, { on := 13, ground := Go.Ground.data }, { on := 15, ground := Go.Ground.chain }, { on := 0, ground := Go.Ground.phase }, { on := 1, ground := Go.Ground.phase }, { on := 2, ground := Go.Ground.phase }, { on := 3, ground := Go.Ground.phase }, { on := 4, ground := Go.Ground.phase }, { on := 5, ground := Go.Ground.phase }, { on := 6, ground := Go.Ground.phase }, { on := 7, ground := Go.Ground.phase }, { on := 8, ground := Go.Ground.phase }, { on := 9, ground := Go.Ground.phase }, { on := 10, ground := Go.Ground.phase }, { on := 11, ground := Go.Ground.phase }, { on := 12, ground := Go.Ground.phase }, { on := 13, ground := Go.Ground.phase }, { on := 14, ground := Go.Ground.phase }, { on := 15, ground := Go.Ground.phase }], guard := none }) rfl (fun K hK => ?_) AllReadyH.nil
          rw [if_pos (show Region.wanted _ _ = true from rfl)]
          refine wp_store_mid 33 (.tmp 76) (.tmp 74) rfl blk (off + (k + 1) * 5) #[.int .i64 x.1.rid, .int .i64 x.1.nid, .slice x.1.la x.1.ln x.1.lc, .string x.1.key, .slice x.1.ra x.1.rn x.1.rc] rfl rfl hr3.out (by kernel_rfl) (by simp [Value.oneCell']) ?_
          refine hK.out _ _ ?_ (fun hHeld => ?_)
          · trivial
          clear hK K
          try simp only [Act.put, List.setIfInBounds_toArray, List.set_cons_zero, List.set_cons_succ]
          refine wpAnyH_done (by kernel_rfl) ?_ _
          refine NoPanic.normal ?_
          clear hr1 hr3 hcx hcy hwS
          generalize wS.setCells blk (off + (k + 1) * 5) (#[.int .i64 x.1.rid, .int .i64 x.1.nid, .slice x.1.la x.1.ln x.1.lc, .string x.1.key, .slice x.1.ra x.1.rn x.1.rc] : Array Value).toList = w3 at S3 ⊢
          clear e1 r1
          go_wp2
          go_roundg (i - (k + 1))
          case measure => omega
          case rel => exact ⟨k + 1, _, by go_num, by omega, by omega, by omega, S3, P2⟩
        · have hltz : ¬ (k : Int) < (i : Int) - 1 := by omega
          go_wp2
          have hki' : k + 1 = i := by omega
          rw [hki'] at P1
          have HMM := HM.out
          rw [HA.out] at HMM
          refine bodyPost_ret (v := .tuple #[]) (results_none rfl _ _ _) rfl ?_
          exact ⟨rfl, dk, S1.out, merged_one hc HMM (by omega) (by omega) (by omega) P1.out (by rw [← HA.out]; exact L1.out) (fun q h1 h2 => by have := G2.out q h1 h2; omega)⟩

theorem srch_le {α : Type} {c : α → α → Int} (hc : IsCmp c) {d : Nat → Tag α} {a m h : Nat} (hs : SortedOn c d a m) (hh : h < m) (hge : ¬ c (d m).1 (d h).1 < 0) :
    ∀ k, a ≤ k → k < h + 1 → ¬ c (d m).1 (d k).1 < 0 := by
  intro k h1 h2
  by_cases e : k = h
  · rw [e]; exact hge
  · have := hs k h h1 (by omega) hh
    have h3 : c (d k).1 (d h).1 ≤ 0 := by unfold lexLt at this; omega
    intro h4
    have := hc.trans _ _ _ (Int.le_of_lt h4) h3
    omega
theorem srch_gt {α : Type} {c : α → α → Int} (hc : IsCmp c) {d : Nat → Tag α} {a m h : Nat} (hs : SortedOn c d a m) (ha : a ≤ h) (hlt : c (d m).1 (d h).1 < 0) :
    ∀ k, h ≤ k → k < m → c (d m).1 (d k).1 < 0 := by
  intro k h1 h2
  by_cases e : k = h
  · rw [e]; exact hlt
  · have := hs h k ha (by omega) h2
    have h3 : c (d h).1 (d k).1 ≤ 0 := by unfold lexLt at this; omega
    have := hc.trans _ _ _ (Int.le_of_lt hlt) h3
    omega

set_option maxHeartbeats 16000000 in
set_option maxRecDepth 1000000 in
theorem sym_last (c : Hv → Hv → Int) (hc : IsCmp c) (Q : Hv → Prop) (g : Nat) (cb : Array Value) (blk off cap n a m b : Nat) (d : Nat → Tag Hv) (w0 w : World)
    (eg : ∀ args w, (callFunc g args).run Tryd.prog w = .ok (.enter g args) w) (hcmp : CmpOKH g cb c Q w0 blk off n) (hQ : ∀ j, j < n → Q (d j).1) (S : SK (fun p : Tag Hv => encH p.1) 5 w0 blk off n d w)
    (hM : Merge c d a m b) (ham : a + 1 < m) (hmb : b = m + 1) (hb : b ≤ n) (hsz : n < 4611686018427387904) :
    Calls Tryd.prog 113 #[.slice (some ⟨blk, off, none⟩) n cap, .int .i64 a, .int .i64 m, .int .i64 b, .func (.func g) #[] cb] w fun e w' => e = .returned (.tuple #[]) ∧
      ∃ d', SK (fun p : Tag Hv => encH p.1) 5 w0 blk off n d' w' ∧ Merged c d d' a b := by
  have HC := Lib.hid hcmp; clear hcmp
  have S0 := Lib.hid S; clear S
  have HQ := Lib.hid hQ; clear hQ
  have HM := Lib.hid hM; clear hM
  have t1 : ((m : Int) - (a : Int) == 1) = false := beq_eq_false_iff_ne.2 (by omega)
  have t2 : ((b : Int) - (m : Int) == 1) = true := beq_iff_eq.2 (by omega)
  have HA := Lib.hid hmb
  have hma : m < b := by omega
  clear hmb
  go_enter Tryd.func113, Tryd.ntmps113
  go_wp2
  go_loopg [14, 15] (m - a) (fun g1 vi vj wr => ∃ (i j : Nat), vi = .int .i64 i ∧ vj = .int .i64 j ∧ a ≤ i ∧ i ≤ j ∧ j ≤ m ∧ j - i ≤ g1 ∧ Hid (SK (fun p : Tag Hv => encH p.1) 5 w0 blk off n d wr) ∧
    Hid (∀ k, a ≤ k → k < i → ¬ c (d m).1 (d k).1 < 0) ∧ Hid (∀ k, j ≤ k → k < m → c (d m).1 (d k).1 < 0))
  case atStart => exact ⟨a, m, rfl, rfl, Nat.le_refl _, by omega, Nat.le_refl _, Nat.le_refl _, S0, fun k h1 h2 => by omega, fun k h1 h2 => by omega⟩
  case round =>
    clear S0
    obtain ⟨i, j, rfl, rfl, hmi, hij, hjb, hg1, S1, L1, G1⟩ := hrel
    by_cases hlt : i < j
    · have hltz : (i : Int) < (j : Int) := by omega
      obtain ⟨h, hh⟩ : ∃ h : Nat, Hid (h = (i + j) / 2) := ⟨_, rfl⟩
      have zh : ((i : Int) + (j : Int)) / 2 = (h : Int) := by have := hh.out; omega
      have hhi : i ≤ h := by have := hh.out; omega
      have hhj : h < j := by have := hh.out; omega
      obtain ⟨x, hx⟩ : ∃ x, Hid (d m = x) := ⟨_, rfl⟩
      obtain ⟨y, hy⟩ : ∃ y, Hid (d h = y) := ⟨_, rfl⟩
      have l10 : ∀ p : BW wr, p.at_.cell? ⟨blk, off + m * 5, none⟩ = some (.int .i64 x.1.rid) := fun p => sk_atH (i := 0) (S1.out.below p.bel) (by omega) hx.out rfl
      have l11 : ∀ p : BW wr, p.at_.cell? ⟨blk, off + m * 5 + 1, none⟩ = some (.int .i64 x.1.nid) := fun p => sk_atH (i := 1) (S1.out.below p.bel) (by omega) hx.out rfl
      have l12 : ∀ p : BW wr, p.at_.cell? ⟨blk, off + m * 5 + 2, none⟩ = some (.slice x.1.la x.1.ln x.1.lc) := fun p => sk_atH (i := 2) (S1.out.below p.bel) (by omega) hx.out rfl
      have l13 : ∀ p : BW wr, p.at_.cell? ⟨blk, off + m * 5 + 3, none⟩ = some (.string x.1.key) := fun p => sk_atH (i := 3) (S1.out.below p.bel) (by omega) hx.out rfl
      have l14 : ∀ p : BW wr, p.at_.cell? ⟨blk, off + m * 5 + 4, none⟩ = some (.slice x.1.ra x.1.rn x.1.rc) := fun p => sk_atH (i := 4) (S1.out.below p.bel) (by omega) hx.out rfl
      have l20 : ∀ p : BW wr, p.at_.cell? ⟨blk, off + h * 5, none⟩ = some (.int .i64 y.1.rid) := fun p => sk_atH (i := 0) (S1.out.below p.bel) (by omega) hy.out rfl
      have l21 : ∀ p : BW wr, p.at_.cell? ⟨blk, off + h * 5 + 1, none⟩ = some (.int .i64 y.1.nid) := fun p => sk_atH (i := 1) (S1.out.below p.bel) (by omega) hy.out rfl
      have l22 : ∀ p : BW wr, p.at_.cell? ⟨blk, off + h * 5 + 2, none⟩ = some (.slice y.1.la y.1.ln y.1.lc) := fun p => sk_atH (i := 2) (S1.out.below p.bel) (by omega) hy.out rfl
      have l23 : ∀ p : BW wr, p.at_.cell? ⟨blk, off + h * 5 + 3, none⟩ = some (.string y.1.key) := fun p => sk_atH (i := 3) (S1.out.below p.bel) (by omega) hy.out rfl
      have l24 : ∀ p : BW wr, p.at_.cell? ⟨blk, off + h * 5 + 4, none⟩ = some (.slice y.1.ra y.1.rn y.1.rc) := fun p => sk_atH (i := 4) (S1.out.below p.bel) (by omega) hy.out rfl
      have hcall := Lib.hid (HC.out wr d S1.out x.1 y.1 (by rw [← hx.out]; exact HQ.out _ (by omega)) (by rw [← hy.out]; exact HQ.out _ (by omega)))
      have b1 : (h : Int) < (n : Int) := by omega
      have b2 : (m : Int) < (n : Int) := by omega
      have p1 : (0 : Int) ≤ (h : Int) := by omega
      have p2 : (0 : Int) ≤ (m : Int) := by omega
      have HLT : Hid (¬ c x.1 y.1 < 0 → ∀ k, a ≤ k → k < h + 1 → ¬ c (d m).1 (d k).1 < 0) := fun h => srch_le hc HM.out.left (by omega) (by rw [hx.out, hy.out]; exact h)
      have HGE : Hid (c x.1 y.1 < 0 → ∀ k, h ≤ k → k < m → c (d m).1 (d k).1 < 0) := fun h => srch_gt hc HM.out.left (by omega) (by rw [hx.out, hy.out]; exact h)
      by_cases hlv : c x.1 y.1 < 0
      · have hd : decide (c x.1 y.1 < 0) = true := decide_eq_true hlv
        have HG := Lib.hid (HGE.out hlv)
        clear HLT HGE G1
        go_wp2_with fail
        refine wp_region_quiet_below (by kernel_rfl) (by kernel_rfl) ?_
        repeat (go_big_quiet_step (exact below_quiet (hcall.out _)))
        refine wpQuiet_nil ?_
        intro w2 hw'
        have hb2 := bw_below hw'
        clear hw'
        have S2 : Hid (SK (fun p : Tag Hv => encH p.1) 5 w0 blk off n d w2) := S1.out.below hb2
        clear l10 l20 l11 l21 l12 l22 l13 l23 l14 l24 hcall S1 hb2
        go_wp2
        go_roundg (h - i)
        case measure => omega
        case rel => exact ⟨i, h, rfl, by first | rfl | (congr 1; omega), by omega, by omega, by omega, by omega, S2, L1, HG⟩
      · have hd : decide (c x.1 y.1 < 0) = false := decide_eq_false hlv
        have HL := Lib.hid (HLT.out hlv)
        clear HLT HGE L1
        go_wp2_with fail
        refine wp_region_quiet_below (by kernel_rfl) (by kernel_rfl) ?_
        repeat (go_big_quiet_step (exact below_quiet (hcall.out _)))
        refine wpQuiet_nil ?_
        intro w2 hw'
        have hb2 := bw_below hw'
        clear hw'
        have S2 : Hid (SK (fun p : Tag Hv => encH p.1) 5 w0 blk off n d w2) := S1.out.below hb2
        clear l10 l20 l11 l21 l12 l22 l13 l23 l14 l24 hcall S1 hb2
        go_wp2
        go_roundg (j - (h + 1))
        case measure => omega
        case rel => exact ⟨h + 1, j, by first | rfl | go_num | (congr 1; omega), rfl, by omega, by omega, by omega, by omega, S2, HL, G1⟩
    · have hltz : ¬ (i : Int) < (j : Int) := by omega
      have HIJ : Hid (i = j) := show i = j by omega
      have G2 : Hid (∀ k, i ≤ k → k < m → c (d m).1 (d k).1 < 0) := by rw [HIJ.out]; exact G1.out
      clear G1
      go_wp2_with fail
      go_loopg [17] (m - i) (fun g1 vk wr => ∃ (k : Nat) (dk : Nat → Tag Hv), vk = .int .i64 k ∧ i ≤ k ∧ k ≤ m ∧ k - i ≤ g1 ∧ Hid (SK (fun p : Tag Hv => encH p.1) 5 w0 blk off n dk wr) ∧ Hid (Rotated d dk k m (m + 1)))
      case atStart => exact ⟨m, d, rfl, by omega, by omega, by omega, S1, rotated_nil_left _ _ _⟩
      case round =>
        clear S1
        obtain ⟨k, dk, rfl, hik, hkm, hg1, S1, P1⟩ := hrel
        by_cases hlt : i < k
        · have P2 : Hid (Rotated d (swpF dk k (k - 1)) (k - 1) m (m + 1)) := rotated_down P1.out hkm (by omega)
          obtain ⟨q, hq⟩ : ∃ q, Hid (q + 1 = k) := ⟨k - 1, show _ = _ by omega⟩
          have hq1 : Hid (k - 1 = q) := show _ = _ by have := hq.out; omega
          have zk : (k : Int) = (q : Int) + 1 := by have := hq.out; omega
          have hltz : (i : Int) < (q : Int) + 1 := by omega
          rw [hq1.out] at P2
          obtain ⟨x, hx⟩ : ∃ x, Hid (dk k = x) := ⟨_, rfl⟩
          obtain ⟨y, hy⟩ : ∃ y, Hid (dk q = y) := ⟨_, rfl⟩
          have S2d : Hid (SK (fun p : Tag Hv => encH p.1) 5 w0 blk off n dk wr.drew) := S1.out.drew
          obtain ⟨wd, hwd⟩ : ∃ wd, wr.drew = wd := ⟨_, rfl⟩
          rw [hwd] at S2d
          have hin : k < n := by omega
          have hjn : q < n := by omega
          have hr1 := Lib.hid (S2d.out.room hin)
          have hr2 := Lib.hid (S2d.out.room hjn)
          obtain ⟨wS, hwS⟩ : ∃ wS, wd.setCells blk (off + k * 5) (#[.int .i64 y.1.rid, .int .i64 y.1.nid, .slice y.1.la y.1.ln y.1.lc, .string y.1.key, .slice y.1.ra y.1.rn y.1.rc] : Array Value).toList = wS := ⟨_, rfl⟩
          have hr3 : Hid (wS.there blk (off + q * 5) 5) := by rw [← hwS]; exact World.there_setCells hr2.out _ _ _
          have hcx : wd.rangeAt blk (off + k * 5) [.int .i64 x.1.rid, .int .i64 x.1.nid, .slice x.1.la x.1.ln x.1.lc, .string x.1.key, .slice x.1.ra x.1.rn x.1.rc] := by have := S2d.out.cells k hin; rw [hx.out] at this; exact this
          have hcy : wd.rangeAt blk (off + q * 5) [.int .i64 y.1.rid, .int .i64 y.1.nid, .slice y.1.la y.1.ln y.1.lc, .string y.1.key, .slice y.1.ra y.1.rn y.1.rc] := by have := S2d.out.cells q hjn; rw [hy.out] at this; exact this
          have S3 : Hid (SK (fun p : Tag Hv => encH p.1) 5 w0 blk off n (swpF dk k q) (wS.setCells blk (off + q * 5) (#[.int .i64 x.1.rid, .int .i64 x.1.nid, .slice x.1.la x.1.ln x.1.lc, .string x.1.key, .slice x.1.ra x.1.rn x.1.rc] : Array Value).toList)) := by
            rw [← hwS]
            have := S2d.out.swapped encHt_len (i := k) (j := q) hin hjn
            rw [hx.out, hy.out] at this
            exact this
          clear S1 P1 S2d hr2
          have e1 : ((q : Int) + 1).toNat = k := by omega
          have e2 : ((q : Int)).toNat = q := by omega
          have p1 : (0 : Int) ≤ (q : Int) + 1 := by omega
          have p2 : (0 : Int) ≤ (q : Int) := by omega
          have b1 : (q : Int) + 1 < (n : Int) := by omega
          have b2 : (q : Int) < (n : Int) := by omega
          have r1 : IntKind.i64.wrap ((q : Int) + 1) = (q : Int) + 1 := by rw [IntKind.wrap_i64]; omega
          have r2 : IntKind.i64.wrap (q : Int) = (q : Int) := by rw [IntKind.wrap_i64]; omega
          go_wp2_with fail
          refine wp_region_noPanic ?_
          refine wp_region_held_drew (S := fun _ => True) (by kernel_rfl) ?_ (fun hHeld => ?_)
          · trivial
          rw [hwd]
          clear hwd
          refine wpAnyH_take (i := 0) (oi := { dst := some 113, op := Go.Op.move (Go.Operand.tmp 0), type := 36, pos := "zsortanyfunc.go:422", after := #[], guard := none }) (v := ?_) rfl (by kernel_rfl) (by kernel_rfl) (by kernel_rfl) (fun _ _ _ h => h) (Or.inl ⟨by rfl, ?_⟩) (by assumption) ?_
          rotate_left
          · (intro w hSw; (try dsimp only at hSw); go_simp; try with_reducible rfl)
          rotate_left
          try simp only [Act.put, List.setIfInBounds_toArray, List.set_cons_zero, List.set_cons_succ]
          refine wpAnyH_take (i := 1) (oi := { dst := some 114, op := Go.Op.move (Go.Operand.tmp 17), type := 3, pos := "zsortanyfunc.go:422", after := #[], guard := none }) (v := ?_) rfl (by kernel_rfl) (by kernel_rfl) (by kernel_rfl) (fun _ _ _ h => h) (Or.inl ⟨by rfl, ?_⟩) (by assumption) ?_
          rotate_left
          · (intro w hSw; (try dsimp only at hSw); go_simp; try with_reducible rfl)
          rotate_left
          try simp only [Act.put, List.setIfInBounds_toArray, List.set_cons_zero, List.set_cons_succ]
          refine wpAnyH_take (i := 2) (oi := { dst := some 115, op := Go.Op.move (Go.Operand.tmp 0), type := 36, pos := "zsortanyfunc.go:422", after := #[{ on := 15, ground := Go.Ground.gcOnly Go.Departure.lateStores }], guard := none }) (v := ?_) rfl (by kernel_rfl) (by kernel_rfl) (by kernel_rfl) (fun _ _ _ h => h) (Or.inl ⟨by rfl, ?_⟩) (by assumption) ?_
          rotate_left
          · (intro w hSw; (try dsimp only at hSw); go_simp; try with_reducible rfl)
          rotate_left
          try simp only [Act.put, List.setIfInBounds_toArray, List.set_cons_zero, List.set_cons_succ]
          refine wpAnyH_take (i := 3) (oi := { dst := some 116, op := Go.Op.move (Go.Operand.tmp 17), type := 3, pos := "zsortanyfunc.go:422", after := #[{ on := 15, ground := Go.Ground.gcOnly Go.Departure.lateStores }], guard := none }) (v := ?_) rfl (by kernel_rfl) (by kernel_rfl) (by kernel_rfl) (fun _ _ _ h => h) (Or.inl ⟨by rfl, ?_⟩) (by assumption) ?_
          rotate_left
          · (intro w hSw; (try dsimp only at hSw); go_simp; try with_reducible rfl)
          rotate_left
          try simp only [Act.put, List.setIfInBounds_toArray, List.set_cons_zero, List.set_cons_succ]
          refine wpAnyH_take (i := 4) (oi := { dst := some 117, op := Go.Op.binOp Go.BinOp.sub 3 (Go.Operand.tmp 116) (Go.Operand.const (Go.Value.int Go.IntKind.i64 1)) 3, type := 3, pos := "zsortanyfunc.go:422", after := #[{ on := 3, ground := Go.Ground.data }, { on := 15, ground := Go.Ground.gcOnly Go.Departure.lateStores }], guard := none }) (v := ?_) rfl (by kernel_rfl) (by kernel_rfl) (by kernel_rfl) (fun _ _ _ h => h) (Or.inl ⟨by rfl, ?_⟩) (by assumption) ?_
          rotate_left
          · (intro w hSw; (try dsimp only at hSw); go_simp; try with_reducible rfl)
          rotate_left
          try simp only [Act.put, List.setIfInBounds_toArray, List.set_cons_zero, List.set_cons_succ]
          refine wpAnyH_take (i := 5) (oi := { dst := some 118, op := Go.Op.move (Go.Operand.tmp 0), type := 36, pos := "zsortanyfunc.go:422", after := #[], guard := none }) (v := ?_) rfl (by kernel_rfl) (by kernel_rfl) (by kernel_rfl) (fun _ _ _ h => h) (Or.inl ⟨by rfl, ?_⟩) (by assumption) ?_
          rotate_left
          · (intro w hSw; (try dsimp only at hSw); go_simp; try with_reducible rfl)
          rotate_left
          try simp only [Act.put, List.setIfInBounds_toArray, List.set_cons_zero, List.set_cons_succ]
          refine wpAnyH_take (i := 6) (oi := { dst := some 119, op := Go.Op.move (Go.Operand.tmp 17), type := 3, pos := "zsortanyfunc.go:422", after := #[], guard := none }) (v := ?_) rfl (by kernel_rfl) (by kernel_rfl) (by kernel_rfl) (fun _ _ _ h => h) (Or.inl ⟨by rfl, ?_⟩) (by assumption) ?_
          rotate_left
          · (intro w hSw; (try dsimp only at hSw); go_simp; try with_reducible rfl)
          rotate_left
          try simp only [Act.put, List.setIfInBounds_toArray, List.set_cons_zero, List.set_cons_succ]
          refine wpAnyH_take (i := 7) (oi := { dst := some 120, op := Go.Op.binOp Go.BinOp.sub 3 (Go.Operand.tmp 119) (Go.Operand.const (Go.Value.int Go.IntKind.i64 1)) 3, type := 3, pos := "zsortanyfunc.go:422", after := #[{ on := 6, ground := Go.Ground.data }], guard := none }) (v := ?_) rfl (by kernel_rfl) (by kernel_rfl) (by kernel_rfl) (fun _ _ _ h => h) (Or.inl ⟨by rfl, ?_⟩) (by assumption) ?_
          rotate_left
          · (intro w hSw; (try dsimp only at hSw); go_simp; try with_reducible rfl)
          rotate_left
          try simp only [Act.put, List.setIfInBounds_toArray, List.set_cons_zero, List.set_cons_succ]
          refine wpAnyH_take (i := 8) (oi := { dst := some 121, op := Go.Op.indexAddr 36 (Go.Operand.tmp 118) (Go.Operand.tmp 120), type := 0, pos := "zsortanyfunc.go:422", after := #[{ on := 5, ground := Go.Ground.data }, { on := 7, ground := Go.Ground.data }], guard := none }) (v := ?_) rfl (by kernel_rfl) (by kernel_rfl) (by kernel_rfl) (fun _ _ _ h => h) (Or.inl ⟨by rfl, ?_⟩) (by assumption) ?_
          rotate_left
          · (intro w hSw; (try dsimp only at hSw); go_simp; try with_reducible rfl)
          rotate_left
          try simp only [Act.put, List.setIfInBounds_toArray, List.set_cons_zero, List.set_cons_succ]
          refine wpAnyH_take (i := 10) (oi := { dst := some 123, op := Go.Op.move (Go.Operand.tmp 0), type := 36, pos := "zsortanyfunc.go:422", after := #[], guard := none }) (v := ?_) rfl (by kernel_rfl) (by kernel_rfl) (by kernel_rfl) (fun _ _ _ h => h) (Or.inl ⟨by rfl, ?_⟩) (by assumption) ?_
          rotate_left
          · (intro w hSw; (try dsimp only at hSw); go_simp; try with_reducible rfl)
          rotate_left
          try simp only [Act.put, List.setIfInBounds_toArray, List.set_cons_zero, List.set_cons_succ]
          refine wpAnyH_take (i := 11) (oi := { dst := some 124, op := Go.Op.move (Go.Operand.tmp 17), type := 3, pos := "zsortanyfunc.go:422", after := #[], guard := none }) (v := ?_) rfl (by kernel_rfl) (by kernel_rfl) (by kernel_rfl) (fun _ _ _ h => h) (Or.inl ⟨by rfl, ?_⟩) (by assumption) ?_
          rotate_left
          · (intro w hSw; (try dsimp only at hSw); go_simp; try with_reducible rfl)
          rotate_left
          try simp only [Act.put, List.setIfInBounds_toArray, List.set_cons_zero, List.set_cons_succ]
          refine wpAnyH_take (i := 12) (oi := { dst := some 125, op := Go.Op.indexAddr 36 (Go.Operand.tmp 123) (Go.Operand.tmp 124), type := 0, pos := "zsortanyfunc.go:422", after := #[{ on := 10, ground := Go.Ground.data }, { on := 11, ground := Go.Ground.data }], guard := none }) (v := ?_) rfl (by kernel_rfl) (by kernel_rfl) (by kernel_rfl) (fun _ _ _ h => h) (Or.inl ⟨by rfl, ?_⟩) (by assumption) ?_
          rotate_left
          · (intro w hSw; (try dsimp only at hSw); go_simp; try with_reducible rfl)
          rotate_left
          try simp only [Act.put, List.setIfInBounds_toArray, List.set_cons_zero, List.set_cons_succ]
          refine wpAnyH_ready (rs := [9, 13]) (by kernel_rfl) (by simp) ?_
          refine AllReadyH.cons (o := { dst := some 122, op := Go.Op.load 33 (Go.Operand.tmp 121), type := 33, pos := "zsortanyfunc.go:422", after := #[{ on := 8, ground := Go.Ground.data }], guard := none }) rfl (fun K hK => ?_) ?_
          · rw [if_pos (show Region.wanted _ _ = true from rfl)]
            refine wp_load_mid 33 (.tmp 121) rfl blk (off + q * 5) rfl [.int .i64 y.1.rid, .int .i64 y.1.nid, .slice y.1.la y.1.ln y.1.lc, .string y.1.key, .slice y.1.ra y.1.rn y.1.rc] _ hcy Tryd.underlying33 rfl (by kernel_rfl) ?_
            refine hK.out _ _ ?_ (fun hHeld => ?_)
            · trivial
            clear hK K
            try simp only [Act.put, List.setIfInBounds_toArray, List.set_cons_zero, List.set_cons_succ]
            refine wpAnyH_ready (rs := [13]) (by kernel_rfl) (by simp) ?_
            refine AllReadyH.cons (o := { dst := some 126, op := Go.Op.load 33 (Go.Operand.tmp 125), type := 33, pos := "zsortanyfunc.go:422", after := #[{ on := 12, ground := Go.Ground.data }], guard := none }) rfl (fun K hK => ?_) AllReadyH.nil
            rw [if_pos (show Region.wanted _ _ = true from rfl)]
            refine wp_load_mid 33 (.tmp 125) rfl blk (off + k * 5) rfl [.int .i64 x.1.rid, .int .i64 x.1.nid, .slice x.1.la x.1.ln x.1.lc, .string x.1.key, .slice x.1.ra x.1.rn x.1.rc] _ hcx Tryd.underlying33 rfl (by kernel_rfl) ?_
            refine hK.out _ _ ?_ (fun hHeld => ?_)
            · trivial
            clear hK K
            try simp only [Act.put, List.setIfInBounds_toArray, List.set_cons_zero, List.set_cons_succ]
            refine wpAnyH_take (i := 14) (oi := { dst := some 127, op := Go.Op.indexAddr 36 (Go.Operand.tmp 113) (Go.Operand.tmp 114), type := 0, pos := "zsortanyfunc.go:422", after := #[{ on := 0, ground := Go.Ground.data }, { on := 1, ground := Go.Ground.data }, { on := 0, ground := Go.Ground.phase }, { on := 1, ground := Go.Ground.phase }, { on := 2, ground := Go.Ground.textOnly Go.Departure.lateStores }, { on := 3, ground := Go.Ground.textOnly Go.Departure.lateStores }, { on := 4, ground := Go.Ground.textOnly Go.Departure.lateStores }, { on := 5, ground := Go.Ground.phase }, { on := 6, ground := Go.Ground.phase }, { on := 7, ground := Go.Ground.phase }, { on := 8, ground := Go.Ground.phase }, { on := 9, ground := Go.Ground.phase }, { on := 10, ground := Go.Ground.textOnly Go.Departure.lateStores }, { on := 11, ground := Go.Ground.textOnly Go.Departure.lateStores }, { on := 12, ground := Go.Ground.textOnly Go.Departure.lateStoresUnsure }, { on := 13, ground := Go.Ground.phase }], guard := none }) (v := ?_) rfl (by kernel_rfl) (by kernel_rfl) (by kernel_rfl) (fun _ _ _ h => h) (Or.inl ⟨by rfl, ?_⟩) (by assumption) ?_
            rotate_left
            · (intro w hSw; (try dsimp only at hSw); go_simp; try with_reducible rfl)
            rotate_left
            try simp only [Act.put, List.setIfInBounds_toArray, List.set_cons_zero, List.set_cons_succ]
            refine wpAnyH_ready (rs := [15]) (by kernel_rfl) (by simp) ?_
            refine AllReadyH.cons (o := { dst := none, op := Go.Op.store 33 (Go.Operand.tmp 127) (Go.Operand.tmp 122), type := 0, pos := "zsortanyfunc.go:422", after := #[{ on := 14, ground := Go.Ground.data }, { on := 9, ground := Go.Ground.data }, { on := 0, ground := Go.Ground.phase }, { on := 1, ground := Go.Ground.phase }, { on := 2, ground := Go.Ground.textOnly Go.Departure.lateStores }, { on := 3, ground := Go.Ground.textOnly Go.Departure.lateStores }, { on := 4, ground := Go.Ground.textOnly Go.Departure.lateStores }, { on := 5, ground := Go.Ground.phase }, { on := 6, ground := Go.Ground.phase }, { on := 7, ground := Go.Ground.phase }, { on := 8, ground := Go.Ground.phase }, { on := 9, ground := Go.Ground.phase }, { on := 10, ground := Go.Ground.textOnly Go.Departure.lateStores }, { on := 11, ground := Go.Ground.textOnly Go.Departure.lateStores }, { on := 12, ground := Go.Ground.textOnly Go.Departure.lateStoresUnsure }, { on := 13, ground := Go.Ground.phase }], guard := none }) rfl (fun K hK => ?_) AllReadyH.nil
            rw [if_pos (show Region.wanted _ _ = true from rfl)]
            refine wp_store_mid 33 (.tmp 127) (.tmp 122) rfl blk (off + k * 5) #[.int .i64 y.1.rid, .int .i64 y.1.nid, .slice y.1.la y.1.ln y.1.lc, .string y.1.key, .slice y.1.ra y.1.rn y.1.rc] rfl rfl hr1.out (by kernel_rfl) (by simp [Value.oneCell']) ?_
            rw [hwS]
            refine hK.out _ _ ?_ (fun hHeld => ?_)
            · trivial
            clear hK K
            try simp only [Act.put, List.setIfInBounds_toArray, List.set_cons_zero, List.set_cons_succ]
            refine wpAnyH_take (i := 16) (oi := { dst := some 128, op := Go.Op.indexAddr 36 (Go.Operand.tmp 115) (Go.Operand.tmp 117), type := 0, pos := "zsortanyfunc.go:422", after := #[{ on := 2, ground := Go.Ground.data }, { on := 4, ground := Go.Ground.data }, { on := 0, ground := Go.Ground.phase }, { on := 1, ground := Go.Ground.phase }, { on := 2, ground := Go.Ground.phase }, { on := 3, ground := Go.Ground.phase }, { on := 4, ground := Go.Ground.phase }, { on := 5, ground := Go.Ground.phase }, { on := 6, ground := Go.Ground.phase }, { on := 7, ground := Go.Ground.phase }, { on := 8, ground := Go.Ground.phase }, { on := 9, ground := Go.Ground.phase }, { on := 10, ground := Go.Ground.phase }, { on := 11, ground := Go.Ground.phase }, { on := 12, ground := Go.Ground.phase }, { on := 13, ground := Go.Ground.phase }, { on := 14, ground := Go.Ground.phase }, { on := 15, ground := Go.Ground.phase }], guard := none }) (v := ?_) rfl (by kernel_rfl) (by kernel_rfl) (by kernel_rfl) (fun _ _ _ h => h) (Or.inl ⟨by rfl, ?_⟩) (by assumption) ?_
            rotate_left
            · (intro w hSw; (try dsimp only at hSw); go_simp; try with_reducible rfl)
            rotate_left
            try simp only [Act.put, List.setIfInBounds_toArray, List.set_cons_zero, List.set_cons_succ]
            refine wpAnyH_ready (rs := [17]) (by kernel_rfl) (by simp) ?_
            refine AllReadyH.cons (o := { dst := none, op := Go.Op.store 33 (Go.Operand.tmp 128) (Go.Operand.tmp 126), type := 0, pos := "zsortanyfunc.go:422", after := #[{ on := 16, ground := Go.Ground.data }, { on := 13, ground := Go.Ground.data }, { on := 15, ground := Go.Ground.chain }, { on := 0, ground := Go.Ground.phase }, { on := 1, ground := Go.Ground.phase }, { on := 2, ground := Go.Ground.phase }, { on := 3, ground := Go.Ground.phase }, { on := 4, ground := Go.Ground.phase }, { on := 5, ground := Go.Ground.phase }, { on := 6, ground := Go.Ground.phase }, { on := 7, ground := Go.Ground.phase }, { on := 8, ground := Go.Ground.phase }, { on := 9, ground := Go.Ground.phase }, { on := 10, ground := Go.Ground.phase }, { on := 11, ground := Go.Ground.phase }, { on := 12, ground := Go.Ground.phase }, { on := 13, ground := Go.Ground.phase }, { on := 14, ground := Go.Ground.phase }, { on := 15, ground := Go.Ground.phase }], guard := none }) rfl (fun K hK => ?_) AllReadyH.nil
            rw [if_pos (show Region.wanted _ _ = true from rfl)]
            refine wp_store_mid 33 (.tmp 128) (.tmp 126) rfl blk (off + q * 5) #[.int .i64 x.1.rid, .int .i64 x.1.nid, .slice x.1.la x.1.ln x.1.lc, .string x.1.key, .slice x.1.ra x.1.rn x.1.rc] rfl rfl hr3.out (by kernel_rfl) (by simp [Value.oneCell']) ?_
            refine hK.out _ _ ?_ (fun hHeld => ?_)
            · trivial
            clear hK K
            try simp only [Act.put, List.setIfInBounds_toArray, List.set_cons_zero, List.set_cons_succ]
            refine wpAnyH_done (by kernel_rfl) ?_ _
            refine NoPanic.normal ?_
            clear hr1 hr3 hcx hcy hwS
            generalize wS.setCells blk (off + q * 5) (#[.int .i64 x.1.rid, .int .i64 x.1.nid, .slice x.1.la x.1.ln x.1.lc, .string x.1.key, .slice x.1.ra x.1.rn x.1.rc] : Array Value).toList = w3 at S3 ⊢
            clear e1 e2 r1 r2
            go_wp2
            go_roundg (q - i)
            case measure => omega
            case rel => exact ⟨q, _, by first | rfl | go_num | (congr 1; omega), by omega, by omega, by omega, S3, P2⟩
          refine AllReadyH.cons (o := { dst := some 126, op := Go.Op.load 33 (Go.Operand.tmp 125), type := 33, pos := "zsortanyfunc.go:422", after := #[{ on := 12, ground := Go.Ground.data }], guard := none }) rfl (fun K hK => ?_) AllReadyH.nil
          rw [if_pos (show Region.wanted _ _ = true from rfl)]
          refine wp_load_mid 33 (.tmp 125) rfl blk (off + k * 5) rfl [.int .i64 x.1.rid, .int .i64 x.1.nid, .slice x.1.la x.1.ln x.1.lc, .string x.1.key, .slice x.1.ra x.1.rn x.1.rc] _ hcx Tryd.underlying33 rfl (by kernel_rfl) ?_
          refine hK.out _ _ ?_ (fun hHeld => ?_)
          · trivial
          clear hK K
          try simp only [Act.put, List.setIfInBounds_toArray, List.set_cons_zero, List.set_cons_succ]
          refine wpAnyH_ready (rs := [9]) (by kernel_rfl) (by simp) ?_
          refine AllReadyH.cons (o := { dst := some 122, op := Go.Op.load 33 (Go.Operand.tmp 121), type := 33, pos := "zsortanyfunc.go:422", after := #[{ on := 8, ground := Go.Ground.data }], guard := none }) rfl (fun K hK => ?_) AllReadyH.nil
          rw [if_pos (show Region.wanted _ _ = true from rfl)]
          refine wp_load_mid 33 (.tmp 121) rfl blk (off + q * 5) rfl [.int .i64 y.1.rid, .int .i64 y.1.nid, .slice y.1.la y.1.ln y.1.lc, .string y.1.key, .slice y.1.ra y.1.rn y.1.rc] _ hcy Tryd.underlying33 rfl (by kernel_rfl) ?_
          refine hK.out _ _ ?_ (fun hHeld => ?_)
          · trivial
          clear hK K
          try simp only [Act.put, List.setIfInBounds_toArray, List.set_cons_zero, List.set_cons_succ]
          refine wpAnyH_take (i := 14) (oi := { dst := some 127, op := Go.Op.indexAddr 36 (Go.Operand.tmp 113) (Go.Operand.tmp 114), type := 0, pos := "zsortanyfunc.go:422", after := #[{ on := 0, ground := Go.Ground.data }, { on := 1, ground := Go.Ground.data }, { on := 0, ground := Go.Ground.phase }, { on := 1, ground := Go.Ground.phase }, { on := 2, ground := Go.Ground.textOnly Go.Departure.lateStores }, { on := 3, ground := Go.Ground.textOnly Go.Departure.lateStores }, { on := 4, ground := Go.Ground.textOnly Go.Departure.lateStores }, { on := 5, ground := Go.Ground.phase }, { on := 6, ground := Go.Ground.phase }, { on := 7, ground := Go.Ground.phase }, { on := 8, ground := Go.Ground.phase }, { on := 9, ground := Go.Ground.phase }, { on := 10, ground := Go.Ground.textOnly Go.Departure.lateStores }, { on := 11, ground := Go.Ground.textOnly Go.Departure.lateStores }, { on := 12, ground := Go.Ground.textOnly Go.Departure.lateStoresUnsure }, { on := 13, ground := Go.Ground.phase }], guard := none }) (v := ?_) rfl (by kernel_rfl) (by kernel_rfl) (by kernel_rfl) (fun _ _ _ h => h) (Or.inl ⟨by rfl, ?_⟩) (by assumption) ?_
          rotate_left
          · (intro w hSw; (try dsimp only at hSw); go_simp; try with_reducible rfl)
          rotate_left
          try simp only [Act.put, List.setIfInBounds_toArray, List.set_cons_zero, List.set_cons_succ]
          refine wpAnyH_ready (rs := [15]) (by kernel_rfl) (by simp) ?_
          refine AllReadyH.cons (o := { dst := none, op := Go.Op.store 33 (Go.Operand.tmp 127) (Go.Operand.tmp 122), type := 0, pos := "zsortanyfunc.go:422", after := #[{ on := 14, ground := Go.Ground.data }, { on := 9, ground := Go.Ground.data }, { on := 0, ground := Go.Ground.phase }, { on := 1, ground := Go.Ground.phase }, { on := 2, ground := Go.Ground.textOnly Go.Departure.lateStores }, { on := 3, ground := Go.Ground.textOnly Go.Departure.lateStores }, { on := 4, ground := Go.Ground.textOnly Go.Departure.lateStores }, { on := 5, ground := Go.Ground.phase }, { on := 6, ground := Go.Ground.phase }, { on := 7, ground := Go.Ground.phase }, { on := 8, ground := Go.Ground.phase }, { on := 9, ground := Go.Ground.phase }, { on := 10, ground := Go.Ground.textOnly Go.Departure.lateStores }, { on := 11, ground := Go.Ground.textOnly Go.Departure.lateStores }, { on := 12, ground := Go.Ground.textOnly Go.Departure.lateStoresUnsure }, { on := 13, ground := Go.Ground.phase }], guard := none }) rfl (fun K hK => ?_) AllReadyH.nil
          rw [if_pos (show Region.wanted _ _ = true from rfl)]
          refine wp_store_mid 33 (.tmp 127) (.tmp 122) rfl blk (off + k * 5) #[.int .i64 y.1.rid, .int .i64 y.1.nid, .slice y.1.la y.1.ln y.1.lc, .string y.1.key, .slice y.1.ra y.1.rn y.1.rc] rfl rfl hr1.out (by kernel_rfl) (by simp [Value.oneCell']) ?_
          rw [hwS]
          refine hK.out _ _ ?_ (fun hHeld => ?_)
          · trivial
          clear hK K
          try simp only [Act.put, List.setIfInBounds_toArray, List.set_cons_zero, List.set_cons_succ]
          refine wpAnyH_take (i := 16) (oi := { dst := some 128, op := Go.Op.indexAddr 36 (Go.Operand.tmp 115) (Go.Operand.tmp 117), type := 0, pos := "zsortanyfunc.go:422", after := #[{ on := 2, ground := Go.Ground.data }, { on := 4, ground := Go.Ground.data }, { on := 0, ground := Go.Ground.phase }, { on := 1, ground := Go.Ground.phase }, { on := 2, ground := Go.Ground.phase }, { on := 3, ground := Go.Ground.phase }, { on := 4, ground := Go.Ground.phase }, { on := 5, ground := Go.Ground.phase }, { on := 6, ground := Go.Ground.phase }, { on := 7, ground := Go.Ground.phase }, { on := 8, ground := Go.Ground.phase }, { on := 9, ground := Go.Ground.phase }, { on := 10, ground := Go.Ground.phase }, { on := 11, ground := Go.Ground.phase }, { on := 12, ground := Go.Ground.phase }, { on := 13, ground := Go.Ground.phase }, { on := 14, ground := Go.Ground.phase }, { on := 15, ground := Go.Ground.phase }], guard := none }) (v := ?_) rfl (by kernel_rfl) (by kernel_rfl) (by kernel_rfl) (fun _ _ _ h => h) (Or.inl ⟨by rfl, ?_⟩) (by assumption) ?_
          rotate_left
          · (intro w hSw; (try dsimp only at hSw); go_simp; try with_reducible rfl)
          rotate_left
          try simp only [Act.put, List.setIfInBounds_toArray, List.set_cons_zero, List.set_cons_succ]
          refine wpAnyH_ready (rs := [17]) (by kernel_rfl) (by simp) ?_
          refine AllReadyH.cons (o := { dst := none, op := Go.Op.store 33 (Go.Operand.tmp 128) (Go.Operand.tmp 126), type := 0, pos := "zsortanyfunc.go:422", after := #[{ on := 16, ground := Go.Ground.data }, { on := 13, ground := Go.Ground.data }, { on := 15, ground := Go.Ground.chain }, { on := 0, ground := Go.Ground.phase }, { on := 1, ground := Go.Ground.phase }, { on := 2, ground := Go.Ground.phase }, { on := 3, ground := Go.Ground.phase }, { on := 4, ground := Go.Ground.phase }, { on := 5, ground := Go.Ground.phase }, { on := 6, ground := Go.Ground.phase }, { on := 7, ground := Go.Ground.phase }, { on := 8, ground := Go.Ground.phase }, { on := 9, ground := Go.Ground.phase }, { on := 10, ground := Go.Ground.phase }, { on := 11, ground := Go.Ground.phase }, { on := 12, ground := Go.Ground.phase }, { on := 13, ground := Go.Ground.phase }, { on := 14, ground := Go.Ground.phase }, { on := 15, ground := Go.Ground.phase }], guard := none }) rfl (fun K hK => ?_) AllReadyH.nil
          rw [if_pos (show Region.wanted _ _ = true from rfl)]
          refine wp_store_mid 33 (.tmp 128) (.tmp 126) rfl blk (off + q * 5) #[.int .i64 x.1.rid, .int .i64 x.1.nid, .slice x.1.la x.1.ln x.1.lc, .string x.1.key, .slice x.1.ra x.1.rn x.1.rc] rfl rfl hr3.out (by kernel_rfl) (by simp [Value.oneCell']) ?_
          refine hK.out _ _ ?_ (fun hHeld => ?_)
          · trivial
          clear hK K
          try simp only [Act.put, List.setIfInBounds_toArray, List.set_cons_zero, List.set_cons_succ]
          refine wpAnyH_done (by kernel_rfl) ?_ _
          refine NoPanic.normal ?_
          clear hr1 hr3 hcx hcy hwS
          generalize wS.setCells blk (off + q * 5) (#[.int .i64 x.1.rid, .int .i64 x.1.nid, .slice x.1.la x.1.ln x.1.lc, .string x.1.key, .slice x.1.ra x.1.rn x.1.rc] : Array Value).toList = w3 at S3 ⊢
          clear e1 e2 r1 r2
          go_wp2
          go_roundg (q - i)
          case measure => omega
          case rel => exact ⟨q, _, by first | rfl | go_num | (congr 1; omega), by omega, by omega, by omega, S3, P2⟩
        · have hltz : ¬ (i : Int) < (k : Int) := by omega
          go_wp2
          have hki' : k = i := by omega
          rw [hki'] at P1
          have HMM := HM.out
          rw [HA.out] at HMM
          refine bodyPost_ret (v := .tuple #[]) (results_none rfl _ _ _) rfl ?_
          refine ⟨rfl, dk, S1.out, ?_⟩
          rw [HA.out]
          exact merged_last hc HMM (by omega) (by omega) P1.out (fun q h1 h2 => by have := L1.out q h1 h2; omega) G2.out
end Go.Proofs.YtdpllfgnppeneaaDoor
