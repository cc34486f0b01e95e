import Derived.Test.YthcabnfcgjnlnaaGreatDoorK10
import Derived.Deep.LoopGhost
import Derived.BigRegion
import Derived.Deep.RegionHeld3
import Derived.Shelf.Abstract
/-
  THE SORT OF A ROW OF RECORDS (langdoc/api.Note): insertion sort; the stable sort of fewer than 20.
-/
namespace Go.Proofs.YthcabnfcgjnlnaaGreatDoor
open Go.RowKit Srt Col
set_option linter.unusedVariables false
set_option linter.unusedSimpArgs false

/-- What is asked of the comparison: in every world that the sort passes through, called with two of the records, it answers c; it lays new blocks at most. -/
def CmpOKN (g : Nat) (cb : Array Value) (c : Nt → Nt → Int) (Q : Nt → Prop) (w0 : World) (blk off n : Nat) : Prop :=
  ∀ (W : World) (d : Nat → Tag Nt), SK (fun p : Tag Nt => encN p.1) 7 w0 blk off n d W → ∀ x y : Nt, Q x → Q y → ∀ p : BW W,
    Calls Tryz.prog g (#[.agg #[.int .i64 x.nid, .int .i64 x.tier, .int .i64 x.parent, .int .i64 x.at1, .int .i64 x.at2, .int .i64 x.rank, .string x.text], .agg #[.int .i64 y.nid, .int .i64 y.tier, .int .i64 y.parent, .int .i64 y.at1, .int .i64 y.at2, .int .i64 y.rank, .string y.text]] ++ cb) p.at_ fun e w' => e = .returned (.int .i64 (c x y)) ∧ Below p.at_.heap.size p.at_ w'
theorem encNt_len (p : Tag Nt) : ((fun p : Tag Nt => encN p.1) p).length = 7 := rfl
theorem sk_atN {w0 W : World} {blk off n j i : Nat} {d : Nat → Tag Nt} {x : Tag Nt} {v : Value} (h : SK (fun p : Tag Nt => encN p.1) 7 w0 blk off n d W) (hj : j < n) (hx : d j = x) (hv : (encN x.1)[i]? = some v) : W.cell? ⟨blk, off + j * 7 + i, none⟩ = some v := by
  have := h.cells j hj i v (by rw [hx]; exact hv)
  exact this
theorem perm_allN {Q : Nt → Prop} {a b n : Nat} {d d' : Nat → Tag Nt} (h : PermOn a b d d') (hb : b ≤ n) (hq : ∀ j, j < n → Q (d j).1) : ∀ j, j < n → Q (d' j).1 := by
  intro j hj
  by_cases e : a ≤ j ∧ j < b
  · obtain ⟨k, _, k2, ek⟩ := h.mem e.1 e.2
    rw [ek]; exact hq k (by omega)
  · rw [h.out j (by omega)]; exact hq j hj

set_option maxHeartbeats 16000000 in
set_option maxRecDepth 1000000 in
theorem insN_any (c : Nt → Nt → Int) (hc : IsCmp c) (Q : Nt → Prop) (g : Nat) (cb : Array Value) (blk off cap n a b : Nat) (d : Nat → Tag Nt) (w0 w : World)
    (eg : ∀ args w, (callFunc g args).run Tryz.prog w = .ok (.enter g args) w) (hcmp : CmpOKN g cb c Q w0 blk off n) (hQ : ∀ j, j < n → Q (d j).1) (S : SK (fun p : Tag Nt => encN p.1) 7 w0 blk off n d w)
    (hab : a ≤ b) (hb : b ≤ n) (hsz : n < 4611686018427387904) (hy : ∀ p q, a ≤ p → p < q → q < b → (d p).2 < (d q).2) :
    Calls Tryz.prog 133 #[.slice (some ⟨blk, off, none⟩) n cap, .int .i64 a, .int .i64 b, .func (.func g) #[] cb] w fun e w' => e = .returned (.tuple #[]) ∧
      ∃ d', SK (fun p : Tag Nt => encN p.1) 7 w0 blk off n d' w' ∧ PermOn a b d d' ∧ SortedOn c d' a b := by
  have HC := Lib.hid hcmp; clear hcmp
  have S0 := Lib.hid S; clear S
  have HQ := Lib.hid hQ; clear hQ
  have HY := Lib.hid hy; clear hy
  go_enter Tryz.func133, Tryz.ntmps133
  go_wp2
  go_loopg [8] (b - a) (fun g1 vi wr => ∃ (i : Nat) (dk : Nat → Tag Nt), vi = .int .i64 i ∧ a < i ∧ i ≤ b + 1 ∧ b + 1 - i ≤ g1 + 1 ∧ Hid (SK (fun p : Tag Nt => encN p.1) 7 w0 blk off n dk wr) ∧ Hid (PermOn a (min i b) d dk) ∧ Hid (SortedOn c dk a (min i b)))
  case atStart => exact ⟨a + 1, d, by go_num, by omega, by omega, by omega, S0, PermOn.refl _ _ _, fun p q h1 h2 h3 => by omega⟩
  case round =>
    clear S0
    obtain ⟨i, dk, rfl, hai, hib, hg1, S1, P1, T1⟩ := hrel
    by_cases hlt : i < b
    · have hltz : (i : Int) < (b : Int) := by omega
      have hmin : min i b = i := by omega
      rw [hmin] at P1 T1
      clear hmin
      have I0 : Hid (InsAt c dk dk a i i) := InsAt.start (PermOn.refl _ _ _) T1.out (fun p p1 p2 => by
        obtain ⟨k, k1, k2, ek⟩ := P1.out.mem p1 p2
        rw [ek, P1.out.out i (by omega)]
        exact HY.out k i k1 k2 hlt)
      have P2 : Hid (PermOn a (i + 1) d dk) := P1.out.wider (Nat.le_refl _) (by omega) (by omega)
      clear P1 T1
      go_wp2
      go_loopg [9] i (fun g2 vj wr2 => ∃ (j : Nat) (dj : Nat → Tag Nt), vj = .int .i64 j ∧ a ≤ j ∧ j ≤ i ∧ j ≤ g2 ∧ Hid (SK (fun p : Tag Nt => encN p.1) 7 w0 blk off n dj wr2) ∧ Hid (InsAt c dk dj a i j))
      case atStart => exact ⟨i, dk, rfl, by omega, Nat.le_refl _, Nat.le_refl _, S1, I0⟩
      case round =>
        clear S1 I0
        obtain ⟨j, dj, rfl, haj, hji, hg2, SJ, HI⟩ := hrel
        have HQJ : Hid (∀ k, k < n → Q (dj k).1) := (perm_allN (P2.out.trans HI.out.perm) (by omega) HQ.out)
        have OUT : Hid ((j ≤ a ∨ ¬ c (dj j).1 (dj (j - 1)).1 < 0) → PermOn a (min (i + 1) b) d dj ∧ SortedOn c dj a (min (i + 1) b)) := fun hs => by
          rw [show min (i + 1) b = i + 1 by omega]
          exact ⟨P2.out.trans HI.out.perm, HI.out.stop hc hji hs⟩
        by_cases hja : a < j
        · have hjaz : (a : Int) < (j : Int) := by omega
          obtain ⟨jp, hjp⟩ : ∃ q, Hid (q + 1 = j) := ⟨j - 1, show _ = _ by omega⟩
          have hj1 : Hid (j - 1 = jp) := show _ = _ by have := hjp.out; omega
          have zjp : (j : Int) = (jp : Int) + 1 := by have := hjp.out; omega
          obtain ⟨x, hx⟩ : ∃ x, Hid (dj j = x) := ⟨_, rfl⟩
          obtain ⟨y, hy⟩ : ∃ y, Hid (dj jp = y) := ⟨_, rfl⟩
          have HOUT : Hid (¬ c x.1 y.1 < 0 → PermOn a (min (i + 1) b) d dj ∧ SortedOn c dj a (min (i + 1) b)) := fun h => OUT.out (Or.inr (by rw [hj1.out, hx.out, hy.out]; exact h))
          have HSTEP : Hid (c x.1 y.1 < 0 → InsAt c dk (swpF dj j jp) a i jp) := fun h => by
            have := HI.out.step hji hja (by rw [hj1.out, hx.out, hy.out]; exact h)
            rw [hj1.out] at this
            exact this
          clear OUT
          have hjn : j < n := by omega
          have hjpn : jp < n := by have := hjp.out; omega
          have l10 : ∀ p : BW wr, p.at_.cell? ⟨blk, off + j * 7, none⟩ = some (.int .i64 x.1.nid) := fun p => sk_atN (i := 0) (SJ.out.below p.bel) hjn hx.out rfl
          have l20 : ∀ p : BW wr, p.at_.cell? ⟨blk, off + jp * 7, none⟩ = some (.int .i64 y.1.nid) := fun p => sk_atN (i := 0) (SJ.out.below p.bel) hjpn hy.out rfl
          have l11 : ∀ p : BW wr, p.at_.cell? ⟨blk, off + j * 7 + 1, none⟩ = some (.int .i64 x.1.tier) := fun p => sk_atN (i := 1) (SJ.out.below p.bel) hjn hx.out rfl
          have l21 : ∀ p : BW wr, p.at_.cell? ⟨blk, off + jp * 7 + 1, none⟩ = some (.int .i64 y.1.tier) := fun p => sk_atN (i := 1) (SJ.out.below p.bel) hjpn hy.out rfl
          have l12 : ∀ p : BW wr, p.at_.cell? ⟨blk, off + j * 7 + 2, none⟩ = some (.int .i64 x.1.parent) := fun p => sk_atN (i := 2) (SJ.out.below p.bel) hjn hx.out rfl
          have l22 : ∀ p : BW wr, p.at_.cell? ⟨blk, off + jp * 7 + 2, none⟩ = some (.int .i64 y.1.parent) := fun p => sk_atN (i := 2) (SJ.out.below p.bel) hjpn hy.out rfl
          have l13 : ∀ p : BW wr, p.at_.cell? ⟨blk, off + j * 7 + 3, none⟩ = some (.int .i64 x.1.at1) := fun p => sk_atN (i := 3) (SJ.out.below p.bel) hjn hx.out rfl
          have l23 : ∀ p : BW wr, p.at_.cell? ⟨blk, off + jp * 7 + 3, none⟩ = some (.int .i64 y.1.at1) := fun p => sk_atN (i := 3) (SJ.out.below p.bel) hjpn hy.out rfl
          have l14 : ∀ p : BW wr, p.at_.cell? ⟨blk, off + j * 7 + 4, none⟩ = some (.int .i64 x.1.at2) := fun p => sk_atN (i := 4) (SJ.out.below p.bel) hjn hx.out rfl
          have l24 : ∀ p : BW wr, p.at_.cell? ⟨blk, off + jp * 7 + 4, none⟩ = some (.int .i64 y.1.at2) := fun p => sk_atN (i := 4) (SJ.out.below p.bel) hjpn hy.out rfl
          have l15 : ∀ p : BW wr, p.at_.cell? ⟨blk, off + j * 7 + 5, none⟩ = some (.int .i64 x.1.rank) := fun p => sk_atN (i := 5) (SJ.out.below p.bel) hjn hx.out rfl
          have l25 : ∀ p : BW wr, p.at_.cell? ⟨blk, off + jp * 7 + 5, none⟩ = some (.int .i64 y.1.rank) := fun p => sk_atN (i := 5) (SJ.out.below p.bel) hjpn hy.out rfl
          have l16 : ∀ p : BW wr, p.at_.cell? ⟨blk, off + j * 7 + 6, none⟩ = some (.string x.1.text) := fun p => sk_atN (i := 6) (SJ.out.below p.bel) hjn hx.out rfl
          have l26 : ∀ p : BW wr, p.at_.cell? ⟨blk, off + jp * 7 + 6, none⟩ = some (.string y.1.text) := fun p => sk_atN (i := 6) (SJ.out.below p.bel) hjpn hy.out rfl
          have hcall := Lib.hid (HC.out wr dj SJ.out x.1 y.1 (by rw [← hx.out]; exact HQJ.out _ hjn) (by rw [← hy.out]; exact HQJ.out _ hjpn))
          have ea : ((jp : Int) + 1).toNat = j := by omega
          have ec : ((jp : Int)).toNat = jp := by omega
          have pa : (0 : Int) ≤ (jp : Int) + 1 := by omega
          have pc : (0 : Int) ≤ (jp : Int) := by omega
          have ba : (jp : Int) + 1 < (n : Int) := by omega
          have bc : (jp : Int) < (n : Int) := by omega
          have ra : IntKind.i64.wrap ((jp : Int) + 1) = (jp : Int) + 1 := by rw [IntKind.wrap_i64]; omega
          have rc : IntKind.i64.wrap (jp : Int) = (jp : Int) := by rw [IntKind.wrap_i64]; omega
          have hjad : decide ((jp : Int) + 1 > (a : Int)) = true := decide_eq_true (by omega)
          have hjaz' : (a : Int) < (jp : Int) + 1 := by omega
          by_cases hlv : c x.1 y.1 < 0
          · have hd : decide (c x.1 y.1 < 0) = true := decide_eq_true hlv
            have HI2 := Lib.hid (HSTEP.out hlv)
            clear HOUT HSTEP
            go_wp2_with fail
            refine wp_region_quiet_below (by kernel_rfl) (by kernel_rfl) ?_
            repeat (go_big_quiet_step ((exact below_quiet (hcall.out _))))
            refine wpQuiet_nil ?_
            intro w2 hw'
            have hb2 := bw_below hw'
            clear hw'
            have S2 : Hid (SK (fun p : Tag Nt => encN p.1) 7 w0 blk off n dj w2) := SJ.out.below hb2
            clear l10 l20 l11 l21 l12 l22 l13 l23 l14 l24 l15 l25 l16 l26 hcall SJ hb2
            have S2d : Hid (SK (fun p : Tag Nt => encN p.1) 7 w0 blk off n dj w2.drew) := S2.out.drew
            obtain ⟨wd, hwd⟩ : ∃ wd, w2.drew = wd := ⟨_, rfl⟩
            rw [hwd] at S2d
            clear S2
            have hr1 := Lib.hid (S2d.out.room hjn)
            have hr2 := Lib.hid (S2d.out.room hjpn)
            obtain ⟨wS, hwS⟩ : ∃ wS, wd.setCells blk (off + j * 7) (#[.int .i64 y.1.nid, .int .i64 y.1.tier, .int .i64 y.1.parent, .int .i64 y.1.at1, .int .i64 y.1.at2, .int .i64 y.1.rank, .string y.1.text] : Array Value).toList = wS := ⟨_, rfl⟩
            have hr3 : Hid (wS.there blk (off + jp * 7) 7) := by rw [← hwS]; exact World.there_setCells hr2.out _ _ _
            have hcx : wd.rangeAt blk (off + j * 7) [.int .i64 x.1.nid, .int .i64 x.1.tier, .int .i64 x.1.parent, .int .i64 x.1.at1, .int .i64 x.1.at2, .int .i64 x.1.rank, .string x.1.text] := by have := S2d.out.cells j hjn; rw [hx.out] at this; exact this
            have hcy : wd.rangeAt blk (off + jp * 7) [.int .i64 y.1.nid, .int .i64 y.1.tier, .int .i64 y.1.parent, .int .i64 y.1.at1, .int .i64 y.1.at2, .int .i64 y.1.rank, .string y.1.text] := by have := S2d.out.cells jp hjpn; rw [hy.out] at this; exact this
            have S3 : Hid (SK (fun p : Tag Nt => encN p.1) 7 w0 blk off n (swpF dj j jp) (wS.setCells blk (off + jp * 7) (#[.int .i64 x.1.nid, .int .i64 x.1.tier, .int .i64 x.1.parent, .int .i64 x.1.at1, .int .i64 x.1.at2, .int .i64 x.1.rank, .string x.1.text] : Array Value).toList)) := by
              rw [← hwS]
              have := S2d.out.swapped encNt_len (i := j) (j := jp) hjn hjpn
              rw [hx.out, hy.out] at this
              exact this
            clear S2d hr2
            go_wp2_with fail
            refine wp_region_noPanic ?_
            refine wp_region_held_drew (S := fun _ => True) (by kernel_rfl) ?_ (fun hHeld => ?_)
            · trivial
            rw [hwd]
            clear hwd
            refine wpAnyH_take (i := 0) (oi := { dst := some 37, op := Go.Op.move (Go.Operand.tmp 0), type := 36, pos := "zsortanyfunc.go:13", after := #[], guard := none }) (v := ?_) rfl (by kernel_rfl) (by kernel_rfl) (by kernel_rfl) (fun _ _ _ h => h) (Or.inl ⟨by rfl, ?_⟩) (by assumption) ?_
            rotate_left
            · (intro w hSw; (try dsimp only at hSw); go_simp; try with_reducible rfl)
            rotate_left
            try simp only [Act.put, List.setIfInBounds_toArray, List.set_cons_zero, List.set_cons_succ]
            refine wpAnyH_take (i := 1) (oi := { dst := some 38, op := Go.Op.move (Go.Operand.tmp 9), type := 3, pos := "zsortanyfunc.go:13", after := #[], guard := none }) (v := ?_) rfl (by kernel_rfl) (by kernel_rfl) (by kernel_rfl) (fun _ _ _ h => h) (Or.inl ⟨by rfl, ?_⟩) (by assumption) ?_
            rotate_left
            · (intro w hSw; (try dsimp only at hSw); go_simp; try with_reducible rfl)
            rotate_left
            try simp only [Act.put, List.setIfInBounds_toArray, List.set_cons_zero, List.set_cons_succ]
            refine wpAnyH_take (i := 2) (oi := { dst := some 39, op := Go.Op.move (Go.Operand.tmp 0), type := 36, pos := "zsortanyfunc.go:13", after := #[{ on := 15, ground := Go.Ground.gcOnly Go.Departure.lateStores }], guard := none }) (v := ?_) rfl (by kernel_rfl) (by kernel_rfl) (by kernel_rfl) (fun _ _ _ h => h) (Or.inl ⟨by rfl, ?_⟩) (by assumption) ?_
            rotate_left
            · (intro w hSw; (try dsimp only at hSw); go_simp; try with_reducible rfl)
            rotate_left
            try simp only [Act.put, List.setIfInBounds_toArray, List.set_cons_zero, List.set_cons_succ]
            refine wpAnyH_take (i := 3) (oi := { dst := some 40, op := Go.Op.move (Go.Operand.tmp 9), type := 3, pos := "zsortanyfunc.go:13", after := #[{ on := 15, ground := Go.Ground.gcOnly Go.Departure.lateStores }], guard := none }) (v := ?_) rfl (by kernel_rfl) (by kernel_rfl) (by kernel_rfl) (fun _ _ _ h => h) (Or.inl ⟨by rfl, ?_⟩) (by assumption) ?_
            rotate_left
            · (intro w hSw; (try dsimp only at hSw); go_simp; try with_reducible rfl)
            rotate_left
            try simp only [Act.put, List.setIfInBounds_toArray, List.set_cons_zero, List.set_cons_succ]
            refine wpAnyH_take (i := 4) (oi := { dst := some 41, op := Go.Op.binOp Go.BinOp.sub 3 (Go.Operand.tmp 40) (Go.Operand.const (Go.Value.int Go.IntKind.i64 1)) 3, type := 3, pos := "zsortanyfunc.go:13", after := #[{ on := 3, ground := Go.Ground.data }, { on := 15, ground := Go.Ground.gcOnly Go.Departure.lateStores }], guard := none }) (v := ?_) rfl (by kernel_rfl) (by kernel_rfl) (by kernel_rfl) (fun _ _ _ h => h) (Or.inl ⟨by rfl, ?_⟩) (by assumption) ?_
            rotate_left
            · (intro w hSw; (try dsimp only at hSw); go_simp; try with_reducible rfl)
            rotate_left
            try simp only [Act.put, List.setIfInBounds_toArray, List.set_cons_zero, List.set_cons_succ]
            refine wpAnyH_take (i := 5) (oi := { dst := some 42, op := Go.Op.move (Go.Operand.tmp 0), type := 36, pos := "zsortanyfunc.go:13", after := #[], guard := none }) (v := ?_) rfl (by kernel_rfl) (by kernel_rfl) (by kernel_rfl) (fun _ _ _ h => h) (Or.inl ⟨by rfl, ?_⟩) (by assumption) ?_
            rotate_left
            · (intro w hSw; (try dsimp only at hSw); go_simp; try with_reducible rfl)
            rotate_left
            try simp only [Act.put, List.setIfInBounds_toArray, List.set_cons_zero, List.set_cons_succ]
            refine wpAnyH_take (i := 6) (oi := { dst := some 43, op := Go.Op.move (Go.Operand.tmp 9), type := 3, pos := "zsortanyfunc.go:13", after := #[], guard := none }) (v := ?_) rfl (by kernel_rfl) (by kernel_rfl) (by kernel_rfl) (fun _ _ _ h => h) (Or.inl ⟨by rfl, ?_⟩) (by assumption) ?_
            rotate_left
            · (intro w hSw; (try dsimp only at hSw); go_simp; try with_reducible rfl)
            rotate_left
            try simp only [Act.put, List.setIfInBounds_toArray, List.set_cons_zero, List.set_cons_succ]
            refine wpAnyH_take (i := 7) (oi := { dst := some 44, op := Go.Op.binOp Go.BinOp.sub 3 (Go.Operand.tmp 43) (Go.Operand.const (Go.Value.int Go.IntKind.i64 1)) 3, type := 3, pos := "zsortanyfunc.go:13", after := #[{ on := 6, ground := Go.Ground.data }], guard := none }) (v := ?_) rfl (by kernel_rfl) (by kernel_rfl) (by kernel_rfl) (fun _ _ _ h => h) (Or.inl ⟨by rfl, ?_⟩) (by assumption) ?_
            rotate_left
            · (intro w hSw; (try dsimp only at hSw); go_simp; try with_reducible rfl)
            rotate_left
            try simp only [Act.put, List.setIfInBounds_toArray, List.set_cons_zero, List.set_cons_succ]
            refine wpAnyH_take (i := 8) (oi := { dst := some 45, op := Go.Op.indexAddr 36 (Go.Operand.tmp 42) (Go.Operand.tmp 44), type := 0, pos := "zsortanyfunc.go:13", after := #[{ on := 5, ground := Go.Ground.data }, { on := 7, ground := Go.Ground.data }], guard := none }) (v := ?_) rfl (by kernel_rfl) (by kernel_rfl) (by kernel_rfl) (fun _ _ _ h => h) (Or.inl ⟨by rfl, ?_⟩) (by assumption) ?_
            rotate_left
            · (intro w hSw; (try dsimp only at hSw); go_simp; try with_reducible rfl)
            rotate_left
            try simp only [Act.put, List.setIfInBounds_toArray, List.set_cons_zero, List.set_cons_succ]
            refine wpAnyH_take (i := 10) (oi := { dst := some 47, op := Go.Op.move (Go.Operand.tmp 0), type := 36, pos := "zsortanyfunc.go:13", after := #[], guard := none }) (v := ?_) rfl (by kernel_rfl) (by kernel_rfl) (by kernel_rfl) (fun _ _ _ h => h) (Or.inl ⟨by rfl, ?_⟩) (by assumption) ?_
            rotate_left
            · (intro w hSw; (try dsimp only at hSw); go_simp; try with_reducible rfl)
            rotate_left
            try simp only [Act.put, List.setIfInBounds_toArray, List.set_cons_zero, List.set_cons_succ]
            refine wpAnyH_take (i := 11) (oi := { dst := some 48, op := Go.Op.move (Go.Operand.tmp 9), type := 3, pos := "zsortanyfunc.go:13", after := #[], guard := none }) (v := ?_) rfl (by kernel_rfl) (by kernel_rfl) (by kernel_rfl) (fun _ _ _ h => h) (Or.inl ⟨by rfl, ?_⟩) (by assumption) ?_
            rotate_left
            · (intro w hSw; (try dsimp only at hSw); go_simp; try with_reducible rfl)
            rotate_left
            try simp only [Act.put, List.setIfInBounds_toArray, List.set_cons_zero, List.set_cons_succ]
            refine wpAnyH_take (i := 12) (oi := { dst := some 49, op := Go.Op.indexAddr 36 (Go.Operand.tmp 47) (Go.Operand.tmp 48), type := 0, pos := "zsortanyfunc.go:13", after := #[{ on := 10, ground := Go.Ground.data }, { on := 11, ground := Go.Ground.data }], guard := none }) (v := ?_) rfl (by kernel_rfl) (by kernel_rfl) (by kernel_rfl) (fun _ _ _ h => h) (Or.inl ⟨by rfl, ?_⟩) (by assumption) ?_
            rotate_left
            · (intro w hSw; (try dsimp only at hSw); go_simp; try with_reducible rfl)
            rotate_left
            try simp only [Act.put, List.setIfInBounds_toArray, List.set_cons_zero, List.set_cons_succ]
            refine wpAnyH_ready (rs := [9, 13]) (by kernel_rfl) (by simp) ?_
            refine AllReadyH.cons (o := { dst := some 46, op := Go.Op.load 58 (Go.Operand.tmp 45), type := 58, pos := "zsortanyfunc.go:13", after := #[{ on := 8, ground := Go.Ground.data }], guard := none }) rfl (fun K hK => ?_) ?_
            · rw [if_pos (show Region.wanted _ _ = true from rfl)]
              refine wp_load_mid 58 (.tmp 45) rfl blk (off + jp * 7) rfl [.int .i64 y.1.nid, .int .i64 y.1.tier, .int .i64 y.1.parent, .int .i64 y.1.at1, .int .i64 y.1.at2, .int .i64 y.1.rank, .string y.1.text] _ hcy Tryz.underlying58 rfl (by kernel_rfl) ?_
              refine hK.out _ _ ?_ (fun hHeld => ?_)
              · trivial
              clear hK K
              try simp only [Act.put, List.setIfInBounds_toArray, List.set_cons_zero, List.set_cons_succ]
              refine wpAnyH_ready (rs := [13]) (by kernel_rfl) (by simp) ?_
              refine AllReadyH.cons (o := { dst := some 50, op := Go.Op.load 58 (Go.Operand.tmp 49), type := 58, pos := "zsortanyfunc.go:13", after := #[{ on := 12, ground := Go.Ground.data }], guard := none }) rfl (fun K hK => ?_) AllReadyH.nil
              rw [if_pos (show Region.wanted _ _ = true from rfl)]
              refine wp_load_mid 58 (.tmp 49) rfl blk (off + j * 7) rfl [.int .i64 x.1.nid, .int .i64 x.1.tier, .int .i64 x.1.parent, .int .i64 x.1.at1, .int .i64 x.1.at2, .int .i64 x.1.rank, .string x.1.text] _ hcx Tryz.underlying58 rfl (by kernel_rfl) ?_
              refine hK.out _ _ ?_ (fun hHeld => ?_)
              · trivial
              clear hK K
              try simp only [Act.put, List.setIfInBounds_toArray, List.set_cons_zero, List.set_cons_succ]
              refine wpAnyH_take (i := 14) (oi := { dst := some 51, op := Go.Op.indexAddr 36 (Go.Operand.tmp 37) (Go.Operand.tmp 38), type := 0, pos := "zsortanyfunc.go:13", after := #[{ on := 0, ground := Go.Ground.data }, { on := 1, ground := Go.Ground.data }, { on := 0, ground := Go.Ground.phase }, { on := 1, ground := Go.Ground.phase }, { on := 2, ground := Go.Ground.textOnly Go.Departure.lateStores }, { on := 3, ground := Go.Ground.textOnly Go.Departure.lateStores }, { on := 4, ground := Go.Ground.textOnly Go.Departure.lateStores }, { on := 5, ground := Go.Ground.phase }, { on := 6, ground := Go.Ground.phase }, { on := 7, ground := Go.Ground.phase }, { on := 8, ground := Go.Ground.phase }, { on := 9, ground := Go.Ground.phase }, { on := 10, ground := Go.Ground.textOnly Go.Departure.lateStores }, { on := 11, ground := Go.Ground.textOnly Go.Departure.lateStores }, { on := 12, ground := Go.Ground.textOnly Go.Departure.lateStoresUnsure }, { on := 13, ground := Go.Ground.phase }], guard := none }) (v := ?_) rfl (by kernel_rfl) (by kernel_rfl) (by kernel_rfl) (fun _ _ _ h => h) (Or.inl ⟨by rfl, ?_⟩) (by assumption) ?_
              rotate_left
              · (intro w hSw; (try dsimp only at hSw); go_simp; try with_reducible rfl)
              rotate_left
              try simp only [Act.put, List.setIfInBounds_toArray, List.set_cons_zero, List.set_cons_succ]
              refine wpAnyH_ready (rs := [15]) (by kernel_rfl) (by simp) ?_
              refine AllReadyH.cons (o := { dst := none, op := Go.Op.store 58 (Go.Operand.tmp 51) (Go.Operand.tmp 46), type := 0, pos := "zsortanyfunc.go:13", after := #[{ on := 14, ground := Go.Ground.data }, { on := 9, ground := Go.Ground.data }, { on := 0, ground := Go.Ground.phase }, { on := 1, ground := Go.Ground.phase }, { on := 2, ground := Go.Ground.textOnly Go.Departure.lateStores }, { on := 3, ground := Go.Ground.textOnly Go.Departure.lateStores }, { on := 4, ground := Go.Ground.textOnly Go.Departure.lateStores }, { on := 5, ground := Go.Ground.phase }, { on := 6, ground := Go.Ground.phase }, { on := 7, ground := Go.Ground.phase }, { on := 8, ground := Go.Ground.phase }, { on := 9, ground := Go.Ground.phase }, { on := 10, ground := Go.Ground.textOnly Go.Departure.lateStores }, { on := 11, ground := Go.Ground.textOnly Go.Departure.lateStores }, { on := 12, ground := Go.Ground.textOnly Go.Departure.lateStoresUnsure }, { on := 13, ground := Go.Ground.phase }], guard := none }) rfl (fun K hK => ?_) AllReadyH.nil
              rw [if_pos (show Region.wanted _ _ = true from rfl)]
              refine wp_store_mid 58 (.tmp 51) (.tmp 46) rfl blk (off + j * 7) #[.int .i64 y.1.nid, .int .i64 y.1.tier, .int .i64 y.1.parent, .int .i64 y.1.at1, .int .i64 y.1.at2, .int .i64 y.1.rank, .string y.1.text] rfl rfl hr1.out (by kernel_rfl) (by simp [Value.oneCell']) ?_
              rw [hwS]
              refine hK.out _ _ ?_ (fun hHeld => ?_)
              · trivial
              clear hK K
              try simp only [Act.put, List.setIfInBounds_toArray, List.set_cons_zero, List.set_cons_succ]
              refine wpAnyH_take (i := 16) (oi := { dst := some 52, op := Go.Op.indexAddr 36 (Go.Operand.tmp 39) (Go.Operand.tmp 41), type := 0, pos := "zsortanyfunc.go:13", after := #[{ on := 2, ground := Go.Ground.data }, { on := 4, ground := Go.Ground.data }, { on := 0, ground := Go.Ground.phase }, { on := 1, ground := Go.Ground.phase }, { on := 2, ground := Go.Ground.phase }, { on := 3, ground := Go.Ground.phase }, { on := 4, ground := Go.Ground.phase }, { on := 5, ground := Go.Ground.phase }, { on := 6, ground := Go.Ground.phase }, { on := 7, ground := Go.Ground.phase }, { on := 8, ground := Go.Ground.phase }, { on := 9, ground := Go.Ground.phase }, { on := 10, ground := Go.Ground.phase }, { on := 11, ground := Go.Ground.phase }, { on := 12, ground := Go.Ground.phase }, { on := 13, ground := Go.Ground.phase }, { on := 14, ground := Go.Ground.phase }, { on := 15, ground := Go.Ground.phase }], guard := none }) (v := ?_) rfl (by kernel_rfl) (by kernel_rfl) (by kernel_rfl) (fun _ _ _ h => h) (Or.inl ⟨by rfl, ?_⟩) (by assumption) ?_
              rotate_left
              · (intro w hSw; (try dsimp only at hSw); go_simp; try with_reducible rfl)
              rotate_left
              try simp only [Act.put, List.setIfInBounds_toArray, List.set_cons_zero, List.set_cons_succ]
              refine wpAnyH_ready (rs := [17]) (by kernel_rfl) (by simp) ?_
              refine AllReadyH.cons (o := { dst := none, op := Go.Op.store 58 (Go.Operand.tmp 52) (Go.Operand.tmp 50), type := 0, pos := "zsortanyfunc.go:13", after := #[{ on := 16, ground := Go.Ground.data }, { on := 13, ground := Go.Ground.data }, { on := 15, ground := Go.Ground.chain }, { on := 0, ground := Go.Ground.phase }, { on := 1, ground := Go.Ground.phase }, { on := 2, ground := Go.Ground.phase }, { on := 3, ground := Go.Ground.phase }, { on := 4, ground := Go.Ground.phase }, { on := 5, ground := Go.Ground.phase }, { on := 6, ground := Go.Ground.phase }, { on := 7, ground := Go.Ground.phase }, { on := 8, ground := Go.Ground.phase }, { on := 9, ground := Go.Ground.phase }, { on := 10, ground := Go.Ground.phase }, { on := 11, ground := Go.Ground.phase }, { on := 12, ground := Go.Ground.phase }, { on := 13, ground := Go.Ground.phase }, { on := 14, ground := Go.Ground.phase }, { on := 15, ground := Go.Ground.phase }], guard := none }) rfl (fun K hK => ?_) AllReadyH.nil
              rw [if_pos (show Region.wanted _ _ = true from rfl)]
              refine wp_store_mid 58 (.tmp 52) (.tmp 50) rfl blk (off + jp * 7) #[.int .i64 x.1.nid, .int .i64 x.1.tier, .int .i64 x.1.parent, .int .i64 x.1.at1, .int .i64 x.1.at2, .int .i64 x.1.rank, .string x.1.text] rfl rfl hr3.out (by kernel_rfl) (by simp [Value.oneCell']) ?_
              refine hK.out _ _ ?_ (fun hHeld => ?_)
              · trivial
              clear hK K
              try simp only [Act.put, List.setIfInBounds_toArray, List.set_cons_zero, List.set_cons_succ]
              refine wpAnyH_done (by kernel_rfl) ?_ _
              refine NoPanic.normal ?_
              clear hr1 hr3 hcx hcy hwS
              generalize wS.setCells blk (off + jp * 7) (#[.int .i64 x.1.nid, .int .i64 x.1.tier, .int .i64 x.1.parent, .int .i64 x.1.at1, .int .i64 x.1.at2, .int .i64 x.1.rank, .string x.1.text] : Array Value).toList = w3 at S3 ⊢
              clear ea ec ra rc
              go_wp2
              go_roundg jp
              case measure => omega
              case rel => exact ⟨jp, swpF dj j jp, by first | rfl | go_num | (congr 1; omega), by omega, by omega, Nat.le_refl _, S3, HI2⟩
            refine AllReadyH.cons (o := { dst := some 50, op := Go.Op.load 58 (Go.Operand.tmp 49), type := 58, pos := "zsortanyfunc.go:13", after := #[{ on := 12, ground := Go.Ground.data }], guard := none }) rfl (fun K hK => ?_) AllReadyH.nil
            rw [if_pos (show Region.wanted _ _ = true from rfl)]
            refine wp_load_mid 58 (.tmp 49) rfl blk (off + j * 7) rfl [.int .i64 x.1.nid, .int .i64 x.1.tier, .int .i64 x.1.parent, .int .i64 x.1.at1, .int .i64 x.1.at2, .int .i64 x.1.rank, .string x.1.text] _ hcx Tryz.underlying58 rfl (by kernel_rfl) ?_
            refine hK.out _ _ ?_ (fun hHeld => ?_)
            · trivial
            clear hK K
            try simp only [Act.put, List.setIfInBounds_toArray, List.set_cons_zero, List.set_cons_succ]
            refine wpAnyH_ready (rs := [9]) (by kernel_rfl) (by simp) ?_
            refine AllReadyH.cons (o := { dst := some 46, op := Go.Op.load 58 (Go.Operand.tmp 45), type := 58, pos := "zsortanyfunc.go:13", after := #[{ on := 8, ground := Go.Ground.data }], guard := none }) rfl (fun K hK => ?_) AllReadyH.nil
            rw [if_pos (show Region.wanted _ _ = true from rfl)]
            refine wp_load_mid 58 (.tmp 45) rfl blk (off + jp * 7) rfl [.int .i64 y.1.nid, .int .i64 y.1.tier, .int .i64 y.1.parent, .int .i64 y.1.at1, .int .i64 y.1.at2, .int .i64 y.1.rank, .string y.1.text] _ hcy Tryz.underlying58 rfl (by kernel_rfl) ?_
            refine hK.out _ _ ?_ (fun hHeld => ?_)
            · trivial
            clear hK K
            try simp only [Act.put, List.setIfInBounds_toArray, List.set_cons_zero, List.set_cons_succ]
            refine wpAnyH_take (i := 14) (oi := { dst := some 51, op := Go.Op.indexAddr 36 (Go.Operand.tmp 37) (Go.Operand.tmp 38), type := 0, pos := "zsortanyfunc.go:13", after := #[{ on := 0, ground := Go.Ground.data }, { on := 1, ground := Go.Ground.data }, { on := 0, ground := Go.Ground.phase }, { on := 1, ground := Go.Ground.phase }, { on := 2, ground := Go.Ground.textOnly Go.Departure.lateStores }, { on := 3, ground := Go.Ground.textOnly Go.Departure.lateStores }, { on := 4, ground := Go.Ground.textOnly Go.Departure.lateStores }, { on := 5, ground := Go.Ground.phase }, { on := 6, ground := Go.Ground.phase }, { on := 7, ground := Go.Ground.phase }, { on := 8, ground := Go.Ground.phase }, { on := 9, ground := Go.Ground.phase }, { on := 10, ground := Go.Ground.textOnly Go.Departure.lateStores }, { on := 11, ground := Go.Ground.textOnly Go.Departure.lateStores }, { on := 12, ground := Go.Ground.textOnly Go.Departure.lateStoresUnsure }, { on := 13, ground := Go.Ground.phase }], guard := none }) (v := ?_) rfl (by kernel_rfl) (by kernel_rfl) (by kernel_rfl) (fun _ _ _ h => h) (Or.inl ⟨by rfl, ?_⟩) (by assumption) ?_
            rotate_left
            · (intro w hSw; (try dsimp only at hSw); go_simp; try with_reducible rfl)
            rotate_left
            try simp only [Act.put, List.setIfInBounds_toArray, List.set_cons_zero, List.set_cons_succ]
            refine wpAnyH_ready (rs := [15]) (by kernel_rfl) (by simp) ?_
            refine AllReadyH.cons (o := { dst := none, op := Go.Op.store 58 (Go.Operand.tmp 51) (Go.Operand.tmp 46), type := 0, pos := "zsortanyfunc.go:13", after := #[{ on := 14, ground := Go.Ground.data }, { on := 9, ground := Go.Ground.data }, { on := 0, ground := Go.Ground.phase }, { on := 1, ground := Go.Ground.phase }, { on := 2, ground := Go.Ground.textOnly Go.Departure.lateStores }, { on := 3, ground := Go.Ground.textOnly Go.Departure.lateStores }, { on := 4, ground := Go.Ground.textOnly Go.Departure.lateStores }, { on := 5, ground := Go.Ground.phase }, { on := 6, ground := Go.Ground.phase }, { on := 7, ground := Go.Ground.phase }, { on := 8, ground := Go.Ground.phase }, { on := 9, ground := Go.Ground.phase }, { on := 10, ground := Go.Ground.textOnly Go.Departure.lateStores }, { on := 11, ground := Go.Ground.textOnly Go.Departure.lateStores }, { on := 12, ground := Go.Ground.textOnly Go.Departure.lateStoresUnsure }, { on := 13, ground := Go.Ground.phase }], guard := none }) rfl (fun K hK => ?_) AllReadyH.nil
            rw [if_pos (show Region.wanted _ _ = true from rfl)]
            refine wp_store_mid 58 (.tmp 51) (.tmp 46) rfl blk (off + j * 7) #[.int .i64 y.1.nid, .int .i64 y.1.tier, .int .i64 y.1.parent, .int .i64 y.1.at1, .int .i64 y.1.at2, .int .i64 y.1.rank, .string y.1.text] rfl rfl hr1.out (by kernel_rfl) (by simp [Value.oneCell']) ?_
            rw [hwS]
            refine hK.out _ _ ?_ (fun hHeld => ?_)
            · trivial
            clear hK K
            try simp only [Act.put, List.setIfInBounds_toArray, List.set_cons_zero, List.set_cons_succ]
            refine wpAnyH_take (i := 16) (oi := { dst := some 52, op := Go.Op.indexAddr 36 (Go.Operand.tmp 39) (Go.Operand.tmp 41), type := 0, pos := "zsortanyfunc.go:13", after := #[{ on := 2, ground := Go.Ground.data }, { on := 4, ground := Go.Ground.data }, { on := 0, ground := Go.Ground.phase }, { on := 1, ground := Go.Ground.phase }, { on := 2, ground := Go.Ground.phase }, { on := 3, ground := Go.Ground.phase }, { on := 4, ground := Go.Ground.phase }, { on := 5, ground := Go.Ground.phase }, { on := 6, ground := Go.Ground.phase }, { on := 7, ground := Go.Ground.phase }, { on := 8, ground := Go.Ground.phase }, { on := 9, ground := Go.Ground.phase }, { on := 10, ground := Go.Ground.phase }, { on := 11, ground := Go.Ground.phase }, { on := 12, ground := Go.Ground.phase }, { on := 13, ground := Go.Ground.phase }, { on := 14, ground := Go.Ground.phase }, { on := 15, ground := Go.Ground.phase }], guard := none }) (v := ?_) rfl (by kernel_rfl) (by kernel_rfl) (by kernel_rfl) (fun _ _ _ h => h) (Or.inl ⟨by rfl, ?_⟩) (by assumption) ?_
            rotate_left
            · (intro w hSw; (try dsimp only at hSw); go_simp; try with_reducible rfl)
            rotate_left
            try simp only [Act.put, List.setIfInBounds_toArray, List.set_cons_zero, List.set_cons_succ]
            refine wpAnyH_ready (rs := [17]) (by kernel_rfl) (by simp) ?_
            refine AllReadyH.cons (o := { dst := none, op := Go.Op.store 58 (Go.Operand.tmp 52) (Go.Operand.tmp 50), type := 0, pos := "zsortanyfunc.go:13", after := #[{ on := 16, ground := Go.Ground.data }, { on := 13, ground := Go.Ground.data }, { on := 15, ground := Go.Ground.chain }, { on := 0, ground := Go.Ground.phase }, { on := 1, ground := Go.Ground.phase }, { on := 2, ground := Go.Ground.phase }, { on := 3, ground := Go.Ground.phase }, { on := 4, ground := Go.Ground.phase }, { on := 5, ground := Go.Ground.phase }, { on := 6, ground := Go.Ground.phase }, { on := 7, ground := Go.Ground.phase }, { on := 8, ground := Go.Ground.phase }, { on := 9, ground := Go.Ground.phase }, { on := 10, ground := Go.Ground.phase }, { on := 11, ground := Go.Ground.phase }, { on := 12, ground := Go.Ground.phase }, { on := 13, ground := Go.Ground.phase }, { on := 14, ground := Go.Ground.phase }, { on := 15, ground := Go.Ground.phase }], guard := none }) rfl (fun K hK => ?_) AllReadyH.nil
            rw [if_pos (show Region.wanted _ _ = true from rfl)]
            refine wp_store_mid 58 (.tmp 52) (.tmp 50) rfl blk (off + jp * 7) #[.int .i64 x.1.nid, .int .i64 x.1.tier, .int .i64 x.1.parent, .int .i64 x.1.at1, .int .i64 x.1.at2, .int .i64 x.1.rank, .string x.1.text] rfl rfl hr3.out (by kernel_rfl) (by simp [Value.oneCell']) ?_
            refine hK.out _ _ ?_ (fun hHeld => ?_)
            · trivial
            clear hK K
            try simp only [Act.put, List.setIfInBounds_toArray, List.set_cons_zero, List.set_cons_succ]
            refine wpAnyH_done (by kernel_rfl) ?_ _
            refine NoPanic.normal ?_
            clear hr1 hr3 hcx hcy hwS
            generalize wS.setCells blk (off + jp * 7) (#[.int .i64 x.1.nid, .int .i64 x.1.tier, .int .i64 x.1.parent, .int .i64 x.1.at1, .int .i64 x.1.at2, .int .i64 x.1.rank, .string x.1.text] : Array Value).toList = w3 at S3 ⊢
            clear ea ec ra rc
            go_wp2
            go_roundg jp
            case measure => omega
            case rel => exact ⟨jp, swpF dj j jp, by first | rfl | go_num | (congr 1; omega), by omega, by omega, Nat.le_refl _, S3, HI2⟩
          · have hd : decide (c x.1 y.1 < 0) = false := decide_eq_false hlv
            have HO := Lib.hid (HOUT.out hlv)
            clear HOUT HSTEP
            go_wp2_with fail
            refine wp_region_quiet_below (by kernel_rfl) (by kernel_rfl) ?_
            repeat (go_big_quiet_step ((exact below_quiet (hcall.out _))))
            refine wpQuiet_nil ?_
            intro w2 hw'
            have hb2 := bw_below hw'
            clear hw'
            have S2 : Hid (SK (fun p : Tag Nt => encN p.1) 7 w0 blk off n dj w2) := SJ.out.below hb2
            clear l10 l20 l11 l21 l12 l22 l13 l23 l14 l24 l15 l25 l16 l26 hcall SJ hb2 ea ec ra rc
            go_wp2
            go_roundg (b - (i + 1))
            case measure => omega
            case rel => exact ⟨i + 1, dj, by go_num, by omega, by omega, by omega, S2, HO.out.1, HO.out.2⟩
        · have hjaz : decide ((j : Int) > (a : Int)) = false := decide_eq_false (by omega)
          have hjaz' : ¬ (a : Int) < (j : Int) := by omega
          have HO := Lib.hid (OUT.out (Or.inl (by omega)))
          clear OUT
          go_wp2_with fail
          go_quiet (fail)
          have S2 : Hid (SK (fun p : Tag Nt => encN p.1) 7 w0 blk off n dj (wr.drewN nq)) := SJ.out.drewN nq
          clear SJ
          generalize wr.drewN nq = w2 at S2 ⊢
          go_wp2
          go_roundg (b - (i + 1))
          case measure => omega
          case rel => exact ⟨i + 1, dj, by go_num, by omega, by omega, by omega, S2, HO.out.1, HO.out.2⟩
    · have hltz : ¬ (i : Int) < (b : Int) := by omega
      go_wp2
      go_end0
      have hmin : min i b = b := by omega
      rw [hmin] at P1 T1
      exact ⟨rfl, dk, S1.out, P1.out, T1.out⟩
set_option maxHeartbeats 400000 in
theorem insN_none (f : Value) (A : Option Addr) (n c : Nat) (w : World) :
    Calls Tryz.prog 133 #[.slice A n c, .int .i64 0, .int .i64 0, f] w fun e w' => e = .returned (.tuple #[]) ∧ w = w' := by
  go_enter Tryz.func133, Tryz.ntmps133
  go_wp2
  refine wp_loop_rounds 1 ?_
  rw [rounds_succ]
  go_wp2
  go_end0
  exact ⟨rfl, rfl⟩
set_option maxHeartbeats 400000 in
theorem stableN_none (f : Value) (A : Option Addr) (c : Nat) (w : World) :
    Calls Tryz.prog 114 #[.slice A 0 c, .int .i64 0, f] w fun e w' => e = .returned (.tuple #[]) ∧ w = w' := by
  go_enter Tryz.func114, Tryz.ntmps114
  go_wp2
  refine wp_loop_rounds 1 ?_
  rw [rounds_succ]
  go_wp2_with fail
  refine (insN_none _ _ _ _ _).mono ?_
  rintro e w1 ⟨rfl, rfl⟩
  go_wp2
  refine wp_loop_rounds 1 ?_
  rw [rounds_succ]
  go_wp2
  go_end0
  exact ⟨rfl, rfl⟩
set_option maxHeartbeats 400000 in
theorem ssfN_none (f : Value) (A : Option Addr) (c : Nat) (w : World) :
    Calls Tryz.prog 90 #[.slice A 0 c, f] w fun e w' => e = .returned (.tuple #[]) ∧ w = w' := by
  go_enter Tryz.func90, Tryz.ntmps90
  go_wp2_with fail
  refine (stableN_none _ _ _ _).mono ?_
  rintro e w1 ⟨rfl, rfl⟩
  go_wp2
  go_end0
  exact ⟨rfl, rfl⟩
set_option maxHeartbeats 1000000 in
theorem stableN_few (c : Nt → Nt → Int) (hc : IsCmp c) (Q : Nt → Prop) (g : Nat) (cb : Array Value) (blk off cap n : Nat) (d : Nat → Tag Nt) (w : World)
    (eg : ∀ args w, (callFunc g args).run Tryz.prog w = .ok (.enter g args) w) (hcmp : CmpOKN g cb c Q w blk off n) (hQ : ∀ j, j < n → Q (d j).1) (S : SK (fun p : Tag Nt => encN p.1) 7 w blk off n d w) (hn : n < 20) (h0 : ∀ k, (d k).2 = k) :
    Calls Tryz.prog 114 #[.slice (some ⟨blk, off, none⟩) n cap, .int .i64 n, .func (.func g) #[] cb] w fun e w' => e = .returned (.tuple #[]) ∧
      ∃ d', SK (fun p : Tag Nt => encN p.1) 7 w blk off n d' w' ∧ PermOn 0 n d d' ∧ SortedOn c d' 0 n := by
  have HI := Lib.hid (insN_any c hc Q g cb blk off cap n 0 n d w w eg hcmp hQ S (Nat.zero_le _) (Nat.le_refl _) (by omega) (fun p q h1 h2 h3 => by rw [h0, h0]; exact h2))
  clear hcmp hQ S
  have h20 : ¬ (20 : Int) ≤ (n : Int) := by omega
  have h20' : ¬ (20 : Int) < (n : Int) := by omega
  go_enter Tryz.func114, Tryz.ntmps114
  go_wp2
  refine wp_loop_rounds 1 ?_
  rw [rounds_succ]
  go_wp2_with fail
  refine HI.out.mono ?_
  rintro e w1 ⟨rfl, h⟩
  have H := Lib.hid h; clear h
  go_wp2
  refine wp_loop_rounds 1 ?_
  rw [rounds_succ]
  go_wp2
  go_end0
  exact ⟨rfl, H.out⟩
set_option maxHeartbeats 400000 in
theorem ssfN_few (c : Nt → Nt → Int) (hc : IsCmp c) (Q : Nt → Prop) (g : Nat) (cb : Array Value) (blk off cap n : Nat) (d : Nat → Tag Nt) (w : World)
    (eg : ∀ args w, (callFunc g args).run Tryz.prog w = .ok (.enter g args) w) (hcmp : CmpOKN g cb c Q w blk off n) (hQ : ∀ j, j < n → Q (d j).1) (S : SK (fun p : Tag Nt => encN p.1) 7 w blk off n d w) (hn : n < 20) (h0 : ∀ k, (d k).2 = k) :
    Calls Tryz.prog 90 #[.slice (some ⟨blk, off, none⟩) n cap, .func (.func g) #[] cb] w fun e w' => e = .returned (.tuple #[]) ∧
      ∃ d', SK (fun p : Tag Nt => encN p.1) 7 w blk off n d' w' ∧ PermOn 0 n d d' ∧ SortedOn c d' 0 n := by
  have hc' := Lib.hid (stableN_few c hc Q g cb blk off cap n d w eg hcmp hQ S hn h0)
  clear hcmp hQ S h0
  go_enter Tryz.func90, Tryz.ntmps90
  go_wp2_with fail
  refine hc'.out.mono ?_
  rintro e w1 ⟨rfl, h⟩
  have H := Lib.hid h; clear h
  go_wp2
  go_end0
  exact ⟨rfl, H.out⟩
end Go.Proofs.YthcabnfcgjnlnaaGreatDoor
