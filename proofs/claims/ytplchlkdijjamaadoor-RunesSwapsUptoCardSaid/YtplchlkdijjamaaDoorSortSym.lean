import Derived.Test.YtplchlkdijjamaaDoorSortRot
import Derived.Outline
namespace Go.Proofs.YtplchlkdijjamaaDoor
open Go.RowKit Srt Col
set_option linter.unusedVariables false
set_option linter.unusedSimpArgs false

/-- Binary search among the elements behind the first: what one look says of all. -/
theorem srch_lt {α : Type} {c : α → α → Int} (hc : IsCmp c) {d : Nat → Tag α} {a m b i h : Nat} (hs : SortedOn c d m b) (hh : h < b) (hlt : c (d h).1 (d a).1 < 0) :
    ∀ k, m ≤ k → k < h + 1 → c (d k).1 (d a).1 < 0 := by
  intro k h1 h2
  by_cases e : k = h
  · rw [e]; exact hlt
  · have := hs k h h1 (by omega) hh
    have h3 : c (d k).1 (d h).1 ≤ 0 := by unfold lexLt at this; omega
    have := hc.trans _ _ _ h3 (Int.le_of_lt hlt)
    omega
theorem srch_ge {α : Type} {c : α → α → Int} (hc : IsCmp c) {d : Nat → Tag α} {a m b h : Nat} (hs : SortedOn c d m b) (hm : m ≤ h) (hge : ¬ c (d h).1 (d a).1 < 0) :
    ∀ k, h ≤ k → k < b → ¬ c (d k).1 (d a).1 < 0 := by
  intro k h1 h2
  by_cases e : k = h
  · rw [e]; exact hge
  · have := hs h k hm (by omega) h2
    have h3 : c (d h).1 (d k).1 ≤ 0 := by unfold lexLt at this; omega
    intro h4
    have := hc.trans _ _ _ h3 (Int.le_of_lt h4)
    omega

set_option maxHeartbeats 16000000 in
set_option maxRecDepth 1000000 in
theorem sym_first (c : Int → Int → Int) (hc : IsCmp c) (Q : Int → Prop) (g : Nat) (cb : Array Value) (blk off cap n a m b : Nat) (d : Nat → Tag Int) (w0 w : World)
    (eg : ∀ args w, (callFunc g args).run Tryd.prog w = .ok (.enter g args) w) (hcmp : CmpOKS g cb c Q w0 blk off n) (hQ : ∀ j, j < n → Q (d j).1) (S : SS encS w0 blk off n d w)
    (hM : Merge c d a m b) (ham : m = a + 1) (hmb : m < b) (hb : b ≤ n) (hsz : n < 4611686018427387904) :
    Calls Tryd.prog 45 #[.slice (some ⟨blk, off, none⟩) n cap, .int .i64 a, .int .i64 m, .int .i64 b, .func (.func g) #[] cb] w fun e w' => e = .returned (.tuple #[]) ∧
      ∃ d', SS encS w0 blk off n d' w' ∧ Merged c d d' a b := by
  have HC := Lib.hid hcmp; clear hcmp
  have S0 := Lib.hid S; clear S
  have HQ := Lib.hid hQ; clear hQ
  have HM := Lib.hid hM; clear hM
  have t1 : ((m : Int) - (a : Int) == 1) = true := beq_iff_eq.2 (by omega)
  have HA := Lib.hid ham
  have hma : a < m := by omega
  clear ham
  go_enter Tryd.func45, Tryd.ntmps45
  go_wp2
  go_loopg [10, 11] (b - m) (fun g1 vi vj wr => ∃ (i j : Nat), vi = .int .i64 i ∧ vj = .int .i64 j ∧ m ≤ i ∧ i ≤ j ∧ j ≤ b ∧ j - i ≤ g1 ∧ Hid (SS encS w0 blk off n d wr) ∧
    Hid (∀ k, m ≤ k → k < i → c (d k).1 (d a).1 < 0) ∧ Hid (∀ k, j ≤ k → k < b → ¬ c (d k).1 (d a).1 < 0))
  case atStart => exact ⟨m, b, rfl, rfl, Nat.le_refl _, by omega, Nat.le_refl _, Nat.le_refl _, S0, fun k h1 h2 => by omega, fun k h1 h2 => by omega⟩
  case round =>
    clear S0
    obtain ⟨i, j, rfl, rfl, hmi, hij, hjb, hg1, S1, L1, G1⟩ := hrel
    by_cases hlt : i < j
    · have hltz : (i : Int) < (j : Int) := by omega
      obtain ⟨h, hh⟩ : ∃ h : Nat, Hid (h = (i + j) / 2) := ⟨_, rfl⟩
      have zh : ((i : Int) + (j : Int)) / 2 = (h : Int) := by have := hh.out; omega
      have hhi : i ≤ h := by have := hh.out; omega
      have hhj : h < j := by have := hh.out; omega
      obtain ⟨x, hx⟩ : ∃ x, Hid (d h = x) := ⟨_, rfl⟩
      obtain ⟨y, hy⟩ : ∃ y, Hid (d a = y) := ⟨_, rfl⟩
      have l1 : ∀ p : BW wr, p.at_.cell? ⟨blk, off + h, none⟩ = some (.int .i64 x.1) := fun p => by
        have := (S1.out.below p.bel).cells h (by omega); rw [hx.out] at this; exact this
      have l2 : ∀ p : BW wr, p.at_.cell? ⟨blk, off + a, none⟩ = some (.int .i64 y.1) := fun p => by
        have := (S1.out.below p.bel).cells a (by omega); rw [hy.out] at this; exact this
      have hcall := HC.out wr d S1.out x.1 y.1 (by rw [← hx.out]; exact HQ.out _ (by omega)) (by rw [← hy.out]; exact HQ.out _ (by omega))
      have b1 : (h : Int) < (n : Int) := by omega
      have b2 : (a : Int) < (n : Int) := by omega
      have p1 : (0 : Int) ≤ (h : Int) := by omega
      have p2 : (0 : Int) ≤ (a : Int) := by omega
      have HLT : Hid (c x.1 y.1 < 0 → ∀ k, m ≤ k → k < h + 1 → c (d k).1 (d a).1 < 0) := fun h => srch_lt (i := i) hc HM.out.right (by omega) (by rw [hx.out, hy.out]; exact h)
      have HGE : Hid (¬ c x.1 y.1 < 0 → ∀ k, h ≤ k → k < b → ¬ c (d k).1 (d a).1 < 0) := fun h => srch_ge hc HM.out.right (by omega) (by rw [hx.out, hy.out]; exact h)
      by_cases hlv : c x.1 y.1 < 0
      · have hd : decide (c x.1 y.1 < 0) = true := decide_eq_true hlv
        have HL := Lib.hid (HLT.out hlv)
        clear HLT HGE L1
        go_wp2_with fail
        refine wp_region_quiet_below (by kernel_rfl) (by kernel_rfl) ?_
        repeat (go_big_quiet_step (exact below_quiet (hcall _)))
        refine wpQuiet_nil ?_
        intro w2 hw'
        have hb2 := bw_below hw'
        clear hw'
        have S2 : Hid (SS encS w0 blk off n d w2) := S1.out.below hb2
        clear l1 l2 hcall S1 hb2
        go_wp2
        go_roundg (j - (h + 1))
        case measure => omega
        case rel => exact ⟨h + 1, j, by first | rfl | go_num | (congr 1; omega), rfl, by omega, by omega, by omega, by omega, S2, HL, G1⟩
      · have hd : decide (c x.1 y.1 < 0) = false := decide_eq_false hlv
        have HG := Lib.hid (HGE.out hlv)
        clear HLT HGE G1
        go_wp2_with fail
        refine wp_region_quiet_below (by kernel_rfl) (by kernel_rfl) ?_
        repeat (go_big_quiet_step (exact below_quiet (hcall _)))
        refine wpQuiet_nil ?_
        intro w2 hw'
        have hb2 := bw_below hw'
        clear hw'
        have S2 : Hid (SS encS w0 blk off n d w2) := S1.out.below hb2
        clear l1 l2 hcall S1 hb2
        go_wp2
        go_roundg (h - i)
        case measure => omega
        case rel => exact ⟨i, h, rfl, by first | rfl | (congr 1; omega), by omega, by omega, by omega, by omega, S2, L1, HG⟩
    · have hltz : ¬ (i : Int) < (j : Int) := by omega
      have HIJ : Hid (i = j) := show i = j by omega
      have G2 : Hid (∀ k, i ≤ k → k < b → ¬ c (d k).1 (d a).1 < 0) := by rw [HIJ.out]; exact G1.out
      clear G1
      go_wp2_with fail
      go_loopg [13] (i - a) (fun g1 vk wr => ∃ (k : Nat) (dk : Nat → Tag Int), vk = .int .i64 k ∧ a ≤ k ∧ k + 1 ≤ i ∧ i - k ≤ g1 ∧ Hid (SS encS w0 blk off n dk wr) ∧ Hid (Rotated d dk a (a + 1) (k + 1)))
      case atStart => exact ⟨a, d, rfl, Nat.le_refl _, by omega, by omega, S1, rotated_nil_right _ _ _⟩
      case round =>
        clear S1
        obtain ⟨k, dk, rfl, hak, hki, hg1, S1, P1⟩ := hrel
        by_cases hlt : k + 1 < i
        · have hltz : (k : Int) < (i : Int) - 1 := by omega
          have P2 : Hid (Rotated d (swpF dk k (k + 1)) a (a + 1) (k + 2)) := rotated_up P1.out hak
          obtain ⟨x, hx⟩ : ∃ x, Hid (dk k = x) := ⟨_, rfl⟩
          obtain ⟨y, hy⟩ : ∃ y, Hid (dk (k + 1) = y) := ⟨_, rfl⟩
          have c1 : wr.cell? ⟨blk, off + k, none⟩ = some (.int .i64 x.1) := by have := S1.out.cells k (by omega); rw [hx.out] at this; exact this
          have c2 : wr.cell? ⟨blk, off + (k + 1), none⟩ = some (.int .i64 y.1) := by have := S1.out.cells (k + 1) (by omega); rw [hy.out] at this; exact this
          have f1 := S1.out.free k (by omega)
          have f2 := S1.out.free (k + 1) (by omega)
          obtain ⟨u, c3⟩ := S1.out.c2 (i := k) (j := k + 1) (by omega) (by omega) (.int .i64 y.1)
          have S3 : Hid (SS encS w0 blk off n (swpF dk k (k + 1)) ((wr.setCell ⟨blk, off + k, none⟩ (.int .i64 y.1)).setCell ⟨blk, off + (k + 1), none⟩ (.int .i64 x.1)).drew) := by
            have := S1.out.swapped (i := k) (j := k + 1) (by omega) (by omega)
            rw [hx.out, hy.out] at this
            exact this
          clear S1 P1
          have e1 : ((k : Int) + 1).toNat = k + 1 := by omega
          have p1 : (0 : Int) ≤ (k : Int) + 1 := by omega
          have b1 : (k : Int) + 1 < (n : Int) := by omega
          have b2 : (k : Int) < (n : Int) := by omega
          have r1 : IntKind.i64.wrap ((k : Int) + 1) = (k : Int) + 1 := by rw [IntKind.wrap_i64]; omega
          go_wp2_with fail
          go_region
          clear c1 c2 c3 f1 f2
          generalize ((wr.setCell ⟨blk, off + k, none⟩ (.int .i64 y.1)).setCell ⟨blk, off + (k + 1), none⟩ (.int .i64 x.1)).drew = w3 at S3 ⊢
          clear e1 r1
          go_wp2
          go_roundg (i - (k + 1))
          case measure => omega
          case rel => exact ⟨k + 1, _, by go_num, by omega, by omega, by omega, S3, P2⟩
        · have hltz : ¬ (k : Int) < (i : Int) - 1 := by omega
          go_wp2
          have hki' : k + 1 = i := by omega
          rw [hki'] at P1
          have HMM := HM.out
          rw [HA.out] at HMM
          refine bodyPost_ret (v := .tuple #[]) (results_none rfl _ _ _) rfl ?_
          exact ⟨rfl, dk, S1.out, merged_one hc HMM (by omega) (by omega) (by omega) P1.out (by rw [← HA.out]; exact L1.out) (fun q h1 h2 => by have := G2.out q h1 h2; omega)⟩

theorem srch_le {α : Type} {c : α → α → Int} (hc : IsCmp c) {d : Nat → Tag α} {a m h : Nat} (hs : SortedOn c d a m) (hh : h < m) (hge : ¬ c (d m).1 (d h).1 < 0) :
    ∀ k, a ≤ k → k < h + 1 → ¬ c (d m).1 (d k).1 < 0 := by
  intro k h1 h2
  by_cases e : k = h
  · rw [e]; exact hge
  · have := hs k h h1 (by omega) hh
    have h3 : c (d k).1 (d h).1 ≤ 0 := by unfold lexLt at this; omega
    intro h4
    have := hc.trans _ _ _ (Int.le_of_lt h4) h3
    omega
theorem srch_gt {α : Type} {c : α → α → Int} (hc : IsCmp c) {d : Nat → Tag α} {a m h : Nat} (hs : SortedOn c d a m) (ha : a ≤ h) (hlt : c (d m).1 (d h).1 < 0) :
    ∀ k, h ≤ k → k < m → c (d m).1 (d k).1 < 0 := by
  intro k h1 h2
  by_cases e : k = h
  · rw [e]; exact hlt
  · have := hs h k ha (by omega) h2
    have h3 : c (d h).1 (d k).1 ≤ 0 := by unfold lexLt at this; omega
    have := hc.trans _ _ _ (Int.le_of_lt hlt) h3
    omega

set_option maxHeartbeats 16000000 in
set_option maxRecDepth 1000000 in
theorem sym_last (c : Int → Int → Int) (hc : IsCmp c) (Q : Int → Prop) (g : Nat) (cb : Array Value) (blk off cap n a m b : Nat) (d : Nat → Tag Int) (w0 w : World)
    (eg : ∀ args w, (callFunc g args).run Tryd.prog w = .ok (.enter g args) w) (hcmp : CmpOKS g cb c Q w0 blk off n) (hQ : ∀ j, j < n → Q (d j).1) (S : SS encS w0 blk off n d w)
    (hM : Merge c d a m b) (ham : a + 1 < m) (hmb : b = m + 1) (hb : b ≤ n) (hsz : n < 4611686018427387904) :
    Calls Tryd.prog 45 #[.slice (some ⟨blk, off, none⟩) n cap, .int .i64 a, .int .i64 m, .int .i64 b, .func (.func g) #[] cb] w fun e w' => e = .returned (.tuple #[]) ∧
      ∃ d', SS encS w0 blk off n d' w' ∧ Merged c d d' a b := by
  have HC := Lib.hid hcmp; clear hcmp
  have S0 := Lib.hid S; clear S
  have HQ := Lib.hid hQ; clear hQ
  have HM := Lib.hid hM; clear hM
  have t1 : ((m : Int) - (a : Int) == 1) = false := beq_eq_false_iff_ne.2 (by omega)
  have t2 : ((b : Int) - (m : Int) == 1) = true := beq_iff_eq.2 (by omega)
  have HA := Lib.hid hmb
  have hma : m < b := by omega
  clear hmb
  go_enter Tryd.func45, Tryd.ntmps45
  go_wp2
  go_loopg [14, 15] (m - a) (fun g1 vi vj wr => ∃ (i j : Nat), vi = .int .i64 i ∧ vj = .int .i64 j ∧ a ≤ i ∧ i ≤ j ∧ j ≤ m ∧ j - i ≤ g1 ∧ Hid (SS encS w0 blk off n d wr) ∧
    Hid (∀ k, a ≤ k → k < i → ¬ c (d m).1 (d k).1 < 0) ∧ Hid (∀ k, j ≤ k → k < m → c (d m).1 (d k).1 < 0))
  case atStart => exact ⟨a, m, rfl, rfl, Nat.le_refl _, by omega, Nat.le_refl _, Nat.le_refl _, S0, fun k h1 h2 => by omega, fun k h1 h2 => by omega⟩
  case round =>
    clear S0
    obtain ⟨i, j, rfl, rfl, hmi, hij, hjb, hg1, S1, L1, G1⟩ := hrel
    by_cases hlt : i < j
    · have hltz : (i : Int) < (j : Int) := by omega
      obtain ⟨h, hh⟩ : ∃ h : Nat, Hid (h = (i + j) / 2) := ⟨_, rfl⟩
      have zh : ((i : Int) + (j : Int)) / 2 = (h : Int) := by have := hh.out; omega
      have hhi : i ≤ h := by have := hh.out; omega
      have hhj : h < j := by have := hh.out; omega
      obtain ⟨x, hx⟩ : ∃ x, Hid (d m = x) := ⟨_, rfl⟩
      obtain ⟨y, hy⟩ : ∃ y, Hid (d h = y) := ⟨_, rfl⟩
      have l1 : ∀ p : BW wr, p.at_.cell? ⟨blk, off + m, none⟩ = some (.int .i64 x.1) := fun p => by
        have := (S1.out.below p.bel).cells m (by omega); rw [hx.out] at this; exact this
      have l2 : ∀ p : BW wr, p.at_.cell? ⟨blk, off + h, none⟩ = some (.int .i64 y.1) := fun p => by
        have := (S1.out.below p.bel).cells h (by omega); rw [hy.out] at this; exact this
      have hcall := HC.out wr d S1.out x.1 y.1 (by rw [← hx.out]; exact HQ.out _ (by omega)) (by rw [← hy.out]; exact HQ.out _ (by omega))
      have b1 : (h : Int) < (n : Int) := by omega
      have b2 : (m : Int) < (n : Int) := by omega
      have p1 : (0 : Int) ≤ (h : Int) := by omega
      have p2 : (0 : Int) ≤ (m : Int) := by omega
      have HLT : Hid (¬ c x.1 y.1 < 0 → ∀ k, a ≤ k → k < h + 1 → ¬ c (d m).1 (d k).1 < 0) := fun h => srch_le hc HM.out.left (by omega) (by rw [hx.out, hy.out]; exact h)
      have HGE : Hid (c x.1 y.1 < 0 → ∀ k, h ≤ k → k < m → c (d m).1 (d k).1 < 0) := fun h => srch_gt hc HM.out.left (by omega) (by rw [hx.out, hy.out]; exact h)
      by_cases hlv : c x.1 y.1 < 0
      · have hd : decide (c x.1 y.1 < 0) = true := decide_eq_true hlv
        have HG := Lib.hid (HGE.out hlv)
        clear HLT HGE G1
        go_wp2_with fail
        refine wp_region_quiet_below (by kernel_rfl) (by kernel_rfl) ?_
        repeat (go_big_quiet_step (exact below_quiet (hcall _)))
        refine wpQuiet_nil ?_
        intro w2 hw'
        have hb2 := bw_below hw'
        clear hw'
        have S2 : Hid (SS encS w0 blk off n d w2) := S1.out.below hb2
        clear l1 l2 hcall S1 hb2
        go_wp2
        go_roundg (h - i)
        case measure => omega
        case rel => exact ⟨i, h, rfl, by first | rfl | (congr 1; omega), by omega, by omega, by omega, by omega, S2, L1, HG⟩
      · have hd : decide (c x.1 y.1 < 0) = false := decide_eq_false hlv
        have HL := Lib.hid (HLT.out hlv)
        clear HLT HGE L1
        go_wp2_with fail
        refine wp_region_quiet_below (by kernel_rfl) (by kernel_rfl) ?_
        repeat (go_big_quiet_step (exact below_quiet (hcall _)))
        refine wpQuiet_nil ?_
        intro w2 hw'
        have hb2 := bw_below hw'
        clear hw'
        have S2 : Hid (SS encS w0 blk off n d w2) := S1.out.below hb2
        clear l1 l2 hcall S1 hb2
        go_wp2
        go_roundg (j - (h + 1))
        case measure => omega
        case rel => exact ⟨h + 1, j, by first | rfl | go_num | (congr 1; omega), rfl, by omega, by omega, by omega, by omega, S2, HL, G1⟩
    · have hltz : ¬ (i : Int) < (j : Int) := by omega
      have HIJ : Hid (i = j) := show i = j by omega
      have G2 : Hid (∀ k, i ≤ k → k < m → c (d m).1 (d k).1 < 0) := by rw [HIJ.out]; exact G1.out
      clear G1
      go_wp2_with fail
      go_loopg [17] (m - i) (fun g1 vk wr => ∃ (k : Nat) (dk : Nat → Tag Int), vk = .int .i64 k ∧ i ≤ k ∧ k ≤ m ∧ k - i ≤ g1 ∧ Hid (SS encS w0 blk off n dk wr) ∧ Hid (Rotated d dk k m (m + 1)))
      case atStart => exact ⟨m, d, rfl, by omega, by omega, by omega, S1, rotated_nil_left _ _ _⟩
      case round =>
        clear S1
        obtain ⟨k, dk, rfl, hik, hkm, hg1, S1, P1⟩ := hrel
        by_cases hlt : i < k
        · have P2 : Hid (Rotated d (swpF dk k (k - 1)) (k - 1) m (m + 1)) := rotated_down P1.out hkm (by omega)
          obtain ⟨q, hq⟩ : ∃ q, Hid (q + 1 = k) := ⟨k - 1, show _ = _ by omega⟩
          have hq1 : Hid (k - 1 = q) := show _ = _ by have := hq.out; omega
          have zk : (k : Int) = (q : Int) + 1 := by have := hq.out; omega
          have hltz : (i : Int) < (q : Int) + 1 := by omega
          rw [hq1.out] at P2
          obtain ⟨x, hx⟩ : ∃ x, Hid (dk k = x) := ⟨_, rfl⟩
          obtain ⟨y, hy⟩ : ∃ y, Hid (dk q = y) := ⟨_, rfl⟩
          have c1 : wr.cell? ⟨blk, off + k, none⟩ = some (.int .i64 x.1) := by have := S1.out.cells k (by omega); rw [hx.out] at this; exact this
          have c2 : wr.cell? ⟨blk, off + q, none⟩ = some (.int .i64 y.1) := by have := S1.out.cells q (by omega); rw [hy.out] at this; exact this
          have f1 := S1.out.free k (by omega)
          have f2 := S1.out.free q (by omega)
          obtain ⟨u, c3⟩ := S1.out.c2 (i := k) (j := q) (by omega) (by omega) (.int .i64 y.1)
          have S3 : Hid (SS encS w0 blk off n (swpF dk k q) ((wr.setCell ⟨blk, off + k, none⟩ (.int .i64 y.1)).setCell ⟨blk, off + q, none⟩ (.int .i64 x.1)).drew) := by
            have := S1.out.swapped (i := k) (j := q) (by omega) (by omega)
            rw [hx.out, hy.out] at this
            exact this
          clear S1 P1
          have e1 : ((q : Int) + 1).toNat = k := by omega
          have e2 : ((q : Int)).toNat = q := by omega
          have p1 : (0 : Int) ≤ (q : Int) + 1 := by omega
          have p2 : (0 : Int) ≤ (q : Int) := by omega
          have b1 : (q : Int) + 1 < (n : Int) := by omega
          have b2 : (q : Int) < (n : Int) := by omega
          have r1 : IntKind.i64.wrap ((q : Int) + 1) = (q : Int) + 1 := by rw [IntKind.wrap_i64]; omega
          have r2 : IntKind.i64.wrap (q : Int) = (q : Int) := by rw [IntKind.wrap_i64]; omega
          go_wp2_with fail
          go_region
          clear c1 c2 c3 f1 f2
          generalize ((wr.setCell ⟨blk, off + k, none⟩ (.int .i64 y.1)).setCell ⟨blk, off + q, none⟩ (.int .i64 x.1)).drew = w3 at S3 ⊢
          clear e1 e2 r1 r2
          go_wp2
          go_roundg (q - i)
          case measure => omega
          case rel => exact ⟨q, _, by first | rfl | go_num | (congr 1; omega), by omega, by omega, by omega, S3, P2⟩
        · have hltz : ¬ (i : Int) < (k : Int) := by omega
          go_wp2
          have hki' : k = i := by omega
          rw [hki'] at P1
          have HMM := HM.out
          rw [HA.out] at HMM
          refine bodyPost_ret (v := .tuple #[]) (results_none rfl _ _ _) rfl ?_
          refine ⟨rfl, dk, S1.out, ?_⟩
          rw [HA.out]
          exact merged_last hc HMM (by omega) (by omega) P1.out (fun q h1 h2 => by have := L1.out q h1 h2; omega) G2.out
end Go.Proofs.YtplchlkdijjamaaDoor
