/-
  THE STABLE SORT OF A ROW OF LINES, of any length (SortGenL, turned).
-/
import Derived.Test.YtdpllfgnppeneaaDoorSortGenH
namespace Go.Proofs.YtdpllfgnppeneaaDoor
open Go.RowKit Srt Col
set_option linter.unusedVariables false
set_option linter.unusedSimpArgs false

set_option maxHeartbeats 8000000 in
set_option maxRecDepth 1000000 in
theorem sym_le (c : Hv → Hv → Int) (hc : IsCmp c) (Q : Hv → Prop) (g : Nat) (cb : Array Value) (blk off cap n a m b mid : Nat) (d : Nat → Tag Hv) (w0 w : World)
    (eg : ∀ args w, (callFunc g args).run Tryd.prog w = .ok (.enter g args) w) (hcmp : CmpOKH g cb c Q w0 blk off n) (hQ : ∀ j, j < n → Q (d j).1) (S : SK (fun p : Tag Hv => encH p.1) 5 w0 blk off n d w)
    (hM : Merge c d a m b) (ham : a + 1 < m) (hmb : m + 1 < b) (hb : b ≤ n) (hsz : n < 4611686018427387904) (hmid : mid = (a + b) / 2) (hgt : m ≤ mid) (ih : SymIH c Q g cb blk off cap n (b - a) w0) :
    Calls Tryd.prog 113 #[.slice (some ⟨blk, off, none⟩) n cap, .int .i64 a, .int .i64 m, .int .i64 b, .func (.func g) #[] cb] w fun e w' => e = .returned (.tuple #[]) ∧
      ∃ d', SK (fun p : Tag Hv => encH p.1) 5 w0 blk off n d' w' ∧ Merged c d d' a b := by
  have HC := Lib.hid hcmp; clear hcmp
  have S0 := Lib.hid S; clear S
  have HQ := Lib.hid hQ; clear hQ
  have HM := Lib.hid hM; clear hM
  have IH := Lib.hid ih; clear ih
  have t1 : ((m : Int) - (a : Int) == 1) = false := beq_eq_false_iff_ne.2 (by omega)
  have t2 : ((b : Int) - (m : Int) == 1) = false := beq_eq_false_iff_ne.2 (by omega)
  have zmid : ((a : Int) + (b : Int)) / 2 = (mid : Int) := by omega
  have hm1 : a < mid := by omega
  have hm2 : mid < b := by omega
  have hm3 : mid + mid ≤ a + b := by omega
  have hm4 : a + b ≤ mid + mid + 1 := by omega
  clear hmid
  have hgtz : ¬ (mid : Int) < (m : Int) := by omega
  go_enter Tryd.func113, Tryd.ntmps113
  go_wp2_with fail
  go_loopg [20, 21] (m - a) (fun g1 vs vr wr => ∃ (s r : Nat), vs = .int .i64 s ∧ vr = .int .i64 r ∧ a ≤ s ∧ s ≤ r ∧ r ≤ m ∧ r - s ≤ g1 ∧ Hid (SK (fun p : Tag Hv => encH p.1) 5 w0 blk off n d wr) ∧
    Hid (a < s → ¬ c (d (mid + m - s)).1 (d (s - 1)).1 < 0) ∧ Hid (r < m → c (d (mid + m - 1 - r)).1 (d r).1 < 0))
  case atStart => exact ⟨a, m, by first | rfl | go_num | (congr 1; omega), by first | rfl | (congr 1; omega), by omega, by omega, by omega, by omega, S0, fun h => by omega, fun h => by omega⟩
  case round =>
    clear S0
    obtain ⟨s, r, rfl, rfl, hlo, hsr, hhi, hg1, S1, L1, G1⟩ := hrel
    by_cases hlt : s < r
    · have hltz : (s : Int) < (r : Int) := by omega
      obtain ⟨h, hh⟩ : ∃ h : Nat, Hid (h = (s + r) / 2) := ⟨_, rfl⟩
      have zh : ((s : Int) + (r : Int)) / 2 = (h : Int) := by have := hh.out; omega
      have hhi1 : s ≤ h := by have := hh.out; omega
      have hhj : h < r := by have := hh.out; omega
      obtain ⟨q, hq⟩ : ∃ q : Nat, Hid (q = mid + m - 1 - h) := ⟨_, rfl⟩
      have zq : (mid : Int) + (m : Int) - 1 - (h : Int) = (q : Int) := by have := hq.out; omega
      have hqm : m ≤ q := by have := hq.out; omega
      have hqb : q < b := by have := hq.out; omega
      obtain ⟨x, hx⟩ : ∃ x, Hid (d q = x) := ⟨_, rfl⟩
      obtain ⟨y, hy⟩ : ∃ y, Hid (d h = y) := ⟨_, rfl⟩
      have l10 : ∀ p : BW wr, p.at_.cell? ⟨blk, off + q * 5, none⟩ = some (.int .i64 x.1.rid) := fun p => sk_atH (i := 0) (S1.out.below p.bel) (by omega) hx.out rfl
      have l11 : ∀ p : BW wr, p.at_.cell? ⟨blk, off + q * 5 + 1, none⟩ = some (.int .i64 x.1.nid) := fun p => sk_atH (i := 1) (S1.out.below p.bel) (by omega) hx.out rfl
      have l12 : ∀ p : BW wr, p.at_.cell? ⟨blk, off + q * 5 + 2, none⟩ = some (.slice x.1.la x.1.ln x.1.lc) := fun p => sk_atH (i := 2) (S1.out.below p.bel) (by omega) hx.out rfl
      have l13 : ∀ p : BW wr, p.at_.cell? ⟨blk, off + q * 5 + 3, none⟩ = some (.string x.1.key) := fun p => sk_atH (i := 3) (S1.out.below p.bel) (by omega) hx.out rfl
      have l14 : ∀ p : BW wr, p.at_.cell? ⟨blk, off + q * 5 + 4, none⟩ = some (.slice x.1.ra x.1.rn x.1.rc) := fun p => sk_atH (i := 4) (S1.out.below p.bel) (by omega) hx.out rfl
      have l20 : ∀ p : BW wr, p.at_.cell? ⟨blk, off + h * 5, none⟩ = some (.int .i64 y.1.rid) := fun p => sk_atH (i := 0) (S1.out.below p.bel) (by omega) hy.out rfl
      have l21 : ∀ p : BW wr, p.at_.cell? ⟨blk, off + h * 5 + 1, none⟩ = some (.int .i64 y.1.nid) := fun p => sk_atH (i := 1) (S1.out.below p.bel) (by omega) hy.out rfl
      have l22 : ∀ p : BW wr, p.at_.cell? ⟨blk, off + h * 5 + 2, none⟩ = some (.slice y.1.la y.1.ln y.1.lc) := fun p => sk_atH (i := 2) (S1.out.below p.bel) (by omega) hy.out rfl
      have l23 : ∀ p : BW wr, p.at_.cell? ⟨blk, off + h * 5 + 3, none⟩ = some (.string y.1.key) := fun p => sk_atH (i := 3) (S1.out.below p.bel) (by omega) hy.out rfl
      have l24 : ∀ p : BW wr, p.at_.cell? ⟨blk, off + h * 5 + 4, none⟩ = some (.slice y.1.ra y.1.rn y.1.rc) := fun p => sk_atH (i := 4) (S1.out.below p.bel) (by omega) hy.out rfl
      have hcall := Lib.hid (HC.out wr d S1.out x.1 y.1 (by rw [← hx.out]; exact HQ.out _ (by omega)) (by rw [← hy.out]; exact HQ.out _ (by omega)))
      have b1 : (q : Int) < (n : Int) := by omega
      have b2 : (h : Int) < (n : Int) := by omega
      have p1 : (0 : Int) ≤ (q : Int) := by omega
      have p2 : (0 : Int) ≤ (h : Int) := by omega
      have e1 : ((q : Int)).toNat = q := by omega
      have r1 : IntKind.i64.wrap (q : Int) = (q : Int) := by rw [IntKind.wrap_i64]; omega
      have HLT : Hid (¬ c x.1 y.1 < 0 → a < h + 1 → ¬ c (d (mid + m - (h + 1))).1 (d (h + 1 - 1)).1 < 0) := fun h1 _ => by
        rw [show mid + m - (h + 1) = q by have := hq.out; omega, show h + 1 - 1 = h by omega, hx.out, hy.out]; exact h1
      have HGE : Hid (c x.1 y.1 < 0 → h < m → c (d (mid + m - 1 - h)).1 (d h).1 < 0) := fun h1 _ => by
        rw [← hq.out, hx.out, hy.out]; exact h1
      by_cases hlv : c x.1 y.1 < 0
      · have hd : decide (c x.1 y.1 < 0) = true := decide_eq_true hlv
        have HG := Lib.hid (HGE.out hlv)
        clear HLT HGE G1
        go_wp2_with fail
        refine wp_region_quiet_below (by kernel_rfl) (by kernel_rfl) ?_
        repeat (go_big_quiet_step (exact below_quiet (hcall.out _)))
        refine wpQuiet_nil ?_
        intro w2 hw'
        have hb2 := bw_below hw'
        clear hw'
        have S2 : Hid (SK (fun p : Tag Hv => encH p.1) 5 w0 blk off n d w2) := S1.out.below hb2
        clear l10 l20 l11 l21 l12 l22 l13 l23 l14 l24 hcall S1 hb2
        go_wp2
        go_roundg (h - s)
        case measure => omega
        case rel => exact ⟨s, h, rfl, by first | rfl | (congr 1; omega), by omega, by omega, by omega, by omega, S2, L1, HG⟩
      · have hd : decide (c x.1 y.1 < 0) = false := decide_eq_false hlv
        have HL := Lib.hid (HLT.out hlv)
        clear HLT HGE L1
        go_wp2_with fail
        refine wp_region_quiet_below (by kernel_rfl) (by kernel_rfl) ?_
        repeat (go_big_quiet_step (exact below_quiet (hcall.out _)))
        refine wpQuiet_nil ?_
        intro w2 hw'
        have hb2 := bw_below hw'
        clear hw'
        have S2 : Hid (SK (fun p : Tag Hv => encH p.1) 5 w0 blk off n d w2) := S1.out.below hb2
        clear l10 l20 l11 l21 l12 l22 l13 l23 l14 l24 hcall S1 hb2
        go_wp2
        go_roundg (r - (h + 1))
        case measure => omega
        case rel => exact ⟨h + 1, r, by first | rfl | go_num | (congr 1; omega), rfl, by omega, by omega, by omega, by omega, S2, HL, G1⟩
    · have hltz : ¬ (s : Int) < (r : Int) := by omega
      have HSR : Hid (s = r) := show s = r by omega
      obtain ⟨e, he⟩ : ∃ e : Nat, Hid (e = mid + m - s) := ⟨_, rfl⟩
      have ze : (mid : Int) + (m : Int) - (s : Int) = (e : Int) := by have := he.out; omega
      have hem : m ≤ e := by have := he.out; omega
      have heb : e ≤ b := by have := he.out; omega
      have hsm : s ≤ m := by omega
      have has : a ≤ s := by omega
      have hsmid : s ≤ mid := by omega
      have hmide : mid ≤ e := by have := he.out; omega
      have HP : Hid (∀ d1, Rotated d d1 s m e → Merge c d1 a s mid ∧ Merge c d1 mid e b ∧ ∀ i j, a ≤ i → i < mid → mid ≤ j → j < b → lexLt c (d1 i) (d1 j)) := fun d1 hr =>
        sym_parts hc HM.out (by omega) (by omega) (by omega) (by omega) (by have := he.out; omega) hr
          (fun h1 h2 => by have := L1.out (by have := he.out; omega); rw [← he.out] at this; exact this)
          (fun h1 h2 => by have := G1.out (by have := he.out; have := HSR.out; omega); rw [← HSR.out, show mid + m - 1 - s = e - 1 by have := he.out; omega] at this; exact this)
      clear L1 G1
      go_upto_region 39 with fail
      go_cut [185] from 178 to 184 (fun sv wx => ∃ bb : Bool, sv = .bool bb ∧ Hid ((bb = true → s < m ∧ m < e) ∧ (bb = false → ¬ (s < m ∧ m < e))) ∧ Hid (SK (fun p : Tag Hv => encH p.1) 5 w0 blk off n d wx))
      case first =>
        by_cases q1 : s < m
        · by_cases q2 : m < e
          · have q1a : (s : Int) < (m : Int) := by omega
            have q2a : (m : Int) < (e : Int) := by omega
            go_wp2
            go_meet
            exact ⟨true, rfl, ⟨fun _ => ⟨q1, q2⟩, (fun h => by cases h)⟩, S1⟩
          · have q1a : (s : Int) < (m : Int) := by omega
            have q2a : ¬ (m : Int) < (e : Int) := by omega
            go_wp2
            go_meet
            exact ⟨false, rfl, ⟨(fun h => by cases h), fun _ h => by omega⟩, S1⟩
        · have q1a : ¬ (s : Int) < (m : Int) := by omega
          go_wp2
          go_meet
          exact ⟨false, rfl, ⟨(fun h => by cases h), fun _ h => by omega⟩, S1⟩
      case rest =>
        obtain ⟨bb, rfl, HBB, SB⟩ := hcut
        clear S1
        go_upto_if 185 with fail
        go_cut [] from 186 to 191 (fun wx => Hid (∃ d1, SK (fun p : Tag Hv => encH p.1) 5 w0 blk off n d1 wx ∧ Rotated d d1 s m e))
        case first =>
          cases bb with
          | true =>
            have q1 := (HBB.out.1 rfl).1
            have q2 := (HBB.out.1 rfl).2
            go_wp2_with fail
            refine (rotate_at s m e rfl rfl rfl SB q1 q2 (by omega) hsz).mono ?_
            rintro e0 w1 ⟨rfl, hw1⟩
            have hw1' := Lib.hid hw1; clear hw1
            go_wp2
            go_meet
            exact hw1'
          | false =>
            have q3 := Lib.hid (HBB.out.2 rfl)
            go_wp2
            go_meet
            exact ⟨d, SB.out, rot_skip d hsm hem q3.out⟩
        case rest =>
          clear HBB
          obtain ⟨d1, S2, P2⟩ := hcut.out
          clear hcut SB
          have S2' := Lib.hid S2; clear S2
          have HPT := Lib.hid (HP.out d1 P2)
          have HPM := Lib.hid ((P2.permOn hsm hem).wider (a' := a) (b' := b) has heb (by omega))
          have HQ2 := Lib.hid (perm_allH HPM.out hb HQ.out)
          clear P2 HP
          go_upto_region 41 with fail
          go_cut [199] from 192 to 198 (fun sv wx => ∃ bb : Bool, sv = .bool bb ∧ Hid ((bb = true → a < s ∧ s < mid) ∧ (bb = false → ¬ (a < s ∧ s < mid))) ∧ Hid (SK (fun p : Tag Hv => encH p.1) 5 w0 blk off n d1 wx))
          case first =>
            by_cases q1 : a < s
            · by_cases q2 : s < mid
              · have q1a : (a : Int) < (s : Int) := by omega
                have q2a : (s : Int) < (mid : Int) := by omega
                go_wp2
                go_meet
                exact ⟨true, rfl, ⟨fun _ => ⟨q1, q2⟩, (fun h => by cases h)⟩, S2'⟩
              · have q1a : (a : Int) < (s : Int) := by omega
                have q2a : ¬ (s : Int) < (mid : Int) := by omega
                go_wp2
                go_meet
                exact ⟨false, rfl, ⟨(fun h => by cases h), fun _ h => by omega⟩, S2'⟩
            · have q1a : ¬ (a : Int) < (s : Int) := by omega
              go_wp2
              go_meet
              exact ⟨false, rfl, ⟨(fun h => by cases h), fun _ h => by omega⟩, S2'⟩
          case rest =>
            obtain ⟨bb, rfl, HBB, SB⟩ := hcut
            clear S2'
            go_upto_if 199 with fail
            go_cut [] from 200 to 205 (fun wx => Hid (∃ d2, SK (fun p : Tag Hv => encH p.1) 5 w0 blk off n d2 wx ∧ Merged c d1 d2 a mid))
            case first =>
              cases bb with
              | true =>
                have q1 := (HBB.out.1 rfl).1
                have q2 := (HBB.out.1 rfl).2
                go_wp2_with fail
                refine (IH.out a s mid d1 _ q1 q2 (by omega) (by omega) SB HPT.out.1 HQ2 _ _ _ rfl rfl rfl).mono ?_
                rintro e0 w1 ⟨rfl, hw1⟩
                have hw1' := Lib.hid hw1; clear hw1
                go_wp2
                go_meet
                exact hw1'
              | false =>
                have q3 := Lib.hid (HBB.out.2 rfl)
                go_wp2
                go_meet
                exact ⟨d1, SB.out, merge_skip HPT.out.1 has hsmid q3.out⟩
            case rest =>
              clear HBB
              obtain ⟨d2, S3, P3⟩ := hcut.out
              clear hcut SB
              have S3' := Lib.hid S3; clear S3
              have P3' := Lib.hid P3; clear P3
              have HQ3 := Lib.hid (perm_allH P3'.out.perm (by omega) HQ2.out)
              have HM2 := Lib.hid (HPT.out.2.1.congr (d' := d2) (fun k h1 h2 => P3'.out.perm.out k (by omega)) hmide heb)
              go_upto_region 43 with fail
              go_cut [213] from 206 to 212 (fun sv wx => ∃ bb : Bool, sv = .bool bb ∧ Hid ((bb = true → mid < e ∧ e < b) ∧ (bb = false → ¬ (mid < e ∧ e < b))) ∧ Hid (SK (fun p : Tag Hv => encH p.1) 5 w0 blk off n d2 wx))
              case first =>
                by_cases q1 : mid < e
                · by_cases q2 : e < b
                  · have q1a : (mid : Int) < (e : Int) := by omega
                    have q2a : (e : Int) < (b : Int) := by omega
                    go_wp2
                    go_meet
                    exact ⟨true, rfl, ⟨fun _ => ⟨q1, q2⟩, (fun h => by cases h)⟩, S3'⟩
                  · have q1a : (mid : Int) < (e : Int) := by omega
                    have q2a : ¬ (e : Int) < (b : Int) := by omega
                    go_wp2
                    go_meet
                    exact ⟨false, rfl, ⟨(fun h => by cases h), fun _ h => by omega⟩, S3'⟩
                · have q1a : ¬ (mid : Int) < (e : Int) := by omega
                  go_wp2
                  go_meet
                  exact ⟨false, rfl, ⟨(fun h => by cases h), fun _ h => by omega⟩, S3'⟩
              case rest =>
                obtain ⟨bb, rfl, HBB, SB⟩ := hcut
                clear S3'
                cases bb with
                | true =>
                  have q1 := (HBB.out.1 rfl).1
                  have q2 := (HBB.out.1 rfl).2
                  go_wp2_with fail
                  refine (IH.out mid e b d2 _ q1 q2 (by omega) (by omega) SB HM2.out HQ3 _ _ _ rfl rfl rfl).mono ?_
                  rintro e0 w1 ⟨rfl, d3, S4, P4⟩
                  have S4' := Lib.hid S4; clear S4
                  have P4' := Lib.hid P4; clear P4
                  go_wp2
                  go_end0
                  exact ⟨rfl, d3, S4'.out, sym_all (by omega) (by omega) HPM.out P3'.out P4'.out HPT.out.2.2⟩
                | false =>
                  have q3 := Lib.hid (HBB.out.2 rfl)
                  go_wp2
                  go_end0
                  exact ⟨rfl, d2, SB.out, sym_all (by omega) (by omega) HPM.out P3'.out (merge_skip HM2.out hmide heb q3.out) HPT.out.2.2⟩
end Go.Proofs.YtdpllfgnppeneaaDoor
