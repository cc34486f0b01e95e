import Derived.Test.YthcabnfcgjnlnaaGreatDoorK11
import Derived.Deep.MidRow
import Derived.Deep.Upon
/-
  tiers.Kids: the numbers of the notes of a tier with one parent, in order.
-/
namespace Go.Proofs.YthcabnfcgjnlnaaGreatDoor
open Go.RowKit Ru Lay Srt Col
attribute [local go_sem ↓] Go.wp_at_zero Go.wp_at_succ
set_option linter.unusedVariables false
set_option linter.unusedSimpArgs false

instance : Inhabited Nt := ⟨nt0⟩
theorem info_note : (Tryz.prog.info? 58).map (fun i => (i.zero, i.size, i.bytes)) = some (some (noteV nt0), 7, 64) := by kernel_rfl
theorem own_i {w : World} {base : Nat} {v : Value} {l : List Int} {x : Int} (h : w.ownsRow base 3 1 v (l.length + 1) (intV l ++ [.int .i64 x])) : OwnI w base v (l ++ [x]) := by
  show World.ownsRow _ _ _ _ _ _ _
  unfold intV at *
  rw [List.length_append, List.length_singleton, List.map_append]
  exact h
theorem ids_take {l : List Nt} {k : Nat} {x : Nt} (h : l[k]? = some x) : (l.map Nt.nid).take (k + 1) = (l.map Nt.nid).take k ++ [x.nid] := take_at2 (by rw [List.getElem?_map, h]; rfl)
/-- The notes, sorted: as the world holds them. -/
theorem sortedN_any (base : Nat) (v : Value) (l : List Nt) (w : World) (h : OwnR encN 7 58 w base v l) (hn : l.length < 20) :
    Calls Tryz.prog 90 #[v, .func (.func 91) #[] #[]] w fun e w' => e = .returned (.tuple #[]) ∧ OwnR encN 7 58 w' base v (sortN l) ∧ Below base w w' := by
  rcases Nat.eq_zero_or_pos l.length with e0 | e0
  · have hl := List.eq_nil_of_length_eq_zero e0
    subst hl
    obtain ⟨A, c, rfl, _, _, _⟩ := h.form
    refine (ssfN_none _ A c w).mono ?_
    rintro e w' ⟨rfl, rfl⟩
    exact ⟨rfl, h, Below.refl _ _⟩
  · obtain ⟨g, cap, rfl⟩ : ∃ g cap, v = .slice (some ⟨g, 0, none⟩) l.length cap := by
      rcases h.2 with ⟨_, h2⟩ | ⟨g, cap, cur, hv, _⟩
      · omega
      · exact ⟨g, cap, hv⟩
    have hg := (h.lt g rfl).1
    have hS : SK (fun p : Tag Nt => encN p.1) 7 w g 0 l.length (tagged l) w := by
      have h2 := SK.start (enc := encN) (d := fun k => l.getD k default) encN_len (by omega) h (fun j x hx => by rw [List.getD, hx]; rfl)
      exact ⟨h2.os, h2.tape, h2.output, h2.size, h2.block, h2.lt, h2.cells, h2.there, h2.obj⟩
    refine (ssfN_few ordN ordN_is (fun _ => True) 91 #[] g 0 cap l.length (tagged l) w (enters_of Tryz.func91 (by kernel_rfl) rfl)
      (fun W d _ x y _ _ p => ordN_any x y p.at_) (fun _ _ => trivial) hS hn (fun _ => rfl)).mono ?_
    rintro e w' ⟨rfl, d', h1, h2, h3⟩
    have hst := sortN_of (stableOf_of (c := ordN) (xs := l) (d := d') h2 h3)
    refine ⟨rfl, ?_, h1.belowBase hg⟩
    have h4 : SK encN 7 w g 0 l.length (fun k => (d' k).1) w' := ⟨h1.os, h1.tape, h1.output, h1.size, h1.block, h1.lt, h1.cells, h1.there, h1.obj⟩
    have hlen : (sortN l).length = l.length := by rw [← hst]; simp [listOf]
    have h5 := h4.owned encN_len (by omega) h hlen (fun j hj => by rw [← hst]; simp [listOf, hj])
    exact h5
theorem kids_cells (w : World) (rid : Int) (name : ByteArray) (len day : Int) (sa ta na : Option Addr) (sn sc tn tc nn nc : Nat) : ∃ W0, w.alloc (.cells #[.int .i64 rid, .string name, .int .i64 len, .int .i64 day, .slice sa sn sc, .slice ta tn tc, .slice na nn nc] 38) = W0 ∧ W0.heap.size = w.heap.size + 1 ∧ Below w.heap.size w W0 ∧
    ∀ W, Below W0.heap.size W0 W → W.rangeAt w.heap.size 0 [.int .i64 rid, .string name, .int .i64 len, .int .i64 day, .slice sa sn sc, .slice ta tn tc, .slice na nn nc] := by
  refine ⟨_, rfl, by simp, (Below.refl _ w).alloc (Nat.le_refl _) _, fun W hW => ?_⟩
  refine range_below hW (by simp) ?_
  intro j v hv
  rw [Nat.zero_add, World.cell?_alloc_new w _ _ j, ← hv, ← List.getElem?_toArray]
set_option maxHeartbeats 4000000 in
set_option maxRecDepth 100000 in
theorem kids_any (d : Dv) (l : List Nt) (id tier : Int) (w : World) (hl : NotesR w w.heap.size d.na d.nn l) (hn : d.nn < 20) (ht : d.tn ≤ 9223372036854775807) :
    Calls Tryz.prog 62 #[docV d, .int .i64 id, .int .i64 tier] w fun e w' => ∃ v, e = .returned v ∧ OwnI w' w.heap.size v (kidsL d.tn l id tier) ∧ Below w.heap.size w w' := by
  have HL := Lib.hid hl
  have HLN := Lib.hid hl.len
  clear hl
  unfold docV
  obtain ⟨rid, name, len, day, sa, sn, sc, ta, tn, tc, na, nn, nc⟩ := d
  simp only at HL HLN hn ht ⊢
  go_enter Tryz.func62, Tryz.ntmps62
  go_wp2_with fail
  obtain ⟨W0, hW0, hz0, hB, hK⟩ := kids_cells w rid name len day sa ta na sn sc tn tc nn nc
  have HB := Lib.hid hB
  have HK := Lib.hid hK
  rw [hW0]
  clear hW0 hB hK
  go_loopw [7, 9, 16] (fun v7 v9 v16 wr => ∃ i : Nat, i ≤ nn ∧ v16 = .int .i64 i ∧ Hid (OwnR encN 7 58 wr W0.heap.size v7 (sibs tn (l.take i) id tier)) ∧ Hid (Below W0.heap.size W0 wr)) (fun _ _ v16 _ => nn - (intOf v16).toNat)
  case atStart => exact ⟨0, Nat.zero_le _, rfl, (by rw [List.take_zero]; exact OwnR.nil), Below.refl _ _⟩
  case round =>
    obtain ⟨i, hi, rfl, HO, HB0⟩ := hrel
    obtain ⟨w0, hw0⟩ : ∃ w0, wr = w0 := ⟨_, rfl⟩
    rw [hw0] at HO HB0 ⊢
    clear hw0
    have HBW : Hid (Below w.heap.size w w0) := HB.out.trans (HB0.out.mono HB.out.size)
    by_cases hlt : i < nn
    · have hiz : (i : Int) < (nn : Int) := by omega
      have hiA : (0 : Int) ≤ (i : Int) := by omega
      obtain ⟨ad, x, rfl, hab, hx, hcells⟩ := HL.out.at_ hlt
      obtain ⟨q0, q1, q2, q3, q4, q5, q6⟩ := hcells w0 HBW.out
      have HI := Lib.hid hlt
      have HNX := Lib.hid (sibs_next (tn := tn) (id := id) (tier := tier) hx)
      have hsz := HB0.out.size
      have HBA : Hid (Below W0.heap.size W0 (w0.alloc (.cells #[.int .i64 x.nid, .int .i64 x.tier, .int .i64 x.parent, .int .i64 x.at1, .int .i64 x.at2, .int .i64 x.rank, .string x.text] 58))) := HB0.out.alloc hsz _
      have hk := HK.out _ HBA.out
      have k5 : (w0.alloc (.cells #[.int .i64 x.nid, .int .i64 x.tier, .int .i64 x.parent, .int .i64 x.at1, .int .i64 x.at2, .int .i64 x.rank, .string x.text] 58)).cell? ⟨w.heap.size, 5, none⟩ = some (.slice ta tn tc) := hk 5 _ rfl
      have hlls : (sibs tn (l.take i) id tier).length ≤ i := Nat.le_trans sibs_len (by rw [List.length_take]; omega)
      obtain ⟨ll, hlq⟩ : ∃ ll, sibs tn (l.take i) id tier = ll := ⟨_, rfl⟩
      rw [hlq] at HO HNX hlls
      have hi1 : i + 1 ≤ nn := hlt
      clear hx hcells hk hlq
      by_cases ht0 : x.tier = tier
      · have hbt : (x.tier == tier) = true := beq_iff_eq.2 ht0
        have ht1 := Lib.hid ht0
        clear ht0
        by_cases hp0 : x.parent = id
        · have hbp : (x.parent == id) = true := beq_iff_eq.2 hp0
          have hp1 := Lib.hid hp0
          clear hp0
          by_cases h0 : 0 ≤ tier
          · have hd0 : decide (tier ≥ 0) = true := decide_eq_true h0
            by_cases h1 : tier < (tn : Int)
            · have hd1 : decide (tier < (tn : Int)) = true := decide_eq_true h1
              have HNX2 : Hid (sibs tn (l.take (i + 1)) id tier = ll ++ [x]) := by show _ = _; rw [HNX.out, if_pos ⟨ht1.out, hp1.out, h0, h1⟩]
              have HO1 : Hid (OwnR encN 7 58 (w0.alloc (.cells #[.int .i64 x.nid, .int .i64 x.tier, .int .i64 x.parent, .int .i64 x.at1, .int .i64 x.at2, .int .i64 x.rank, .string x.text] 58)) W0.heap.size u7 ll) := HO.out.on ((Below.refl _ w0).alloc (Nat.le_refl _) _)
              have hsa : (w0.alloc (.cells #[.int .i64 x.nid, .int .i64 x.tier, .int .i64 x.parent, .int .i64 x.at1, .int .i64 x.at2, .int .i64 x.rank, .string x.text] 58)).heap.size = w0.heap.size + 1 := by simp
              clear HO HNX
              go_wp2_with (at_builtin; refine wpList_appN rfl (.tmp 41) (.tmp 43) 36 rfl W0.heap.size 58 7 64 (noteV nt0) info_note rfl (by omega) Tryz.underlying36 rfl HO1.out (by rw [hsa]; rfl) rfl (by simp [Value.oneCell']) (by omega) (by omega) (by omega) ?_; rintro v7' w4 hown7 hb7)
              have HO3 : Hid (OwnR encN 7 58 w4 W0.heap.size v7' (sibs tn (l.take (i + 1)) id tier)) := by
                show OwnR _ _ _ _ _ _ _
                rw [HNX2.out]
                exact OwnR.snoc hown7
              have HB3 : Hid (Below W0.heap.size W0 w4) := HBA.out.trans hb7
              clear HO1 HNX2 hown7 hb7
              go_wp2
              go_roundw
              case rel => exact ⟨i + 1, hi1, by go_num, HO3, HB3⟩
              case measure => have := HI.out; simp [intOf]; omega
            · have hd1 : decide (tier < (tn : Int)) = false := decide_eq_false h1
              have HO2 : Hid (OwnR encN 7 58 (w0.alloc (.cells #[.int .i64 x.nid, .int .i64 x.tier, .int .i64 x.parent, .int .i64 x.at1, .int .i64 x.at2, .int .i64 x.rank, .string x.text] 58)) W0.heap.size u7 (sibs tn (l.take (i + 1)) id tier)) := by
                show OwnR _ _ _ _ _ _ _
                rw [HNX.out, if_neg (fun h => h1 h.2.2.2), List.append_nil]
                exact HO.out.on ((Below.refl _ w0).alloc (Nat.le_refl _) _)
              clear HO HNX
              go_wp2
              go_roundw
              case rel => exact ⟨i + 1, hi1, by go_num, HO2, HBA⟩
              case measure => have := HI.out; simp [intOf]; omega
          · have hd0 : decide (tier ≥ 0) = false := decide_eq_false h0
            have HO2 : Hid (OwnR encN 7 58 (w0.alloc (.cells #[.int .i64 x.nid, .int .i64 x.tier, .int .i64 x.parent, .int .i64 x.at1, .int .i64 x.at2, .int .i64 x.rank, .string x.text] 58)) W0.heap.size u7 (sibs tn (l.take (i + 1)) id tier)) := by
              show OwnR _ _ _ _ _ _ _
              rw [HNX.out, if_neg (fun h => h0 h.2.2.1), List.append_nil]
              exact HO.out.on ((Below.refl _ w0).alloc (Nat.le_refl _) _)
            clear HO HNX
            go_wp2
            go_roundw
            case rel => exact ⟨i + 1, hi1, by go_num, HO2, HBA⟩
            case measure => have := HI.out; simp [intOf]; omega
        · have hbp : (x.parent == id) = false := beq_eq_false_iff_ne.2 hp0
          have HO2 : Hid (OwnR encN 7 58 (w0.alloc (.cells #[.int .i64 x.nid, .int .i64 x.tier, .int .i64 x.parent, .int .i64 x.at1, .int .i64 x.at2, .int .i64 x.rank, .string x.text] 58)) W0.heap.size u7 (sibs tn (l.take (i + 1)) id tier)) := by
            show OwnR _ _ _ _ _ _ _
            rw [HNX.out, if_neg (fun h => hp0 h.2.1), List.append_nil]
            exact HO.out.on ((Below.refl _ w0).alloc (Nat.le_refl _) _)
          clear HO HNX
          go_wp2
          go_roundw
          case rel => exact ⟨i + 1, hi1, by go_num, HO2, HBA⟩
          case measure => have := HI.out; simp [intOf]; omega
      · have hbt : (x.tier == tier) = false := beq_eq_false_iff_ne.2 ht0
        have HO2 : Hid (OwnR encN 7 58 (w0.alloc (.cells #[.int .i64 x.nid, .int .i64 x.tier, .int .i64 x.parent, .int .i64 x.at1, .int .i64 x.at2, .int .i64 x.rank, .string x.text] 58)) W0.heap.size u7 (sibs tn (l.take (i + 1)) id tier)) := by
          show OwnR _ _ _ _ _ _ _
          rw [HNX.out, if_neg (fun h => ht0 h.1), List.append_nil]
          exact HO.out.on ((Below.refl _ w0).alloc (Nat.le_refl _) _)
        clear HO HNX
        go_wp2
        go_roundw
        case rel => exact ⟨i + 1, hi1, by go_num, HO2, HBA⟩
        case measure => have := HI.out; simp [intOf]; omega
    · obtain rfl : nn = i := by omega
      have hiz : ¬ (nn : Int) < (nn : Int) := by omega
      have HOE : Hid (OwnR encN 7 58 w0 W0.heap.size u7 (sibs tn l id tier)) := by
        have := HO.out
        rw [List.take_of_length_le (by rw [HLN.out]; exact Nat.le_refl _)] at this
        exact this
      have hls : (sibs tn l id tier).length < 20 := Nat.lt_of_le_of_lt sibs_len (by rw [HLN.out]; exact hn)
      have HSRT := Lib.hid (sortedN_any _ _ _ _ HOE.out hls)
      clear HO HOE
      go_wp2_with fail
      refine HSRT.out.mono ?_
      rintro e w1 ⟨rfl, ho1, hb1⟩
      have HB1 : Hid (Below w.heap.size w w1) := HBW.out.trans (hb1.mono HB.out.size)
      have hsz1 : W0.heap.size ≤ w1.heap.size := Nat.le_trans HB0.out.size hb1.size
      clear hb1 HSRT
      obtain ⟨A, c, hv, hnc, hcm, hrr⟩ := ho1.form
      have HKD : Hid (kidsL tn l id tier = (sortN (sibs tn l id tier)).map Nt.nid) := rfl
      have hlen : (sortN (sibs tn l id tier)).length < 20 := by
        have h1 := sortN_stable (sibs tn l id tier) _ (Nat.le_refl _)
        rw [List.take_length] at h1
        rw [h1.perm.length_eq]
        exact hls
      obtain ⟨ls, hls2⟩ : ∃ ls, sortN (sibs tn l id tier) = ls := ⟨_, rfl⟩
      rw [hls2] at hv hnc hrr HKD hlen
      subst hv
      have HR := Lib.hid hrr
      clear hrr ho1 hls2 hls
      obtain ⟨m, hm⟩ : ∃ m, ls.length = m := ⟨_, rfl⟩
      rw [hm] at HR hnc hlen ⊢
      have HM := Lib.hid hm
      clear hm
      go_wp2_with fail
      go_loopw [10, 12, 50] (fun v10 v12 v50 wr => ∃ k : Nat, k ≤ m ∧ v50 = .int .i64 k ∧ Hid (OwnI wr w1.heap.size v10 ((ls.map Nt.nid).take k)) ∧ Hid (Below w1.heap.size w1 wr)) (fun _ _ v50 _ => m - (intOf v50).toNat)
      case atStart => exact ⟨0, Nat.zero_le _, rfl, (by rw [List.take_zero]; exact OwnI.nil _ _), Below.refl _ _⟩
      case round =>
        obtain ⟨k, hk, rfl, HO, HB2⟩ := hrel
        obtain ⟨w2, hw2⟩ : ∃ w2, wr = w2 := ⟨_, rfl⟩
        rw [hw2] at HO HB2 ⊢
        clear hw2
        by_cases hlt2 : k < m
        · have hkz : (k : Int) < (m : Int) := by omega
          have hkA : (0 : Int) ≤ (k : Int) := by omega
          obtain ⟨ad, x, rfl, hab, hx, hcells⟩ := NotesR.at_ HR.out hlt2
          obtain ⟨q0, q1, q2, q3, q4, q5, q6⟩ := hcells w2 HB2.out
          have HI := Lib.hid hlt2
          have HNX := Lib.hid (ids_take hx)
          have hll : ((ls.map Nt.nid).take k).length ≤ k := by rw [List.length_take]; omega
          obtain ⟨ll, hlq⟩ : ∃ ll, (ls.map Nt.nid).take k = ll := ⟨_, rfl⟩
          rw [hlq] at HO HNX hll
          have hsz2 := HB2.out.size
          have HO1 := Lib.hid (HO.out.on ((Below.refl _ w2).alloc (Nat.le_refl _) (.cells #[.int .i64 x.nid, .int .i64 x.tier, .int .i64 x.parent, .int .i64 x.at1, .int .i64 x.at2, .int .i64 x.rank, .string x.text] 58)))
          have hsa : (w2.alloc (.cells #[.int .i64 x.nid, .int .i64 x.tier, .int .i64 x.parent, .int .i64 x.at1, .int .i64 x.at2, .int .i64 x.rank, .string x.text] 58)).heap.size = w2.heap.size + 1 := by simp
          have HB2' : Hid (Below w1.heap.size w1 (w2.alloc (.cells #[.int .i64 x.nid, .int .i64 x.tier, .int .i64 x.parent, .int .i64 x.at1, .int .i64 x.at2, .int .i64 x.rank, .string x.text] 58))) := HB2.out.alloc hsz2 _
          clear hx hcells hlq HO
          go_wp2_with (at_builtin; refine wpList_app1 rfl (.tmp 54) (.tmp 57) 32 rfl w1.heap.size 3 8 (.int .i64 0) info_int rfl Tryz.underlying32 rfl HO1.out (by rw [hsa]; rfl) rfl (by omega) (by omega) (by omega) ?_; rintro v7' w4 hown7 hb7 hs7 hk7; clear hk7)
          have hO3 := own_i hown7
          rw [← HNX.out] at hO3
          have HO3 := Lib.hid hO3
          have HB3 : Hid (Below w1.heap.size w1 w4) := HB2'.out.trans hb7
          clear hO3 hown7 hb7 hs7 HO1
          have hk1 : k + 1 ≤ m := HI.out
          go_wp2
          go_roundw
          case rel => exact ⟨k + 1, hk1, by go_num, HO3, HB3⟩
          case measure => have := HI.out; simp [intOf]; omega
        · obtain rfl : m = k := by omega
          have hkz : ¬ (m : Int) < (m : Int) := by omega
          have h0 := HO.out
          rw [List.take_of_length_le (by rw [List.length_map, HM.out]; exact Nat.le_refl _), ← HKD.out] at h0
          have HO5 := Lib.hid h0
          clear h0
          go_wp2
          go_ret
          exact ⟨_, rfl, own_base HO5.out HB1.out.size, HB1.out.trans (HB2.out.mono HB1.out.size)⟩
end Go.Proofs.YthcabnfcgjnlnaaGreatDoor
/-
  The reference's siblings of a note; whether some notes overlap; whether they are ranked.
-/
namespace Go.Proofs.YthcabnfcgjnlnaaGreatDoor
open Go.RowKit Ru Lay
attribute [local go_sem ↓] Go.wp_at_zero Go.wp_at_succ
set_option linter.unusedVariables false
set_option linter.unusedSimpArgs false

def sibF (l : List Nt) (tier parent : Int) : List Nt := l.filter fun n => decide (n.tier = tier) && decide (n.parent = parent)
/-- A call that answers a bool, of which something holds; it lays new blocks at most. -/
def BoolIf (p : Bool → Prop) (w : World) (e : Ending) (w' : World) : Prop := ∃ b : Bool, e = .returned (.bool b) ∧ p b ∧ Below w.heap.size w w'
theorem BoolIf.of {p : Bool → Prop} {w w' : World} (b : Bool) (h : p b) (hb : Below w.heap.size w w') : BoolIf p w (.returned (.bool b)) w' := ⟨b, rfl, h, hb⟩
/-- No two of some notes have a time in common. -/
def NoOver (l : List Nt) : Prop := ∀ (i k : Nat) (x y : Nt), k < i → l[i]? = some x → l[k]? = some y → ¬ (x.at1 < y.at2 ∧ y.at1 < x.at2)
/-- The ranks of some notes are 0, 1, and so on. -/
def Ranked (l : List Nt) : Prop := ∀ k, k < l.length → ∃ (i : Nat) (x : Nt), l[i]? = some x ∧ x.rank = (k : Int)
end Go.Proofs.YthcabnfcgjnlnaaGreatDoor
/-
  The reference's spans of notes; Covers returns.
-/
namespace Go.Proofs.YthcabnfcgjnlnaaGreatDoor
open Go.RowKit Ru Lay
attribute [local go_sem ↓] Go.wp_at_zero Go.wp_at_succ
set_option linter.unusedVariables false
set_option linter.unusedSimpArgs false

def encS (p : Int × Int) : List Value := [.int .i64 p.1, .int .i64 p.2]
theorem encS_len2 (p : Int × Int) : (encS p).length = 2 := rfl
def SpO (w : World) (base : Nat) (v : Value) (l : List (Int × Int)) : Prop := OwnR encS 2 56 w base v l
def SpR (w : World) (B : Nat) (A : Option Addr) (n : Nat) (l : List (Int × Int)) : Prop := RecR encS 2 w B A n l
theorem SpR.on {w w' : World} {n : Nat} {A : Option Addr} {l : List (Int × Int)} (h : SpR w w.heap.size A n l) (hb : Below w.heap.size w w') : SpR w' w'.heap.size A n l := RecR.on h hb
theorem SpR.at_ {w : World} {B n k : Nat} {A : Option Addr} {l : List (Int × Int)} (hh : SpR w B A n l) (hk : k < n) :
    ∃ ad x, A = some ad ∧ ad.block < B ∧ l[k]? = some x ∧ ∀ W, Below B w W → W.cell? (ad.add (k * 2)) = some (.int .i64 x.1) ∧ W.cell? ⟨(ad.add (k * 2)).block, (ad.add (k * 2)).off + 1, none⟩ = some (.int .i64 x.2) := by
  obtain ⟨ad, x, e, hb, hx, _, _⟩ := RecR.at_ encS_len2 (by omega) hh hk
  refine ⟨ad, x, e, hb, hx, fun W hW => ?_⟩
  obtain ⟨ad', x', e', _, hx', h0, hj⟩ := RecR.at_ encS_len2 (by omega) (RecR.below hh hW) hk
  rw [e] at e'
  cases e'
  rw [hx] at hx'
  cases hx'
  exact ⟨h0 _ rfl, hj 1 _ (by omega) rfl⟩
theorem SpO.form {w : World} {base : Nat} {v : Value} {l : List (Int × Int)} (h : SpO w base v l) : ∃ A c, v = .slice A l.length c ∧ l.length ≤ c ∧ c ≤ 9223372036854775807 ∧ SpR w w.heap.size A l.length l := OwnR.form h
theorem SpO.on {w w' : World} {base : Nat} {v : Value} {l : List (Int × Int)} (h : SpO w base v l) (hb : Below w.heap.size w w') : SpO w' base v l := OwnR.on h hb
/-- A call that answers a row of at most m spans of its own. -/
def SpPost (m : Nat) (w : World) (e : Ending) (w' : World) : Prop := ∃ v ys, e = .returned v ∧ ys.length ≤ m ∧ SpO w' w.heap.size v ys ∧ Below w.heap.size w w'
theorem SpPost.of {m : Nat} {w w' : World} {v : Value} {ys : List (Int × Int)} (h : ys.length ≤ m) (ho : SpO w' w.heap.size v ys) (hb : Below w.heap.size w w') : SpPost m w (.returned v) w' := ⟨v, ys, rfl, h, ho, hb⟩
end Go.Proofs.YthcabnfcgjnlnaaGreatDoor
/-
  A REGION THAT DRAWS ITS ORDER, of which one operation stores into a block that was there (the cell of a result): each operation is shown once.
-/
namespace Go.Proofs.YthcabnfcgjnlnaaGreatDoor
open Go Go.RowKit
set_option linter.unusedVariables false
variable {P : Program} {ops : Array Oper} {Q : Exit → Act → World → Prop}

/-- All that was there but for block q is as it was. -/
structure BelowX (q : Nat) (a w : World) : Prop where
  os : w.os = a.os
  tape : w.tape = a.tape
  output : w.output = a.output
  size : a.heap.size ≤ w.heap.size
  block : ∀ k, k < a.heap.size → k ≠ q → w.heap[k]? = a.heap[k]?
  keep : ∀ n, a.there q 0 n → w.there q 0 n
theorem there_lt {w : World} {b o n : Nat} (h : w.there b o n) (hn : 0 < n) : b < w.heap.size := by
  have h1 := (h 0 hn).1
  rcases Nat.lt_or_ge b w.heap.size with h2 | h2
  · exact h2
  · simp [World.cell?, Array.getElem?_eq_none h2] at h1
theorem BelowX.of {q : Nat} {a w : World} (h : Below a.heap.size a w) : BelowX q a w := ⟨h.os, h.tape, h.output, h.size, fun k hk _ => h.block k hk, fun n hn j hj => by
  have hq := there_lt hn (by omega)
  obtain ⟨h1, h2⟩ := hn j hj
  exact ⟨by rw [h.cell (p := ⟨q, 0 + j, none⟩) hq]; exact h1, (h.frozen (p := ⟨q, 0 + j, none⟩) hq).trans h2⟩⟩
theorem BelowX.trans {q : Nat} {a b c : World} (h : BelowX q a b) (k : BelowX q b c) : BelowX q a c :=
  ⟨k.os.trans h.os, k.tape.trans h.tape, k.output.trans h.output, Nat.le_trans h.size k.size, fun i hi hn => (k.block i (Nat.lt_of_lt_of_le hi h.size) hn).trans (h.block i hi hn), fun n hn => k.keep n (h.keep n hn)⟩
theorem BelowX.cell {q : Nat} {a w : World} {p : Addr} (h : BelowX q a w) (hp : p.block < a.heap.size) (hn : p.block ≠ q) : w.cell? p = a.cell? p := World.cell?_of_block (h.block _ hp hn)
theorem BelowX.below {q B : Nat} {a w : World} (h : BelowX q a w) (hq : B ≤ q) (hB : B ≤ a.heap.size) : Below B a w :=
  ⟨h.os, h.tape, h.output, h.size, fun k hk => h.block k (Nat.lt_of_lt_of_le hk hB) (by omega)⟩
theorem setCells_sizeX (b : Nat) : ∀ (vs : List Value) (o : Nat) (w : World), (w.setCells b o vs).heap.size = w.heap.size
  | [], _, _ => rfl
  | v :: r, o, w => by
    show ((w.setCell ⟨b, o, none⟩ v).setCells b (o + 1) r).heap.size = _
    rw [setCells_sizeX b r (o + 1)]
    simp
theorem setCells_tapeX (b : Nat) : ∀ (vs : List Value) (o : Nat) (w : World), (w.setCells b o vs).tape = w.tape
  | [], _, _ => rfl
  | v :: r, o, w => by
    show ((w.setCell ⟨b, o, none⟩ v).setCells b (o + 1) r).tape = _
    rw [setCells_tapeX b r (o + 1)]
    rfl
theorem BelowX.set (w : World) (q : Nat) (cs : List Value) : BelowX q w (w.setCells q 0 cs) :=
  ⟨World.os_setCells _ _ _ _, setCells_tapeX _ _ _ _, World.output_setCells _ _ _ _, by rw [setCells_sizeX]; exact Nat.le_refl _, fun k hk hn => World.heap_setCells_other _ _ _ _ hk hn, fun n hn => World.there_setCells hn _ _ _⟩
inductive ToldX (q : Nat) where
  | is (v : Value)
  | such (p : Value → World → Prop) (h : ∀ v w w', p v w → BelowX q w w' → p v w')
  | put (p : World → Prop) (h : ∀ w w', p w → Below w.heap.size w w' → p w')
def ToldX.holds {q : Nat} : ToldX q → Value → World → Prop
  | .is v, u, _ => u = v
  | .such p _, u, w => p u w
  | .put p _, _, w => p w
def ToldX.isPut {q : Nat} : ToldX q → Bool
  | .put _ _ => true
  | _ => false
def toldAtX {q : Nat} (Vs : List (ToldX q)) (i : Nat) : Value → World → Prop := match Vs[i]? with
  | none => fun _ _ => True
  | some t => t.holds
theorem toldAtX_kept {q : Nat} (Vs : List (ToldX q)) (i : Nat) (v : Value) (w w' : World) (h : toldAtX Vs i v w) (hb : Below w.heap.size w w') : toldAtX Vs i v w' := by
  unfold toldAtX at *
  cases hi : Vs[i]? with
  | none => trivial
  | some t =>
    rw [hi] at h
    cases t with
    | is x => exact h
    | such p hp => exact hp _ _ _ h (BelowX.of hb)
    | put p hp => exact hp _ _ h hb
theorem toldAtX_keptX {q : Nat} (Vs : List (ToldX q)) (i : Nat) (hi : ∀ t, Vs[i]? = some t → t.isPut = false) (v : Value) (w w' : World) (h : toldAtX Vs i v w) (hb : BelowX q w w') : toldAtX Vs i v w' := by
  unfold toldAtX at *
  cases hj : Vs[i]? with
  | none => trivial
  | some t =>
    rw [hj] at h
    cases t with
    | is x => exact h
    | such p hp => exact hp _ _ _ h hb
    | put p hp => exact absurd (hi _ hj) (by simp [ToldX.isPut])
def putB {q : Nat} (st : Nat) : List (ToldX q) → Nat → Bool
  | [], _ => true
  | t :: r, i => (i == st || !t.isPut) && putB st r (i + 1)
theorem putB_at {q st : Nat} : ∀ {Vs : List (ToldX q)} {k i : Nat} {t : ToldX q}, putB st Vs k = true → Vs[i]? = some t → k + i ≠ st → t.isPut = false
  | [], _, _, _, _, h, _ => by simp at h
  | x :: r, k, 0, t, hb, h, hn => by
    simp at h
    subst h
    unfold putB at hb
    rw [Bool.and_eq_true, Bool.or_eq_true, beq_iff_eq] at hb
    rcases hb.1 with h1 | h1
    · exact absurd h1 (by simpa using hn)
    · simpa using h1
  | x :: r, k, i + 1, t, hb, h, hn => by
    rw [List.getElem?_cons_succ] at h
    unfold putB at hb
    rw [Bool.and_eq_true] at hb
    exact putB_at hb.2 h (by omega)
/-- Each operation of a list, from what is told of those that it waits for. -/
def StepsX (P : Program) (Q : Exit → Act → World → Prop) (q st : Nat) (all : List Oper) (a0 : Act) (w0 : World) (Vs : List (ToldX q)) : Nat → List Oper → Prop
  | _, [] => True
  | i, o :: r => (∀ (w : World) (vals : Nat → Value), BelowX q w0 w → (∀ j, (o.after.toList.any fun e => Region.binds .any e && e.on == j) = true → toldAtX Vs j (vals j) w) →
      ∀ a : Act, a = putAll all 0 vals a0 → ∀ K : Act → World → Prop, (∀ v w', toldAtX Vs i (match o.dst with | none => undef | some _ => v) w' → (Below w.heap.size w w' ∨ (i = st ∧ BelowX q w w')) → K (a.put o.dst v) w') → gwp P Q o vals a w K) ∧ StepsX P Q q st all a0 w0 Vs (i + 1) r
theorem stepsX_get {q st : Nat} {all : List Oper} {a0 : Act} {w0 : World} {Vs : List (ToldX q)} : ∀ {l : List Oper} {k i : Nat} {o : Oper}, StepsX P Q q st all a0 w0 Vs k l → l[i]? = some o →
    ∀ (w : World) (vals : Nat → Value), BelowX q w0 w → (∀ j, (o.after.toList.any fun e => Region.binds .any e && e.on == j) = true → toldAtX Vs j (vals j) w) →
      ∀ K : Act → World → Prop, (∀ v w', toldAtX Vs (k + i) (match o.dst with | none => undef | some _ => v) w' → (Below w.heap.size w w' ∨ (k + i = st ∧ BelowX q w w')) → K ((putAll all 0 vals a0).put o.dst v) w') → gwp P Q o vals (putAll all 0 vals a0) w K
  | [], _, _, _, _, h => by simp at h
  | x :: r, k, 0, o, hs, h => by
    simp at h
    subst h
    exact fun w vals h1 h2 => hs.1 w vals h1 h2 _ rfl
  | x :: r, k, i + 1, o, hs, h => by
    rw [List.getElem?_cons_succ] at h
    have := stepsX_get hs.2 h
    rw [show k + (i + 1) = k + 1 + i by omega]
    exact this
theorem wp_region_toldX {id q : Nat} (st : Nat) {a0 : Act} {w0 : World} {l : List Oper} (Vs : List (ToldX q)) (hm : P.follows .mixedOrders = true) (hb : ((backB l.toArray && (distB l.toArray && dstB l.toArray a0.tmps.size)) && guardB l) = true) (hput : putB st Vs 0 = true)
    (hstep : StepsX P Q q st l a0 w0 Vs 0 l)
    (hQ : ∀ (w : World) (vals : Nat → Value), BelowX q w0 w → (∀ j, j < l.length → toldAtX Vs j (vals j) w) → Q .normal (putAll l 0 vals a0) w) : (Code.region id l.toArray true).wp P Q a0 w0 := by
  rw [Bool.and_eq_true] at hb
  have hb' := hb.1
  rw [Bool.and_eq_true, Bool.and_eq_true] at hb'
  refine wp_region_gen (ops := l.toArray) hm (fun w => BelowX q w0 w) (toldAtX Vs) hb.1 (BelowX.of (Below.refl _ _).drew) (fun i o w vals ho hC hd => ?_) (fun w vals hC h => hQ w vals hC fun j hj => h j (by simpa using hj))
  have hol : l[i]? = some o := by simpa using ho
  refine wpOp_of_gwp hb'.2.1 hb'.2.2 hol hb.2 ?_
  refine stepsX_get hstep hol w vals hC (fun j hj => hd j (by rw [← Array.any_toList]; exact hj)) _ fun v w' h1 h2 => ⟨v, rfl, by rw [Nat.zero_add] at h1; exact h1, ?_, ?_⟩
  · rcases h2 with h2 | ⟨_, h2⟩
    · exact hC.trans (BelowX.of h2)
    · exact hC.trans h2
  · intro j u hj hu
    rcases h2 with h2 | ⟨he, h2⟩
    · exact toldAtX_kept Vs j u w w' hu h2
    · exact toldAtX_keptX Vs j (fun t ht => putB_at hput ht (by omega)) u w w' hu h2
theorem toldX_at {q : Nat} {Vs : List (ToldX q)} {i : Nat} {v : Value} {w : World} {t : ToldX q} (h : toldAtX Vs i v w) (ht : Vs[i]? = some t) : t.holds v w := by
  unfold toldAtX at h
  rw [ht] at h
  exact h
theorem eval_old {l : List Oper} {a0 : Act} {vals : Nat → Value} {t : Nat} (h : (l.all fun o => o.dst != some t) = true) : (putAll l 0 vals a0).eval (.tmp t) = a0.eval (.tmp t) := by
  have := putAll_other vals t l 0 a0 fun i o ho e => by
    have h1 := List.all_eq_true.1 h o (List.mem_of_getElem? ho)
    rw [e] at h1
    simp at h1
  show (putAll l 0 vals a0).tmps.getD t undef = a0.tmps.getD t undef
  rw [Array.getD_eq_getD_getElem?, Array.getD_eq_getD_getElem?, this]
theorem eval_slot {l : List Oper} {a0 : Act} {vals : Nat → Value} {i t : Nat} (h1 : distB l.toArray = true) (h2 : dstB l.toArray a0.tmps.size = true) (hd : (l[i]?.bind (·.dst)) = some t) : (putAll l 0 vals a0).eval (.tmp t) = vals i := by
  obtain ⟨oi, hi, hdi⟩ := Option.bind_eq_some_iff.1 hd
  have hia : l.toArray[i]? = some oi := by simpa using hi
  have ht := dst_of h2 i oi t hia hdi
  have := putAll_slot vals t l 0 i oi a0 hi hdi ht fun j o' hij ho e => by
    have hj : l.toArray[j]? = some o' := by simpa using ho
    have := dist_of h1 i j oi o' t hia hj hdi e
    omega
  show (putAll l 0 vals a0).tmps.getD t undef = vals i
  rw [Array.getD_eq_getD_getElem?, this, Nat.zero_add]
  rfl
end Go.Proofs.YthcabnfcgjnlnaaGreatDoor
/-
  concord.All: the lines of notes.
-/
namespace Go.Proofs.YthcabnfcgjnlnaaGreatDoor
open Go.RowKit Ru Lay Srt Col
attribute [local go_sem ↓] Go.wp_at_zero Go.wp_at_succ
set_option linter.unusedVariables false
set_option linter.unusedSimpArgs false

/-- 'append(s, x)', x a record that has just been laid: with what is as it was. -/
theorem wpList_appN2 {P : Program} {ops : Array Oper} {rest : List Oper} {o : Oper} {a : Act} {Q : Exit → Act → World → Prop} {w0 : World} {c : Array Value} (hgd : o.guard = none) (s yy : Operand) (t : TypeId)
    (ho : o.op = .call { callee := .builtin .append, args := #[s, yy], argTypes := #[t, t] })
    (base : Nat) (e : TypeId) (size bytes : Nat) (z : Value) (hinfo : (P.info? e).map (fun i => (i.zero, i.size, i.bytes)) = some (some z, size, bytes)) (hzc : z.cells.size = size) (hs0 : 0 < size) (ht : P.underlying t = some (.slice e))
    {v : Value} {n : Nat} {xs : List Value} (hs : a.eval s = v) (hown : w0.ownsRow base e size v n xs) (hy : a.eval yy = .slice (some ⟨w0.heap.size, 0, none⟩) 1 1) (hc : c.toList.length = size) (h1 : ∀ u ∈ c.toList, u.oneCell' = true)
    (h63 : n + 1 ≤ 9223372036854775807) (hbytes : (n + 1) * bytes ≤ 140737488355328) (hbase : base ≤ w0.heap.size)
    (h : ∀ v' w', w'.ownsRow base e size v' (n + 1) (xs ++ c.toList) → Below base w0 w' → (w0.alloc (.cells c e)).grownBy w' v.ownBlock → (v'.ownBlock = v.ownBlock ∨ v'.ownBlock = some (w0.alloc (.cells c e)).heap.size) → wpList P ops Q rest (a.put o.dst v') w') :
    wpList P ops Q (o :: rest) a (w0.alloc (.cells c e)) := by
  obtain ⟨i0, hi, hz0, hz1, hz2⟩ := info_parts hinfo
  refine wpList_append_own_at _ hgd s yy t ho base e i0 z size bytes ht hi hz0 hz1 hz2 hzc hs0 v n xs hs (hown.alloc _) ⟨w0.heap.size, 0, none⟩ 1 1 c.toList hy (by rw [hc, Nat.one_mul]) ?_ h1 (by unfold maxLen; omega) hbytes (by simp; omega) ?_
  · intro j u hu
    rw [Addr.add_mid, Nat.zero_add, World.cell?_alloc_at _ _ _ _ rfl]
    simpa using hu
  · intro v' w' hown' hgrow _ hat
    exact h v' w' hown' (below_append (Below.refl base w0) hbase hown (Nat.le_refl _) hgrow) hgrow hat
/-- The lists of a line lie in other blocks. -/
def ListsOff (g : Option Nat) (h : Hv) : Prop := (∀ ad, h.la = some ad → 0 < h.ln → some ad.block ≠ g) ∧ (∀ ad, h.ra = some ad → 0 < h.rn → some ad.block ≠ g)
theorem sr_grown {w w' : World} {B n : Nat} {A : Option Addr} {l : List ByteArray} {g : Option Nat} (h : SR w B A n l) (hB : B ≤ w.heap.size) (hg : w.grownBy w' g) (ho : ∀ ad, A = some ad → 0 < n → some ad.block ≠ g) : SR w' B A n l :=
  ⟨h.1, fun h0 => by
    obtain ⟨ad, e, hb, hc⟩ := h.2 h0
    refine ⟨ad, e, hb, fun j u hu => ?_⟩
    rw [← hc j u hu]
    exact World.cell?_of_block (hg.block _ (by rw [block_of_add]; omega) (by rw [block_of_add]; exact ho ad e h0))⟩
theorem HvR.grown {w w' : World} {h : Hv} {g : Option Nat} (hh : HvR w w.heap.size h) (hg : w.grownBy w' g) (ho : ListsOff g h) : HvR w' w'.heap.size h :=
  ⟨Reads.more (sr_grown hh.left (Nat.le_refl _) hg ho.1) hg.size, Reads.more (sr_grown hh.right (Nat.le_refl _) hg ho.2) hg.size, hh.lc, hh.rc⟩
end Go.Proofs.YthcabnfcgjnlnaaGreatDoor
/-
  The reference's check of the note with an index.
-/
namespace Go.Proofs.YthcabnfcgjnlnaaGreatDoor
open Go.RowKit Ru Lay
attribute [local go_sem ↓] Go.wp_at_zero Go.wp_at_succ
set_option linter.unusedVariables false
set_option linter.unusedSimpArgs false

/-- What is used of a note that is right. -/
def NOk (T : List Ti) (l : List Nt) (i : Nat) : Prop := ∀ x, l[i]? = some x → 1 ≤ x.nid ∧ (∀ y, 0 < i → l[i - 1]? = some y → y.nid < x.nid) ∧ (0 ≤ x.tier ∧ x.tier < (T.length : Int)) ∧ PlOk T l x ∧ x.text.size ≤ 200
end Go.Proofs.YthcabnfcgjnlnaaGreatDoor
/-
  What a document whose checks are all right gives (LightN): plain, but for the names of the checks' facts.
-/
namespace Go.Proofs.YthcabnfcgjnlnaaGreatDoor
open Go.RowKit Ru Lay
attribute [local go_sem ↓] Go.wp_at_zero Go.wp_at_succ
set_option linter.unusedVariables false
set_option linter.unusedSimpArgs false

def SibOk (kd : Int) (s : List Nt) : Prop := (timedK kd = true → NoOver s) ∧ (kd = 3 → Ranked s) ∧ (kd = 4 → s.length ≤ 1)
def TierOk (T : List Ti) (l : List Nt) (tier : Int) : Prop := ∀ x ∈ l, x.tier = tier → SibOk (tierT T tier).kind (sibF l tier x.parent)
/-- What the check of a document gives. -/
structure DocOk (T : List Ti) (l : List Nt) : Prop where
  tiers : ∀ i t, T[i]? = some t → TOk t i
  notes : ∀ i, i < l.length → NOk T l i
  sibs : ∀ t : Nat, t < T.length → TierOk T l (t : Int)
theorem DocOk.ids {T : List Ti} {l : List Nt} (h : DocOk T l) : ∀ (j i : Nat) (x y : Nt), i < j → l[i]? = some x → l[j]? = some y → x.nid < y.nid
  | 0, i, x, y, hij, _, _ => by omega
  | j + 1, i, x, y, hij, hx, hy => by
    have hj := (List.getElem?_eq_some_iff.1 hy).1
    have hz : l[j]? = some l[j] := List.getElem?_eq_getElem (by omega)
    have h1 := (h.notes (j + 1) hj y hy).2.1 l[j] (by omega) (by rw [Nat.add_sub_cancel]; exact hz)
    by_cases e : i = j
    · subst e
      rw [hx] at hz
      cases hz
      exact h1
    · have := DocOk.ids h j i x l[j] (by omega) hx hz
      omega
theorem DocOk.note {T : List Ti} {l : List Nt} (h : DocOk T l) {x : Nt} (hx : x ∈ l) : (0 ≤ x.tier ∧ x.tier < (T.length : Int)) ∧ PlOk T l x := by
  obtain ⟨i, hi⟩ := List.getElem?_of_mem hx
  have := h.notes i (List.getElem?_eq_some_iff.1 hi).1 x hi
  exact ⟨this.2.2.1, this.2.2.2.1⟩
theorem DocOk.text {T : List Ti} {l : List Nt} (h : DocOk T l) {x : Nt} (hx : x ∈ l) : x.text.size ≤ 200 := by
  obtain ⟨i, hi⟩ := List.getElem?_of_mem hx
  have := h.notes i (List.getElem?_eq_some_iff.1 hi).1 x hi
  exact this.2.2.2.2
theorem DocOk.tok {T : List Ti} {l : List Nt} (h : DocOk T l) {x : Nt} (hx : x ∈ l) : TOk0 (tierT T x.tier) x.tier.toNat := by
  have h1 := (h.note hx).1
  have h2 : x.tier.toNat < T.length := by omega
  refine (h.tiers _ _ ?_).1
  unfold tierT
  rw [List.getD, List.getElem?_eq_getElem h2]
  rfl
theorem DocOk.at_ {T : List Ti} {l : List Nt} (h : DocOk T l) {t : Int} (h0 : 0 ≤ t) (h1 : t < (T.length : Int)) : TOk (tierT T t) t.toNat := by
  have h2 : t.toNat < T.length := by omega
  refine h.tiers _ _ ?_
  unfold tierT
  rw [List.getD, List.getElem?_eq_getElem h2]
  rfl
/-- As many notes as ranks: no two of one rank. -/
theorem ranked_inj : ∀ (n : Nat) (f : Nat → Int), (∀ k : Nat, k < n → ∃ i, i < n ∧ f i = (k : Int)) → ∀ i j, i < n → j < n → f i = f j → i = j := by
  intro n f h i j hi hj e
  by_cases hne : i = j
  · exact hne
  exfalso
  have hsub : (List.range n).map (fun k : Nat => (k : Int)) ⊆ ((List.range n).filter fun q => decide (q ≠ j)).map f := by
    intro z hz
    obtain ⟨k, hk, rfl⟩ := List.mem_map.1 hz
    obtain ⟨q, hq, hqk⟩ := h k (List.mem_range.1 hk)
    by_cases eq : q = j
    · subst eq
      exact List.mem_map.2 ⟨i, List.mem_filter.2 ⟨List.mem_range.2 hi, by simpa using hne⟩, by rw [e, hqk]⟩
    · exact List.mem_map.2 ⟨q, List.mem_filter.2 ⟨List.mem_range.2 hq, by simpa using eq⟩, hqk⟩
  have hnd : ((List.range n).map (fun k : Nat => (k : Int))).Nodup := by
    rw [List.nodup_iff_pairwise_ne, List.pairwise_map]
    exact (List.nodup_range).imp fun h1 h2 => h1 (by omega)
  have hle := hnd.length_le_of_subset hsub
  rw [List.length_map, List.length_range, List.length_map] at hle
  have hlt : ((List.range n).filter fun q => decide (q ≠ j)).length < (List.range n).length := by
    refine List.length_filter_lt_length_iff_exists.2 ⟨j, List.mem_range.2 hj, by simp⟩
  rw [List.length_range] at hlt
  omega
theorem DocOk.light {T : List Ti} {l : List Nt} (h : DocOk T l) : LightN T l := by
  refine ⟨List.pairwise_iff_getElem.2 fun i j hi hj hij => h.ids j i _ _ hij (List.getElem?_eq_getElem hi) (List.getElem?_eq_getElem hj), fun x hx => (h.note hx).1, fun x hx => ?_, fun x hx => ?_, fun x hx y hy ht hp hk => ?_⟩
  · rcases (h.note hx).2.1 with h1 | ⟨h1, p, h2, h3⟩
    · exact .inl h1
    · refine .inr ⟨h1, p, h2, h3, ?_⟩
      rcases (h.tok hx).2 with ⟨k0, _⟩ | ⟨_, k1, k2⟩
      · exact absurd k0 h1
      · have := (h.note hx).1
        rw [h3]
        omega
  · obtain ⟨_, _, h2, h3⟩ := (h.note hx).2
    split
    · rename_i hk
      rcases h3 with h3 | h3
      · exact h3
      · rw [h3] at hk; exact absurd hk (by decide)
    · rename_i hk
      exact (h2 (by simpa using hk)).1
  · have htr := (h.note hx).1
    have hso := h.sibs x.tier.toNat (by omega) x hx (by omega)
    rw [show ((x.tier.toNat : Nat) : Int) = x.tier by omega] at hso
    have hxm : x ∈ sibF l x.tier x.parent := List.mem_filter.2 ⟨hx, by simp⟩
    have hym : y ∈ sibF l x.tier x.parent := List.mem_filter.2 ⟨hy, by simp [ht, hp]⟩
    obtain ⟨i, hi⟩ := List.getElem?_of_mem hxm
    obtain ⟨j, hj⟩ := List.getElem?_of_mem hym
    have hil := (List.getElem?_eq_some_iff.1 hi).1
    have hjl := (List.getElem?_eq_some_iff.1 hj).1
    suffices e : i = j by subst e; rw [hi] at hj; exact Option.some.inj hj
    unfold keyT at hk
    rw [← ht] at hk
    by_cases htk : timedK (tierT T x.tier).kind = true
    · rw [if_pos htk, if_pos htk] at hk
      have hno := hso.1 htk
      have hxa := (h.note hx).2.2.1 htk
      have hya := (h.note hy).2.2.1 (by rw [← ht]; exact htk)
      rcases Nat.lt_trichotomy i j with hlt | hlt | hlt
      · exact absurd ⟨by omega, by omega⟩ (hno j i y x hlt hj hi)
      · exact hlt
      · exact absurd ⟨by omega, by omega⟩ (hno i j x y hlt hi hj)
    · rw [if_neg htk, if_neg htk] at hk
      have hkd := (h.tok hx).1
      have h34 : (tierT T x.tier).kind = 3 ∨ (tierT T x.tier).kind = 4 := by
        by_cases e3 : (tierT T x.tier).kind = 3
        · exact .inl e3
        · by_cases e4 : (tierT T x.tier).kind = 4
          · exact .inr e4
          · exfalso
            have : (tierT T x.tier).kind = 0 ∨ (tierT T x.tier).kind = 1 ∨ (tierT T x.tier).kind = 2 := by omega
            apply htk
            unfold timedK
            rcases this with e | e | e <;> rw [e] <;> decide
      rcases h34 with e3 | e4
      · have hrk := hso.2.1 e3
        refine ranked_inj (sibF l x.tier x.parent).length (fun q => ((sibF l x.tier x.parent).getD q nt0).rank) (fun k hk => ?_) i j hil hjl ?_
        · obtain ⟨q, z, hq, hz⟩ := hrk k hk
          exact ⟨q, (List.getElem?_eq_some_iff.1 hq).1, by show ((sibF l x.tier x.parent).getD q nt0).rank = _; rw [List.getD, hq]; exact hz⟩
        · show ((sibF l x.tier x.parent).getD i nt0).rank = ((sibF l x.tier x.parent).getD j nt0).rank
          rw [List.getD, hi, List.getD, hj]
          exact hk
      · have := hso.2.2 e4
        omega
end Go.Proofs.YthcabnfcgjnlnaaGreatDoor
/-
  The reference's checks of a tier's notes, and of a document: what a document that is light gives.
-/
namespace Go.Proofs.YthcabnfcgjnlnaaGreatDoor
open Go.RowKit Ru Lay
attribute [local go_sem ↓] Go.wp_at_zero Go.wp_at_succ
set_option linter.unusedVariables false
set_option linter.unusedSimpArgs false

/-- A call that answers an integer, of which something holds; it lays new blocks at most. -/
def IntIf (p : Int → Prop) (w : World) (e : Ending) (w' : World) : Prop := ∃ r : Int, e = .returned (.int .i64 r) ∧ p r ∧ Below w.heap.size w w'
theorem IntIf.of {p : Int → Prop} {w w' : World} (r : Int) (h : p r) (hb : Below w.heap.size w w') : IntIf p w (.returned (.int .i64 r)) w' := ⟨r, rfl, h, hb⟩
end Go.Proofs.YthcabnfcgjnlnaaGreatDoor
/-
  PLAIN LAW: the texts of the neighbors of a note, collected along the tier, are those of its line. No program in sight.
-/
set_option linter.unusedVariables false
set_option linter.unusedSimpArgs false
namespace Go.Proofs.YthcabnfcgjnlnaaGreatDoor
open Go.RowKit Ru Lay Srt Col

theorem ofL_len {T : List Ti} {l : List Nt} {tier : Int} : (ofL T l tier).length ≤ l.length := by
  unfold ofL
  rw [List.length_map, (ofK_perm l.length (Nat.le_refl _)).length_eq, List.take_length]
  exact List.length_filter_le _ _
end Go.Proofs.YthcabnfcgjnlnaaGreatDoor
