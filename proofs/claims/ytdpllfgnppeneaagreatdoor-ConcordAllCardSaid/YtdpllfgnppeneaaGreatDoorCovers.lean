/-
  The reference's spans of notes; Covers returns.
-/
import Derived.Test.YtdpllfgnppeneaaGreatDoorSib
namespace Go.Proofs.YtdpllfgnppeneaaGreatDoor
open Go.RowKit Ru Lay
attribute [local go_sem ↓] Go.wp_at_zero Go.wp_at_succ
set_option linter.unusedVariables false
set_option linter.unusedSimpArgs false

def encS (p : Int × Int) : List Value := [.int .i64 p.1, .int .i64 p.2]
theorem encS_len2 (p : Int × Int) : (encS p).length = 2 := rfl
def SpO (w : World) (base : Nat) (v : Value) (l : List (Int × Int)) : Prop := OwnR encS 2 56 w base v l
def SpR (w : World) (B : Nat) (A : Option Addr) (n : Nat) (l : List (Int × Int)) : Prop := RecR encS 2 w B A n l
theorem info_span : (Tryz.prog.info? 56).map (fun i => (i.zero, i.size, i.bytes)) = some (some (.agg #[.int .i64 0, .int .i64 0]), 2, 16) := by kernel_rfl
theorem SpR.on {w w' : World} {n : Nat} {A : Option Addr} {l : List (Int × Int)} (h : SpR w w.heap.size A n l) (hb : Below w.heap.size w w') : SpR w' w'.heap.size A n l := RecR.on h hb
theorem SpR.at_ {w : World} {B n k : Nat} {A : Option Addr} {l : List (Int × Int)} (hh : SpR w B A n l) (hk : k < n) :
    ∃ ad x, A = some ad ∧ ad.block < B ∧ l[k]? = some x ∧ ∀ W, Below B w W → W.cell? (ad.add (k * 2)) = some (.int .i64 x.1) ∧ W.cell? ⟨(ad.add (k * 2)).block, (ad.add (k * 2)).off + 1, none⟩ = some (.int .i64 x.2) := by
  obtain ⟨ad, x, e, hb, hx, _, _⟩ := RecR.at_ encS_len2 (by omega) hh hk
  refine ⟨ad, x, e, hb, hx, fun W hW => ?_⟩
  obtain ⟨ad', x', e', _, hx', h0, hj⟩ := RecR.at_ encS_len2 (by omega) (RecR.below hh hW) hk
  rw [e] at e'
  cases e'
  rw [hx] at hx'
  cases hx'
  exact ⟨h0 _ rfl, hj 1 _ (by omega) rfl⟩
theorem SpO.form {w : World} {base : Nat} {v : Value} {l : List (Int × Int)} (h : SpO w base v l) : ∃ A c, v = .slice A l.length c ∧ l.length ≤ c ∧ c ≤ 9223372036854775807 ∧ SpR w w.heap.size A l.length l := OwnR.form h
theorem SpO.on {w w' : World} {base : Nat} {v : Value} {l : List (Int × Int)} (h : SpO w base v l) (hb : Below w.heap.size w w') : SpO w' base v l := OwnR.on h hb
def spansL (l : List Nt) : List (Int × Int) := l.map fun x => (x.at1, x.at2)
theorem spans_next {l : List Nt} {i : Nat} {x : Nt} (hx : l[i]? = some x) : spansL (l.take (i + 1)) = spansL (l.take i) ++ [(x.at1, x.at2)] := by
  unfold spansL
  rw [take_at2 hx, List.map_append]
  rfl
theorem sp_made (w : World) (base : Nat) (hb : base ≤ w.heap.size) : SpO (w.alloc (.cells #[] 56)) base (.slice (some ⟨w.heap.size, 0, none⟩) 0 0) [] :=
  World.ownsRow_made (base := base) (e := 56) (size := 2) w #[] 0 hb (by unfold maxLen; omega) (by simp)
set_option maxHeartbeats 2000000 in
set_option maxRecDepth 100000 in
theorem spans_any (A : Option Addr) (n c : Nat) (l : List Nt) (w : World) (hl : NotesR w w.heap.size A n l) (hn : n ≤ 1000000) :
    Calls Tryz.prog 45 #[.slice A n c] w fun e w' => ∃ v, e = .returned v ∧ SpO w' w.heap.size v (spansL l) ∧ Below w.heap.size w w' := by
  have HL := Lib.hid hl
  have HLN := Lib.hid hl.len
  have hown := Lib.hid (sp_made w w.heap.size (Nat.le_refl _))
  have HBA : Hid (Below w.heap.size w (w.alloc (.cells #[] 56))) := (Below.refl _ _).alloc (Nat.le_refl _) _
  clear hl
  go_enter Tryz.func45, Tryz.ntmps45
  go_wp2_with fail
  go_loopw [3, 4] (fun v3 v4 wr => ∃ i : Nat, i ≤ n ∧ v4 = .int .i64 i ∧ Hid (SpO wr w.heap.size v3 (spansL (l.take i))) ∧ Hid (Below w.heap.size w wr)) (fun _ v4 _ => n - (intOf v4).toNat)
  case atStart => exact ⟨0, Nat.zero_le _, rfl, (by rw [List.take_zero]; exact hown.out), HBA.out⟩
  case round =>
    clear hown HBA
    obtain ⟨i, hi, rfl, HO, HB1⟩ := hrel
    obtain ⟨w0, hw0⟩ : ∃ w0, wr = w0 := ⟨_, rfl⟩
    rw [hw0] at HO HB1 ⊢
    clear hw0
    by_cases hlt : i < n
    · have hiz : (i : Int) < (n : Int) := by omega
      have hiA : (0 : Int) ≤ (i : Int) := by omega
      obtain ⟨ad, x, rfl, hab, hx, hcells⟩ := HL.out.at_ hlt
      obtain ⟨q0, q1, q2, q3, q4, q5, q6⟩ := hcells w0 HB1.out
      have q4' : w0.cell? ⟨(ad.add (i * 7)).block, (ad.add (i * 7)).off + 3 + 1, none⟩ = some (.int .i64 x.at2) := q4
      have HI := Lib.hid hlt
      have HNX := Lib.hid (spans_next hx)
      have hsz := HB1.out.size
      have hlls : (spansL (l.take i)).length ≤ i := by unfold spansL; rw [List.length_map, List.length_take]; omega
      obtain ⟨ll, hlq⟩ : ∃ ll, spansL (l.take i) = ll := ⟨_, rfl⟩
      rw [hlq] at HO HNX hlls
      have hi1 : i + 1 ≤ n := hlt
      clear hx hcells hlq
      go_wp2_with (at_builtin; refine wpList_appN rfl (.tmp 12) (.tmp 18) 85 rfl w.heap.size 56 2 16 (.agg #[.int .i64 0, .int .i64 0]) info_span rfl (by omega) Tryz.underlying85 rfl HO.out rfl rfl (by simp [Value.oneCell']) (by omega) (by omega) (by omega) ?_; rintro v7' w4 hown7 hb7)
      have HO3 : Hid (SpO w4 w.heap.size v7' (spansL (l.take (i + 1)))) := by
        show OwnR _ _ _ _ _ _ _
        rw [HNX.out]
        exact OwnR.snoc hown7
      have HB3 : Hid (Below w.heap.size w w4) := HB1.out.trans hb7
      clear HNX hown7 hb7
      go_wp2
      go_roundw
      case rel => exact ⟨i + 1, hi1, by go_num, HO3, HB3⟩
      case measure => have := HI.out; simp [intOf]; omega
    · obtain rfl : n = i := by omega
      have hiz : ¬ (n : Int) < (n : Int) := by omega
      have HF : Hid (SpO w0 w.heap.size u3 (spansL l)) := by
        have h := HO.out
        rw [List.take_of_length_le (by rw [HLN.out]; exact Nat.le_refl _)] at h
        exact h
      go_wp2
      go_ret
      exact ⟨_, rfl, HF.out, HB1.out⟩
/-- A call that answers a row of at most m spans of its own. -/
def SpPost (m : Nat) (w : World) (e : Ending) (w' : World) : Prop := ∃ v ys, e = .returned v ∧ ys.length ≤ m ∧ SpO w' w.heap.size v ys ∧ Below w.heap.size w w'
theorem SpPost.of {m : Nat} {w w' : World} {v : Value} {ys : List (Int × Int)} (h : ys.length ≤ m) (ho : SpO w' w.heap.size v ys) (hb : Below w.heap.size w w') : SpPost m w (.returned v) w' := ⟨v, ys, rfl, h, ho, hb⟩
set_option maxHeartbeats 2000000 in
set_option maxRecDepth 100000 in
theorem insert_none (A : Option Addr) (c : Nat) (a b : Int) (w : World) :
    Calls Tryz.prog 102 #[.slice A 0 c, .agg #[.int .i64 a, .int .i64 b]] w fun e w' => ∃ v, e = .returned v ∧ SpO w' w.heap.size v [(a, b)] ∧ Below w.heap.size w w' := by
  obtain ⟨i0, hi, hz0, hz1, hz2⟩ := info_parts info_span
  obtain ⟨W0, hW0⟩ : ∃ W0, ((w.alloc (.cells #[.int .i64 a, .int .i64 b] 56)).alloc (.cells #[] 56)).alloc (.cells #[] 56) = W0 := ⟨_, rfl⟩
  have HB0 : Hid (Below w.heap.size w W0) := by rw [← hW0]; exact (((Below.refl _ w).alloc (Nat.le_refl _) _).alloc (by simp) _).alloc (by simp <;> omega) _
  have hz : W0.heap.size = w.heap.size + 3 := by rw [← hW0]; simp
  have HO1 : Hid (SpO W0 w.heap.size (.slice (some ⟨w.heap.size + 1, 0, none⟩) 0 0) []) := by
    have h := sp_made (w.alloc (.cells #[.int .i64 a, .int .i64 b] 56)) w.heap.size (by simp)
    rw [show (w.alloc (.cells #[.int .i64 a, .int .i64 b] 56)).heap.size = w.heap.size + 1 by simp] at h
    rw [← hW0]
    exact World.ownsRow.alloc h _
  have k0 : W0.cell? ⟨w.heap.size, 0, none⟩ = some (.int .i64 a) := by rw [← hW0, World.cell?_alloc_lt _ _ _ (by simp <;> omega), World.cell?_alloc_lt _ _ _ (by simp), World.cell?_alloc_new]; rfl
  have k1 : W0.cell? ⟨w.heap.size, 1, none⟩ = some (.int .i64 b) := by rw [← hW0, World.cell?_alloc_lt _ _ _ (by simp <;> omega), World.cell?_alloc_lt _ _ _ (by simp), World.cell?_alloc_new]; rfl
  go_enter Tryz.func102, Tryz.ntmps102
  go_upto_region 3 with fail
  (try rw [hW0])
  clear hW0
  go_wp2_with fail
  refine wp_loop_rounds 1 ?_
  rw [rounds_succ]
  go_upto_region 11 with fail
  obtain ⟨v5, hv5⟩ : ∃ v, Value.slice (some ⟨w.heap.size + 1, 0, none⟩) 0 0 = v := ⟨_, rfl⟩
  rw [hv5] at HO1 ⊢
  clear hv5
  go_wp2_with (first
    | (at_builtin
       refine wpList_appN rfl (.tmp 63) (.tmp 65) 85 rfl w.heap.size 56 2 16 (.agg #[.int .i64 0, .int .i64 0]) info_span rfl (by omega) Tryz.underlying85 rfl HO1.out (by rw [hz]; rfl) rfl (by simp [Value.oneCell']) (by simp) (by simp) (by omega) ?_
       rintro v7 w4 hown7 hb7
       have HO7 := Lib.hid hown7
       have HB7 : Hid (Below w.heap.size w w4) := HB0.out.trans hb7
       clear hown7 hb7 k0 k1)
    | (at_builtin
       refine wpList_append_own _ rfl (.tmp 66) (.tmp 67) 85 rfl w.heap.size 56 i0 _ 2 16 Tryz.underlying85 hi hz0 hz1 hz2 rfl (by decide) _ 1 [.int .i64 a, .int .i64 b] rfl HO7.out ⟨w.heap.size + 2, 0, none⟩ 0 0 [] rfl rfl (fun j u hu => by simp at hu) (fun u hu => by simp at hu) (by unfold maxLen; omega) (by omega) (HB7.out.size) ?_
       intro v8 w5 hown8 hg8 _))
  have HO8 : Hid (SpO w5 w.heap.size v8 [(a, b)]) := hown8
  have HB8 : Hid (Below w.heap.size w w5) := HB7.out.grown hg8 (HB7.out.size) fun k hk => (HO7.out.lt k hk).1
  clear hown8 hg8
  go_ret
  exact ⟨_, rfl, HO8.out, HB8.out⟩
set_option maxHeartbeats 2000000 in
set_option maxRecDepth 100000 in
theorem union_one (A : Option Addr) (c : Nat) (a b : Int) (w : World) (hl : SpR w w.heap.size A 1 [(a, b)]) :
    Calls Tryz.prog 89 #[.slice A 1 c] w (SpPost 1 w) := by
  have HL := Lib.hid hl
  have hown := Lib.hid (sp_made w w.heap.size (Nat.le_refl _))
  have HBA : Hid (Below w.heap.size w (w.alloc (.cells #[] 56))) := (Below.refl _ _).alloc (Nat.le_refl _) _
  clear hl
  go_enter Tryz.func89, Tryz.ntmps89
  go_wp2_with fail
  go_loopw [3, 4] (fun v3 v4 wr => ∃ (i : Nat) (ys : List (Int × Int)), i ≤ 1 ∧ v4 = .int .i64 i ∧ Hid (ys.length ≤ i) ∧ Hid (SpO wr w.heap.size v3 ys) ∧ Hid (Below w.heap.size w wr)) (fun _ v4 _ => 1 - (intOf v4).toNat)
  case atStart => exact ⟨0, [], Nat.zero_le _, rfl, Nat.le_refl _, hown.out, HBA.out⟩
  case round =>
    clear hown HBA
    obtain ⟨i, ys, hi, rfl, HYS, HO, HB1⟩ := hrel
    obtain ⟨w0, hw0⟩ : ∃ w0, wr = w0 := ⟨_, rfl⟩
    rw [hw0] at HO HB1 ⊢
    clear hw0
    by_cases hlt : i < 1
    · obtain rfl : i = 0 := by omega
      obtain rfl : ys = [] := List.eq_nil_of_length_eq_zero (by have := HYS.out; omega)
      obtain ⟨A3, c3, rfl, _, _, _⟩ := HO.out.form
      obtain ⟨ad, x, rfl, hab, hx, hcells⟩ := HL.out.at_ (k := 0) (by omega)
      obtain ⟨q0, q1⟩ := hcells w0 HB1.out
      have hx2 : x = (a, b) := by simpa using hx.symm
      subst hx2
      rw [Nat.zero_mul] at q0 q1
      have e0 : ad.add 0 = ad := by rw [Addr.add, if_pos rfl]
      rw [e0] at q0 q1
      clear hx hcells e0
      have HRS := Lib.hid (right09_any a b w0)
      obtain ⟨rb, hrb⟩ : ∃ rb, rightS a b = rb := ⟨_, rfl⟩
      rw [hrb] at HRS
      clear hrb
      cases rb with
      | true =>
        go_wp2_with fail
        refine HRS.out.mono ?_
        rintro e w2 ⟨rfl, hb2⟩
        have HB2 : Hid (Below w.heap.size w w2) := HB1.out.trans (hb2.mono HB1.out.size)
        have hz2 := hb2.size
        have r0 : w2.cell? ad = some (.int .i64 a) := (HB2.out.cell hab).trans ((HB1.out.cell hab).symm.trans q0)
        have r1 : w2.cell? ⟨ad.block, ad.off + 1, none⟩ = some (.int .i64 b) := (HB2.out.cell (p := ⟨ad.block, ad.off + 1, none⟩) hab).trans ((HB1.out.cell (p := ⟨ad.block, ad.off + 1, none⟩) hab).symm.trans q1)
        clear hb2 q0 q1
        have HIN := Lib.hid (insert_none A3 c3 a b w2)
        go_wp2_with fail
        refine HIN.out.mono ?_
        rintro e w3 ⟨v, rfl, ho, hb⟩
        have HO3 : Hid (SpO w3 w.heap.size v [(a, b)]) := own_base ho HB2.out.size
        have HB3 : Hid (Below w.heap.size w w3) := HB2.out.trans (hb.mono HB2.out.size)
        clear ho hb r0 r1
        go_wp2
        go_roundw
        case rel => exact ⟨1, _, Nat.le_refl _, by go_num, Nat.le_refl _, HO3, HB3⟩
        case measure => simp [intOf]
      | false =>
        go_wp2_with fail
        refine HRS.out.mono ?_
        rintro e w2 ⟨rfl, hb2⟩
        have HO2 : Hid (SpO w2 w.heap.size (.slice A3 0 c3) []) := HO.out.on hb2
        have HB2 : Hid (Below w.heap.size w w2) := HB1.out.trans (hb2.mono HB1.out.size)
        clear hb2 q0 q1
        go_wp2
        go_roundw
        case rel => exact ⟨1, [], Nat.le_refl _, by go_num, Nat.zero_le _, HO2, HB2⟩
        case measure => simp [intOf]
    · obtain rfl : i = 1 := by omega
      go_wp2
      go_ret
      exact SpPost.of HYS.out HO.out HB1.out
end Go.Proofs.YtdpllfgnppeneaaGreatDoor
