import Derived.Test.YthcabnfcgjnlnaaGreatDoorK25
import Derived.Test.YthcabnfcgjnlnaaGreatDoorRows
import Derived.Deep.Slices
import Derived.ChangeSame
import Derived.ChangeArms
import Derived.Lib.SmallJoins
/-
  OPENING a slice of integers among the arguments.
-/
namespace Go.Proofs.YthcabnfcgjnlnaaGreatDoor
open Go.RowKit Go.ChangeShapes Go.WideShapes Go.ChangeAt Go.Deep Go.Joins
set_option linter.unusedVariables false
set_option linter.unusedSimpArgs false

theorem list_of {α : Type} [Inhabited α] {n : Nat} {p : Nat → α → Prop} (h : ∀ i, i < n → ∃ x, p i x) : ∃ L : List α, L.length = n ∧ ∀ i x, L[i]? = some x → p i x := by
  obtain ⟨f, hf⟩ := choose_lt h
  refine ⟨(List.range n).map f, by simp, fun i x hx => ?_⟩
  have hi := (List.getElem?_eq_some_iff.1 hx).1
  simp at hi
  have e : some (f i) = some x := by rw [← hx]; simp [hi]
  injection e with e
  rw [← e]
  exact hf i hi
theorem cellsInt : Tryz.prog.cellsOf 3 = 1 := by kernel_rfl
section
variable {H : Type} {enc : TypeId × Value → H} {w : World} {spare : Nat → Bool} {held : Bool} {fuel : Nat} {v : Value} {x : DataW H × List MemPlace}
theorem open_ints (hf : DataW.trod enc Tryz.prog w 0 spare held fuel 32 [v] = some x) : ∃ A n c, ∃ l : List Int, v = .slice A n c ∧ Reads w w.heap.size 1 A n (l.map (.int .i64)) ∧ n ≤ maxLen := by
  rcases open_slice1 Tryz.underlying32 cellsInt hf with ⟨h0, _⟩ | ⟨a, len, cap, m, n, V, D, Pl, h0, _, hl, hm, hmm, _, hx⟩
  · injection h0 with h0
    subst h0
    exact ⟨none, 0, 0, [], rfl, Reads.none_, Nat.zero_le _⟩
  · injection h0 with h0
    subst h0
    have hlm : len ≤ m := by rw [hmm]; split <;> omega
    obtain ⟨l, hlen, hL⟩ := list_of (α := Int) (n := len) (p := fun i s => w.cell? (a.add i) = some (.int .i64 s)) (fun i hi => by
      obtain ⟨h1, h2⟩ := hx i (by omega)
      obtain ⟨s, hs, _, _⟩ := DataW.trod_int Tryz.underlying3 h2
      injection hs with hs
      exact ⟨s, by rw [h1, hs]⟩)
    refine ⟨some a, len, cap, l, rfl, ⟨by simpa using hlen, fun hn => ⟨a, rfl, ?_, fun j u hu => ?_⟩⟩, by omega⟩
    · have := World.block_lt_of_cell? w _ (hx 0 (by omega)).1
      rw [block_of_add] at this
      exact this
    · rw [List.getElem?_map] at hu
      cases hz : l[j]? with
      | none => rw [hz] at hu; cases hu
      | some s => rw [hz] at hu; cases hu; exact hL j s hz
end
end Go.Proofs.YthcabnfcgjnlnaaGreatDoor
/-
  OPENING a document among the arguments.
-/
namespace Go.Proofs.YthcabnfcgjnlnaaGreatDoor
open Go.RowKit Go.ChangeShapes Go.WideShapes Go.ChangeAt Go.Deep Go.Joins Ru Lay
set_option linter.unusedVariables false
set_option linter.unusedSimpArgs false

section
variable {H : Type} {enc : TypeId × Value → H} {w : World} {spare : Nat → Bool} {held : Bool} {fuel : Nat} {v : Value} {x : DataW H × List MemPlace}
theorem trod_fields {t : TypeId} {fs : Array Field} {cs : List Value} (ht : Tryz.prog.underlying t = some (.struct fs)) (h : DataW.trod enc Tryz.prog w 0 spare held fuel t cs = some x) :
    ∃ n, ∀ (i : Nat) (f : Field), fs[i]? = some f → ∃ y, DataW.trod enc Tryz.prog w 0 spare held n f.type ((cs.drop f.offset).take (Tryz.prog.cellsOf f.type)) = some y := by
  obtain ⟨xs, n, _, _, _, hlen, hs⟩ := DataW.trod_struct ht h
  refine ⟨n, fun i f hf => ?_⟩
  have hi : i < xs.length := by rw [hlen]; exact (Array.getElem?_eq_some_iff.1 hf).1
  exact ⟨xs[i], by rw [hs i f hf]; exact List.getElem?_eq_getElem hi⟩
theorem int_of {c : Value} (h : DataW.trod enc Tryz.prog w 0 spare held fuel 3 [c] = some x) : ∃ s, c = .int .i64 s := by
  obtain ⟨s, e, _, _⟩ := DataW.trod_int Tryz.underlying3 h
  injection e with e
  exact ⟨s, e⟩
theorem str_of {c : Value} (h : DataW.trod enc Tryz.prog w 0 spare held fuel 9 [c] = some x) : ∃ s, c = .string s ∧ s.size ≤ maxLen := by
  obtain ⟨s, e, _, hs⟩ := DataW.trod_string Tryz.underlying9 h
  injection e with e
  exact ⟨s, e, hs⟩
/-- A slice of records whose cells are known to be those of some record. -/
theorem recR_of {α : Type} [Inhabited α] {f : α → List Value} {s len : Nat} {a : Addr} {p : α → Prop} (hs : 0 < s) (hf : ∀ x, (f x).length = s) (h : ∀ i, i < len → ∃ x : α, (∀ j u, (f x)[j]? = some u → w.cell? (a.add (i * s + j)) = some u) ∧ p x) :
    ∃ l, RecR f s w w.heap.size (some a) len l ∧ ∀ x ∈ l, p x := by
  obtain ⟨U, hlen, hU⟩ := list_of (α := α) (n := len) (p := fun i x => (∀ j u, (f x)[j]? = some u → w.cell? (a.add (i * s + j)) = some u) ∧ p x) h
  refine ⟨U, ⟨⟨by rw [flat_len hf, hlen], fun hn => ⟨a, rfl, ?_, fun j u hu => ?_⟩⟩, hlen⟩, fun x hx => ?_⟩
  · have hl0 : 0 < (f U[0]).length := by rw [hf]; exact hs
    have h0 := (hU 0 U[0] (List.getElem?_eq_getElem (by omega))).1 0 _ (List.getElem?_eq_getElem hl0)
    have := World.block_lt_of_cell? w _ h0
    rw [block_of_add] at this
    exact this
  · have hjl : j < len * s := by have := (List.getElem?_eq_some_iff.1 hu).1; rw [flat_len hf, hlen] at this; exact this
    have hk : j / s < U.length := by rw [hlen]; exact Nat.div_lt_of_lt_mul (by rw [Nat.mul_comm]; exact hjl)
    have hp := List.getElem?_eq_getElem hk
    have e : j / s * s + j % s = j := by rw [Nat.mul_comm]; exact Nat.div_add_mod j s
    have h1 := flat_at (f := f) hf hp (Nat.mod_lt j hs)
    rw [e, hu] at h1
    have := (hU (j / s) _ hp).1 (j % s) u h1.symm
    rw [e] at this
    exact this
  · obtain ⟨i, hi⟩ := List.getElem?_of_mem hx
    exact (hU i x hi).2
end
end Go.Proofs.YthcabnfcgjnlnaaGreatDoor
/-
  The program's Numbers and Number; the reference's index and Numbers.
-/
namespace Go.Proofs.YthcabnfcgjnlnaaGreatDoor
open Go.RowKit Ru Lay
attribute [local go_sem ↓] Go.wp_at_zero Go.wp_at_succ
set_option linter.unusedVariables false
set_option linter.unusedSimpArgs false

theorem eq_refB (a b c d : Int) (w : World) : (Op.equalIn 10000 24 (.agg #[.int .i64 a, .int .i64 b]) (.agg #[.int .i64 c, .int .i64 d])).run Tryz.prog w = .ok (decide ((a, b) = (c, d))) w := by
  have h1 : ∀ (W : World) (x y : Int), (Op.equalIn 9999 3 (.int .i64 x) (.int .i64 y)).run Tryz.prog W = .ok (x == y) W := fun W x y => run_equalIn_int W 9998 _ _ .i64 x y Tryz.underlying3
  rw [run_equalIn_struct w 9999 _ _ _ (by simp only [Program.fieldsOf, Tryz.underlying24]) (by kernel_rfl)]
  by_cases e1 : a = c
  · by_cases e2 : b = d
    · subst e1 e2
      simp [Program.fieldsOf, Tryz.underlying24, Op.eqFields, part, h1, Tryz.isAgg3, Tryz.sizeOf3]
    · subst e1
      simp [Program.fieldsOf, Tryz.underlying24, Op.eqFields, part, h1, Tryz.isAgg3, Tryz.sizeOf3, e2]
  · simp [Program.fieldsOf, Tryz.underlying24, Op.eqFields, part, h1, Tryz.isAgg3, Tryz.sizeOf3, e1]
theorem idxR_at {l : List Rf} {r : Rf} {i : Nat} (h : l[i]? = some r) (hno : r ∉ l.take i) : idxR l r = (i : Int) := by
  unfold idxR
  rw [if_pos (List.mem_of_getElem? h)]
  have hil := (List.getElem?_eq_some_iff.1 h).1
  have h1 : l = l.take i ++ r :: l.drop (i + 1) := by
    conv => lhs; rw [← List.take_append_drop i l]
    rw [List.drop_eq_getElem_cons hil, (List.getElem?_eq_some_iff.1 h).2]
  rw [h1, List.idxOf_append, if_neg hno, List.idxOf_cons_self, List.length_take]
  omega
theorem idxR_no {l : List Rf} {r : Rf} (h : r ∉ l) : idxR l r = -1 := by unfold idxR; rw [if_neg h]
theorem not_take_next {l : List Rf} {r x : Rf} {i : Nat} (h : l[i]? = some x) (hne : x ≠ r) (hno : r ∉ l.take i) : r ∉ l.take (i + 1) := by
  rw [List.take_add_one, h]
  intro hm
  rcases List.mem_append.1 hm with hm | hm
  · exact hno hm
  · simp at hm; exact hne hm.symm
set_option maxHeartbeats 2000000 in
theorem index_any (A : Option Addr) (n c : Nat) (l : List Rf) (r1 r2 : Int) (w : World) (hl : RefsR w w.heap.size A n l) (hn : n ≤ 9223372036854775807) :
    Calls Tryz.prog 34 #[.slice A n c, .agg #[.int .i64 r1, .int .i64 r2]] w fun e w' => e = .returned (.int .i64 (idxR l (r1, r2))) ∧ Below w.heap.size w w' := by
  obtain ⟨W0, hW0⟩ : ∃ W0, w.alloc (.cells #[.int .i64 r1, .int .i64 r2] 24) = W0 := ⟨_, rfl⟩
  have HB0 : Hid (Below w.heap.size w W0) := by rw [← hW0]; exact (Below.refl _ w).alloc (Nat.le_refl _) _
  have HK0 : Hid (W0.cell? ⟨w.heap.size, 0, none⟩ = some (.int .i64 r1)) := by rw [← hW0, World.cell?_alloc_new]; rfl
  have HK1 : Hid (W0.cell? ⟨w.heap.size, 1, none⟩ = some (.int .i64 r2)) := by rw [← hW0, World.cell?_alloc_new]; rfl
  have hz0 : W0.heap.size = w.heap.size + 1 := by rw [← hW0]; simp
  have HL := Lib.hid hl
  have HLN := Lib.hid hl.len
  have hg := Tryz.eqGuardType24
  clear hl
  go_enter Tryz.func34, Tryz.ntmps34
  go_wp2_with fail
  (try rw [hW0])
  clear hW0
  go_loopw [5, 8] (fun v5 v8 wr => ∃ i : Nat, i ≤ n ∧ v8 = .int .i64 i ∧ Hid ((r1, r2) ∉ l.take i) ∧ Hid (Below W0.heap.size W0 wr)) (fun _ v8 _ => n - (intOf v8).toNat)
  case atStart => exact ⟨0, Nat.zero_le _, rfl, Lib.hid (by simp), Below.refl _ _⟩
  case round =>
    obtain ⟨i, hi, rfl, HNO, HB⟩ := hrel
    obtain ⟨w0, hw0⟩ : ∃ w0, wr = w0 := ⟨_, rfl⟩
    rw [hw0] at HB ⊢
    clear hw0
    have HBW : Hid (Below w.heap.size w w0) := HB0.out.trans (HB.out.mono (by omega))
    by_cases hlt : i < n
    · have hiz : (i : Int) < (n : Int) := by omega
      have hiA : (0 : Int) ≤ (i : Int) := by omega
      obtain ⟨ad, x, rfl, hab, hx, hcells⟩ := HL.out.at_ hlt
      obtain ⟨q0, q1⟩ := hcells w0 HBW.out
      have HX := Lib.hid hx
      have HLT := Lib.hid hlt
      have k0 : w0.cell? ⟨w.heap.size, 0, none⟩ = some (.int .i64 r1) := (HB.out.cell (by show w.heap.size < _; omega)).trans HK0.out
      have k1 : w0.cell? ⟨w.heap.size, 1, none⟩ = some (.int .i64 r2) := (HB.out.cell (by show w.heap.size < _; omega)).trans HK1.out
      obtain ⟨x1, x2⟩ := x
      simp only at q0 q1
      clear hx hcells
      by_cases he : (x1, x2) = (r1, r2)
      · have HE := Lib.hid he
        have hq : ∀ W : World, (Op.equalIn 10000 24 (.agg #[.int .i64 x1, .int .i64 x2]) (.agg #[.int .i64 r1, .int .i64 r2])).run Tryz.prog W = .ok true W := fun W => by rw [eq_refB, decide_eq_true he]
        clear he
        go_wp2_with fail
        go_quiet (fail)
        have HB2 : Hid (Below w.heap.size w (w0.drewN nq)) := below_drewN HBW.out nq
        go_wp2
        go_ret
        exact ⟨by rw [idxR_at (i := i) (by rw [HX.out, HE.out]) HNO.out]; rfl, HB2.out⟩
      · have HE := Lib.hid he
        have hq : ∀ W : World, (Op.equalIn 10000 24 (.agg #[.int .i64 x1, .int .i64 x2]) (.agg #[.int .i64 r1, .int .i64 r2])).run Tryz.prog W = .ok false W := fun W => by rw [eq_refB, decide_eq_false he]
        clear he
        go_wp2_with fail
        go_quiet (fail)
        have HB2 : Hid (Below W0.heap.size W0 (w0.drewN nq)) := below_drewN HB.out nq
        go_wp2
        go_roundw
        case rel => exact ⟨i + 1, HLT.out, by go_num, not_take_next HX.out HE.out HNO.out, HB2⟩
        case measure => have := HLT.out; simp [intOf]; omega
    · obtain rfl : n = i := by omega
      have hiz : ¬ (n : Int) < (n : Int) := by omega
      have HNO' : Hid ((r1, r2) ∉ l) := by
        have h := HNO.out
        rw [List.take_of_length_le (by rw [HLN.out]; exact Nat.le_refl _)] at h
        exact h
      go_wp2
      go_ret
      exact ⟨by rw [idxR_no HNO'.out]; rfl, HBW.out⟩
theorem idxR_neg {l : List Rf} {r : Rf} : idxR l r < 0 ↔ r ∉ l := by
  unfold idxR
  by_cases h : r ∈ l
  · rw [if_pos h]; exact ⟨fun e => by omega, fun e => absurd h e⟩
  · rw [if_neg h]; exact ⟨fun _ => h, fun _ => by omega⟩
set_option maxHeartbeats 4000000 in
set_option maxRecDepth 100000 in
theorem refNumbers_any (A : Option Addr) (n c : Nat) (L : List Pt) (w : World) (hP : PtsR w w.heap.size A n L) (hn : n ≤ 1000000) (hz : (allR L).length ≤ 1000000) :
    Calls Tryz.prog 14 #[.slice A n c] w fun e w' => ∃ v, e = .returned v ∧ RfO w' w.heap.size v (numsF [] (allR L)) ∧ Below w.heap.size w w' := by
  have HP := Lib.hid hP
  have HL := Lib.hid hP.len
  have HZ := Lib.hid hz
  clear hP hz
  go_enter Tryz.func14, Tryz.ntmps14
  go_wp2_with fail
  go_loopw [3, 4, 5, 8] (fun v3 v4 v5 v8 wr => ∃ i : Nat, i ≤ n ∧ v8 = .int .i64 i ∧ Hid (RfO wr w.heap.size v3 (numsF [] (allR (L.take i)))) ∧ Hid (Below w.heap.size w wr)) (fun _ _ _ v8 _ => n - (intOf v8).toNat)
  case atStart => exact ⟨0, Nat.zero_le _, rfl, OwnR.nil, Below.refl _ _⟩
  case round =>
    obtain ⟨i, hi, rfl, HO, HB⟩ := hrel
    obtain ⟨w0, hw0⟩ : ∃ w0, wr = w0 := ⟨_, rfl⟩
    rw [hw0] at HO HB ⊢
    clear hw0
    by_cases hlt : i < n
    · have hiz : (i : Int) < (n : Int) := by omega
      have hiA : (0 : Int) ≤ (i : Int) := by omega
      obtain ⟨ad, x, rfl, hab, hx, hpr, hcells⟩ := HP.out.at_ hlt
      have HCL := Lib.hid fun W hW => (hcells W hW).2.2.2.2
      have q4 := HCL.out w0 HB.out
      have HLT := Lib.hid hlt
      have HNX := Lib.hid (allR_next hx)
      have HPT := Lib.hid (allR_part hx)
      have HRF := Lib.hid hpr.refs
      have hrn := hpr.size.2.2
      obtain ⟨pid, title, text, ea, en, ec, ra, rn, rc, rs⟩ := x
      simp only at *
      clear hx hpr hcells
      obtain ⟨out0, ho0⟩ : ∃ out0, numsF [] (allR (L.take i)) = out0 := ⟨_, rfl⟩
      have HLE : Hid (∀ j, (numsF out0 (rs.take j)).length ≤ 1000000) := fun j => by
        have h1 := HPT.out j
        have h2 := HZ.out
        have h3 := numsF_len (allR (L.take i) ++ rs.take j) []
        rw [numsF_app, ho0, List.length_append] at h3
        simp only [List.length_nil] at h3
        omega
      have HNXT : Hid (numsF [] (allR (L.take (i + 1))) = numsF out0 rs) := by
        have h1 := HNX.out
        show numsF [] (allR (L.take (i + 1))) = _
        rw [h1, numsF_app, ho0]
      rw [ho0] at HO
      clear ho0 HPT HNX
      go_upto_region 6 with fail
      clear q4
      go_loopw [3, 5, 17] (fun v3 v5 v17 wi => ∃ j : Nat, j ≤ rn ∧ v17 = .int .i64 j ∧ Hid (RfO wi w.heap.size v3 (numsF out0 (rs.take j))) ∧ Hid (Below w.heap.size w wi)) (fun _ _ v17 _ => rn - (intOf v17).toNat)
      case atStart => exact ⟨0, Nat.zero_le _, rfl, HO, HB⟩
      case round =>
        clear HO HB
        obtain ⟨j, hj, rfl, HO, HB⟩ := hrel
        obtain ⟨w2, hw2⟩ : ∃ w2, wr = w2 := ⟨_, rfl⟩
        rw [hw2] at HO HB ⊢
        clear hw2
        have HLJ := Lib.hid (HLE.out j)
        by_cases hjt : j < rn
        · have hjz : (j : Int) < (rn : Int) := by omega
          have hjA : (0 : Int) ≤ (j : Int) := by omega
          have hjA' : (0 : Int) ≤ (i : Int) := by omega
          have HJT := Lib.hid hjt
          obtain ⟨bd, r, rfl, hbb, hr, hrc⟩ := HRF.out.at_ hjt
          have HRC := Lib.hid hrc
          obtain ⟨q0, q1⟩ := hrc w2 HB.out
          have q4 := HCL.out w2 HB.out
          have HNX := Lib.hid (numsF_next (out := out0) hr)
          obtain ⟨ll, hlq⟩ : ∃ ll, numsF out0 (rs.take j) = ll := ⟨_, rfl⟩
          rw [hlq] at HO HNX HLJ
          have hsz := HB.out.size
          have hlen := HLJ.out
          obtain ⟨r1, r2⟩ := r
          simp only at q0 q1 HRC
          obtain ⟨A3, c3, rfl, h3a, h3b, hrd⟩ := RfO.form HO.out
          have HIX := Lib.hid (index_any A3 ll.length c3 ll r1 r2 w2 hrd (by omega))
          clear hlq hr hrc hrd h3a h3b
          by_cases hm : (r1, r2) ∈ ll
          · have d0 : decide (idxR ll (r1, r2) < 0) = false := decide_eq_false fun e => idxR_neg.1 e hm
            have HNY : Hid (numsF out0 (rs.take (j + 1)) = ll) := by
              have h := HNX.out
              rw [if_pos hm] at h
              exact h
            clear HNX hm
            go_wp2_with fail
            refine HIX.out.mono ?_
            rintro e w3 ⟨rfl, hb3⟩
            have HB3 : Hid (Below w.heap.size w w3) := HB.out.trans (hb3.mono hsz)
            have HO3 := Lib.hid (HO.out.on hb3)
            clear hb3 q0 q1 q4 HIX HO HB
            go_wp2
            go_roundw
            case rel => exact ⟨j + 1, HJT.out, by go_num, (by rw [HNY.out]; exact HO3), HB3⟩
            case measure => have := HJT.out; simp [intOf]; omega
          · have d0 : decide (idxR ll (r1, r2) < 0) = true := decide_eq_true (idxR_neg.2 hm)
            have HNY : Hid (numsF out0 (rs.take (j + 1)) = ll ++ [(r1, r2)]) := by
              have h := HNX.out
              rw [if_neg hm] at h
              exact h
            clear HNX hm
            go_wp2_with fail
            refine HIX.out.mono ?_
            rintro e w3 ⟨rfl, hb3⟩
            have HB3 : Hid (Below w.heap.size w w3) := HB.out.trans (hb3.mono hsz)
            have HO3 := Lib.hid (HO.out.on hb3)
            clear hb3 q0 q1 q4 HIX HO HB
            obtain ⟨q0, q1⟩ := HRC.out w3 HB3.out
            have q4 := HCL.out w3 HB3.out
            have hs3 := HB3.out.size
            go_wp2_with (at_builtin; refine wpList_appN rfl (.tmp 31) (.tmp 40) 28 rfl w.heap.size 24 2 16 (.agg #[.int .i64 0, .int .i64 0]) info_ref rfl (by omega) Tryz.underlying28 rfl HO3.out rfl rfl (by simp [Value.oneCell']) (by omega) (by omega) (by omega) ?_; rintro v7 w4 hown7 hb7)
            have HO4 : Hid (RfO w4 w.heap.size v7 (ll ++ [(r1, r2)])) := RfO.snoc hown7
            have HB4 : Hid (Below w.heap.size w w4) := HB3.out.trans hb7
            clear hown7 hb7
            go_wp2
            go_roundw
            case rel => exact ⟨j + 1, HJT.out, by go_num, (by rw [HNY.out]; exact HO4), HB4⟩
            case measure => have := HJT.out; simp [intOf]; omega
        · obtain rfl : rn = j := by omega
          have hjz : ¬ (rn : Int) < (rn : Int) := by omega
          have ht : rs.take rn = rs := List.take_of_length_le (by rw [HRF.out.len]; exact Nat.le_refl _)
          rw [ht, ← HNXT.out] at HO
          clear ht
          go_wp2
          go_roundw
          case rel => exact ⟨i + 1, HLT.out, by go_num, HO, HB⟩
          case measure => have := HLT.out; simp [intOf]; omega
    · obtain rfl : n = i := by omega
      have hiz : ¬ (n : Int) < (n : Int) := by omega
      have ht : L.take n = L := List.take_of_length_le (by rw [HL.out]; exact Nat.le_refl _)
      rw [ht] at HO
      clear ht
      go_wp2
      go_ret
      exact ⟨_, rfl, HO.out, HB.out⟩
end Go.Proofs.YthcabnfcgjnlnaaGreatDoor
/-
  The laws' comparisons: rows of strings, references; the bounds of few.
-/
namespace Go.Proofs.YthcabnfcgjnlnaaGreatDoor
open Go.RowKit Ru Lay
attribute [local go_sem ↓] Go.wp_at_zero Go.wp_at_succ
set_option linter.unusedVariables false
set_option linter.unusedSimpArgs false

set_option maxHeartbeats 4000000 in
set_option maxRecDepth 100000 in
theorem refs38_any (A B : Option Addr) (n m c d : Nat) (xs ys : List Rf) (w : World) (ha : RefsR w w.heap.size A n xs) (hb : RefsR w w.heap.size B m ys)
    (hn : n ≤ 9223372036854775807) (hm : m ≤ 9223372036854775807) :
    Calls Tryz.prog 12 #[.slice A n c, .slice B m d] w fun e w' => e = .returned (.bool (decide (xs = ys))) ∧ Below w.heap.size w w' := by
  have hxl : xs.length = n := ha.len
  have hyl : ys.length = m := hb.len
  have hg := Tryz.eqGuardType24
  by_cases hnm : n = m
  · subst hnm
    have HX := Lib.hid hxl
    have HY := Lib.hid hyl
    have HA := Lib.hid ha
    have HB := Lib.hid hb
    clear hxl hyl ha hb
    go_enter Tryz.func12, Tryz.ntmps12
    go_wp2_with fail
    go_loopw [5, 13] (fun v5 v13 wr => ∃ k : Nat, k ≤ n ∧ v13 = .int .i64 k ∧ Hid (xs.take k = ys.take k) ∧ Hid (Below w.heap.size w wr)) (fun _ v13 _ => n - (intOf v13).toNat)
    case atStart => exact ⟨0, Nat.zero_le _, rfl, rfl, Below.refl _ _⟩
    case round =>
      obtain ⟨k, hk, rfl, hpre, HZ⟩ := hrel
      obtain ⟨w0, hw0⟩ : ∃ w0, wr = w0 := ⟨_, rfl⟩
      rw [hw0] at HZ ⊢
      clear hw0
      by_cases hlt : k < n
      · obtain ⟨ad, x, rfl, hab, hx, hcx⟩ := HA.out.at_ hlt
        obtain ⟨bd, y, rfl, hbb, hy, hcy⟩ := HB.out.at_ hlt
        obtain ⟨q0, q1⟩ := hcx w0 HZ.out
        obtain ⟨q2, q3⟩ := hcy w0 HZ.out
        have HXK := Lib.hid hx
        have HYK := Lib.hid hy
        have HLT := Lib.hid hlt
        obtain ⟨x1, x2⟩ := x
        obtain ⟨y1, y2⟩ := y
        simp only at q0 q1 q2 q3
        have hkn : (k : Int) < (n : Int) := by omega
        have hkA : (0 : Int) ≤ (k : Int) := by omega
        clear hx hy hcx hcy
        by_cases he : (x1, x2) = (y1, y2)
        · have HNEXT : Hid (xs.take (k + 1) = ys.take (k + 1)) := take_eq_next hpre.out HXK.out HYK.out he
          have hq : ∀ W : World, (Op.equalIn 10000 24 (.agg #[.int .i64 x1, .int .i64 x2]) (.agg #[.int .i64 y1, .int .i64 y2])).run Tryz.prog W = .ok true W := fun W => by rw [eq_refB, decide_eq_true he]
          clear he
          go_wp2_with fail
          go_quiet (fail)
          have HB2 : Hid (Below w.heap.size w (w0.drewN nq)) := below_drewN HZ.out nq
          go_wp2
          go_roundw
          case rel => exact ⟨k + 1, HLT.out, by go_num, HNEXT, HB2⟩
          case measure => have := HLT.out; simp [intOf]; omega
        · have HRES : Hid (decide (xs = ys) = false) := decide_eq_false fun h0 => by
            have h1 := HXK.out
            rw [h0, HYK.out] at h1
            injection h1 with h1
            exact he h1.symm
          have hq : ∀ W : World, (Op.equalIn 10000 24 (.agg #[.int .i64 x1, .int .i64 x2]) (.agg #[.int .i64 y1, .int .i64 y2])).run Tryz.prog W = .ok false W := fun W => by rw [eq_refB, decide_eq_false he]
          clear he
          go_wp2_with fail
          go_quiet (fail)
          have HB2 : Hid (Below w.heap.size w (w0.drewN nq)) := below_drewN HZ.out nq
          go_wp2
          go_ret
          exact ⟨ret_bool HRES.out.symm, HB2.out⟩
      · obtain rfl : n = k := by omega
        have hkn : ¬ (n : Int) < (n : Int) := by omega
        have HRES : Hid (decide (xs = ys) = true) := by
          have h1 := hpre.out
          rw [List.take_of_length_le (by rw [HX.out]; exact Nat.le_refl _), List.take_of_length_le (by rw [HY.out]; exact Nat.le_refl _)] at h1
          exact decide_eq_true h1
        go_wp2
        go_ret
        exact ⟨ret_bool HRES.out.symm, HZ.out⟩
  · have hd : ((n : Int) != (m : Int)) = true := by rw [bne_iff_ne]; omega
    have HRES : Hid (decide (xs = ys) = false) := decide_eq_false fun he => hnm (by rw [← hxl, ← hyl, he])
    go_enter Tryz.func12, Tryz.ntmps12
    go_wp2
    go_ret
    exact ⟨ret_bool HRES.out.symm, Below.refl _ _⟩
end Go.Proofs.YthcabnfcgjnlnaaGreatDoor
/-
  The laws' few.
-/
namespace Go.Proofs.YthcabnfcgjnlnaaGreatDoor
open Go.RowKit Ru Lay
attribute [local go_sem ↓] Go.wp_at_zero Go.wp_at_succ
set_option linter.unusedVariables false
set_option linter.unusedSimpArgs false

def FewP (p : Pt) : Prop := p.title.size ≤ 100 ∧ p.text.size ≤ 400 ∧ p.rn ≤ 20
def FewPost (n : Nat) (L : List Pt) (w : World) (e : Ending) (w' : World) : Prop := ∃ b, e = .returned (.bool b) ∧ (b = true → n ≤ 45 ∧ ∀ p ∈ L, FewP p) ∧ w = w'
theorem FewPost.no {n : Nat} {L : List Pt} {w : World} : FewPost n L w (.returned (.bool false)) w := ⟨false, rfl, fun h => (by cases h), rfl⟩
theorem pre_allG {α : Type} {l : List α} {Q : α → Prop} (h : ∀ j x, j < l.length → l[j]? = some x → Q x) : ∀ x ∈ l, Q x := fun x hx => by
  obtain ⟨j, hj⟩ := List.getElem?_of_mem hx
  exact h j x (List.getElem?_eq_some_iff.1 hj).1 hj
theorem pre_nextG {α : Type} {l : List α} {Q : α → Prop} {i : Nat} {x : α} (h : ∀ j y, j < i → l[j]? = some y → Q y) (hx : l[i]? = some x) (hq : Q x) : ∀ j y, j < i + 1 → l[j]? = some y → Q y := fun j y hj hy => by
  by_cases e : j = i
  · subst e
    rw [hx] at hy
    cases hy
    exact hq
  · exact h j y (by omega) hy
set_option maxHeartbeats 4000000 in
set_option maxRecDepth 100000 in
theorem few55_any (A : Option Addr) (n c : Nat) (L : List Pt) (w : World) (hP : PtsR w w.heap.size A n L) (hn : n ≤ 9223372036854775807) :
    Calls Tryz.prog 10 #[.slice A n c] w (FewPost n L w) := by
  have HL := Lib.hid hP
  have HLN := Lib.hid hP.len
  clear hP
  go_enter Tryz.func10, Tryz.ntmps10
  go_wp2_with fail
  go_loop [3] (fun v3 => ∃ i : Nat, i ≤ n ∧ i ≤ 46 ∧ v3 = .int .i64 i ∧ Hid (∀ j p, j < i → L[j]? = some p → FewP p)) (fun v3 => n - (intOf v3).toNat)
  case atStart => exact ⟨0, Nat.zero_le _, by omega, rfl, fun j p h => by omega⟩
  case round =>
    obtain ⟨i, hi, hi46, rfl, HP⟩ := hrel
    by_cases hlt : i < n
    · have hiz : (i : Int) < (n : Int) := by omega
      have hiA : (0 : Int) ≤ (i : Int) := by omega
      by_cases h46 : i < 46
      · have hi2 : (i : Int) < 46 := by omega
        have hi3 : i < 46 := h46
        obtain ⟨ad, p, rfl, hab, hp, hpr, hpc⟩ := HL.out.at_ hlt
        obtain ⟨q0, q1, q2, q3, q4⟩ := hpc w (Below.refl _ _)
        have HX := Lib.hid hp
        have HI := Lib.hid hlt
        clear hp hpc hpr
        by_cases h1 : p.title.size ≤ 100
        · have d1 : decide ((p.title.size : Int) > 100) = false := decide_eq_false (by omega)
          have d1' : decide (100 < p.title.size) = false := decide_eq_false (by omega)
          have d1'' : decide ((100 : Int) < (p.title.size : Int)) = false := decide_eq_false (by omega)
          by_cases h2 : p.text.size ≤ 400
          · have d2 : decide ((p.text.size : Int) > 400) = false := decide_eq_false (by omega)
            have d2' : decide (400 < p.text.size) = false := decide_eq_false (by omega)
            have d2'' : decide ((400 : Int) < (p.text.size : Int)) = false := decide_eq_false (by omega)
            by_cases h3 : p.en ≤ 40
            · have d3 : decide ((p.en : Int) > 40) = false := decide_eq_false (by omega)
              have d3' : decide (40 < p.en) = false := decide_eq_false (by omega)
              have d3'' : decide ((40 : Int) < (p.en : Int)) = false := decide_eq_false (by omega)
              by_cases h4 : p.rn ≤ 20
              · have d4 : decide ((p.rn : Int) > 20) = false := decide_eq_false (by omega)
                have d4' : decide (20 < p.rn) = false := decide_eq_false (by omega)
                have d4'' : decide ((20 : Int) < (p.rn : Int)) = false := decide_eq_false (by omega)
                have HQ := Lib.hid (pre_nextG HP.out HX.out ⟨h1, h2, h4⟩)
                have hi1 : i + 1 ≤ 46 := by omega
                clear h1 h2 h3 h4
                go_wp2
                go_round
                case rel => exact ⟨i + 1, HI.out, hi1, by go_num, HQ⟩
                case measure => have := HI.out; simp [intOf]; omega
              · have d4 : decide ((p.rn : Int) > 20) = true := decide_eq_true (by omega)
                have d4' : decide (20 < p.rn) = true := decide_eq_true (by omega)
                have d4'' : decide ((20 : Int) < (p.rn : Int)) = true := decide_eq_true (by omega)
                clear h1 h2 h3 h4
                go_wp2
                go_ret
                exact FewPost.no
            · have d3 : decide ((p.en : Int) > 40) = true := decide_eq_true (by omega)
              have d3' : decide (40 < p.en) = true := decide_eq_true (by omega)
              have d3'' : decide ((40 : Int) < (p.en : Int)) = true := decide_eq_true (by omega)
              clear h1 h2 h3
              go_wp2
              go_ret
              exact FewPost.no
          · have d2 : decide ((p.text.size : Int) > 400) = true := decide_eq_true (by omega)
            have d2' : decide (400 < p.text.size) = true := decide_eq_true (by omega)
            have d2'' : decide ((400 : Int) < (p.text.size : Int)) = true := decide_eq_true (by omega)
            clear h1 h2
            go_wp2
            go_ret
            exact FewPost.no
        · have d1 : decide ((p.title.size : Int) > 100) = true := decide_eq_true (by omega)
          have d1' : decide (100 < p.title.size) = true := decide_eq_true (by omega)
          have d1'' : decide ((100 : Int) < (p.title.size : Int)) = true := decide_eq_true (by omega)
          clear h1
          go_wp2
          go_ret
          exact FewPost.no
      · have hi2 : ¬ (i : Int) < 46 := by omega
        have hd : decide ((n : Int) ≤ 45) = false := decide_eq_false (by omega)
        have hd2 : decide (n ≤ 45) = false := decide_eq_false (by omega)
        have hd3 : ¬ (n ≤ 45) := by omega
        go_wp2
        go_ret
        exact FewPost.no
    · obtain rfl : n = i := by omega
      have hiz : ¬ (n : Int) < (n : Int) := by omega
      have HQ : Hid (∀ p ∈ L, FewP p) := pre_allG fun j p hj hp => HP.out j p (by rw [← HLN.out]; exact hj) hp
      by_cases h45 : n ≤ 45
      · have hd : (n : Int) ≤ 45 := by omega
        have H45 := Lib.hid h45
        go_wp2
        go_ret
        exact ⟨true, rfl, fun _ => ⟨H45.out, HQ.out⟩, rfl⟩
      · have hd : ¬ (n : Int) ≤ 45 := by omega
        have hd2 : decide ((n : Int) ≤ 45) = false := decide_eq_false hd
        go_wp2
        go_ret
        exact FewPost.no
end Go.Proofs.YthcabnfcgjnlnaaGreatDoor
/-
  The reference's Number.
-/
namespace Go.Proofs.YthcabnfcgjnlnaaGreatDoor
open Go.RowKit Ru Lay
attribute [local go_sem ↓] Go.wp_at_zero Go.wp_at_succ
set_option linter.unusedVariables false
set_option linter.unusedSimpArgs false

set_option maxHeartbeats 4000000 in
set_option maxRecDepth 100000 in
theorem refNumber_any (A : Option Addr) (n c : Nat) (L : List Pt) (r1 r2 : Int) (w : World) (hP : PtsR w w.heap.size A n L) (hn : n ≤ 1000000) (hz : (allR L).length ≤ 1000000) :
    Calls Tryz.prog 16 #[.slice A n c, .agg #[.int .i64 r1, .int .i64 r2]] w fun e w' => e = .returned (.int .i64 (numR (numsF [] (allR L)) (r1, r2))) ∧ Below w.heap.size w w' := by
  obtain ⟨W0, hW0⟩ : ∃ W0, w.alloc (.cells #[.int .i64 r1, .int .i64 r2] 24) = W0 := ⟨_, rfl⟩
  have HB0 : Hid (Below w.heap.size w W0) := by rw [← hW0]; exact (Below.refl _ w).alloc (Nat.le_refl _) _
  have hz0 : W0.heap.size = w.heap.size + 1 := by rw [← hW0]; simp
  have HK0 : Hid (∀ W, Below W0.heap.size W0 W → W.cell? ⟨w.heap.size, 0, none⟩ = some (.int .i64 r1)) := fun W hW => by
    rw [hW.cell (p := ⟨w.heap.size, 0, none⟩) (by show w.heap.size < _; omega), ← hW0, World.cell?_alloc_new]; rfl
  have HK1 : Hid (∀ W, Below W0.heap.size W0 W → W.cell? ⟨w.heap.size, 1, none⟩ = some (.int .i64 r2)) := fun W hW => by
    rw [hW.cell (p := ⟨w.heap.size, 1, none⟩) (by show w.heap.size < _; omega), ← hW0, World.cell?_alloc_new]; rfl
  have HP := Lib.hid (hP.on HB0.out)
  have hlen : (numsF [] (allR L)).length ≤ 1000000 := by have := numsF_len (allR L) []; simp only [List.length_nil] at this; omega
  have HC : Hid (∀ W, Below W0.heap.size W0 W → Calls Tryz.prog 14 #[.slice A n c] W fun e w' => ∃ v, e = .returned v ∧ RfO w' W.heap.size v (numsF [] (allR L)) ∧ Below W.heap.size W w') := fun W hW => refNumbers_any A n c L W (HP.out.on hW) hn hz
  obtain ⟨nl, hnl⟩ : ∃ nl, numsF [] (allR L) = nl := ⟨_, rfl⟩
  rw [hnl] at HC hlen ⊢
  have HWR : Hid (IntKind.i64.wrap (idxR nl (r1, r2) + 1) = numR nl (r1, r2)) := by
    have h := numR_range nl (r1, r2)
    show IntKind.i64.wrap (numR nl (r1, r2)) = _
    exact IntWalk.i64_in _ (by omega)
  clear hP HP hnl
  go_enter Tryz.func16, Tryz.ntmps16
  go_wp2_with fail
  (try rw [hW0])
  clear hW0
  refine wp_region_told [Told.is (.slice A n c), Told.such (fun v W => RfO W W0.heap.size v nl) (fun v W W' h hb => h.on hb), Told.is (.agg #[.int .i64 r1, .int .i64 r2]), Told.is (.int .i64 (idxR nl (r1, r2))), Told.is (.int .i64 (numR nl (r1, r2))), Told.is (.int .i64 (numR nl (r1, r2)))] (by kernel_rfl) (by kernel_rfl) ?_ ?_
  · refine And.intro (fun w1 vals hB hd K hK => ?_) ?_
    · clear hd
      simp only [putAll, Act.put, List.setIfInBounds_toArray, List.set_cons_zero, List.set_cons_succ] at hK ⊢
      obtain ⟨ve, hve⟩ : ∃ f : Nat → Value, f = vals := ⟨_, rfl⟩
      rw [← hve] at hK  ⊢
      clear hve
      refine gwp_none rfl ?_
      go_simp
      exact hK _ _ rfl (Below.refl _ _)
    refine And.intro (fun w1 vals hB hd K hK => ?_) ?_
    · have e0 : vals 0 = .slice A n c := told_at (hd 0 rfl) rfl
      clear hd
      simp only [putAll, Act.put, List.setIfInBounds_toArray, List.set_cons_zero, List.set_cons_succ] at hK ⊢
      simp only [e0] at hK ⊢
      obtain ⟨ve, hve⟩ : ∃ f : Nat → Value, f = vals := ⟨_, rfl⟩
      rw [← hve] at hK  ⊢
      clear e0 hve
      refine gwp_none rfl ?_
      go_simp
      refine (HC.out w1 hB).mono ?_
      rintro e w2 ⟨v, rfl, hO, hb⟩
      exact hK _ _ (hO.base hB.size) hb
    refine And.intro (fun w1 vals hB hd K hK => ?_) ?_
    · clear hd
      simp only [putAll, Act.put, List.setIfInBounds_toArray, List.set_cons_zero, List.set_cons_succ] at hK ⊢
      obtain ⟨ve, hve⟩ : ∃ f : Nat → Value, f = vals := ⟨_, rfl⟩
      rw [← hve] at hK  ⊢
      clear hve
      refine gwp_none rfl ?_
      have hc0 := HK0.out w1 hB
      have hc1 := HK1.out w1 hB
      go_simp
      exact hK _ _ rfl (Below.refl _ _)
    refine And.intro (fun w1 vals hB hd K hK => ?_) ?_
    · have p1 := told_at (t := Told.such (fun v W => RfO W W0.heap.size v nl) (fun v W W' h hb => h.on hb)) (hd 1 rfl) rfl
      simp only [Told.holds] at p1
      have e2 : vals 2 = .agg #[.int .i64 r1, .int .i64 r2] := told_at (hd 2 rfl) rfl
      clear hd
      obtain ⟨x1, hx1⟩ : ∃ x, vals 1 = x := ⟨_, rfl⟩
      rw [hx1] at p1
      simp only [putAll, Act.put, List.setIfInBounds_toArray, List.set_cons_zero, List.set_cons_succ] at hK ⊢
      simp only [e2, hx1] at hK ⊢
      obtain ⟨ve, hve⟩ : ∃ f : Nat → Value, f = vals := ⟨_, rfl⟩
      rw [← hve] at hK  ⊢
      clear e2 hx1 hve
      refine gwp_none rfl ?_
      obtain ⟨A3, c3, rfl, h3a, h3b, hrd⟩ := RfO.form p1
      go_simp
      refine (index_any A3 nl.length c3 nl r1 r2 w1 hrd (by omega)).mono ?_
      rintro e w2 ⟨rfl, hb⟩
      exact hK _ _ rfl hb
    refine And.intro (fun w1 vals hB hd K hK => ?_) ?_
    · have e3 : vals 3 = .int .i64 (idxR nl (r1, r2)) := told_at (hd 3 rfl) rfl
      clear hd
      simp only [putAll, Act.put, List.setIfInBounds_toArray, List.set_cons_zero, List.set_cons_succ] at hK ⊢
      simp only [e3] at hK ⊢
      obtain ⟨ve, hve⟩ : ∃ f : Nat → Value, f = vals := ⟨_, rfl⟩
      rw [← hve] at hK  ⊢
      clear e3 hve
      refine gwp_none rfl ?_
      have hwr : IntKind.i64.wrap (idxR nl (r1, r2) + 1) = numR nl (r1, r2) := HWR.out
      go_simp
      exact hK _ _ rfl (Below.refl _ _)
    refine And.intro (fun w1 vals hB hd K hK => ?_) ?_
    · have e4 : vals 4 = .int .i64 (numR nl (r1, r2)) := told_at (hd 4 rfl) rfl
      clear hd
      simp only [putAll, Act.put, List.setIfInBounds_toArray, List.set_cons_zero, List.set_cons_succ] at hK ⊢
      simp only [e4] at hK ⊢
      obtain ⟨ve, hve⟩ : ∃ f : Nat → Value, f = vals := ⟨_, rfl⟩
      rw [← hve] at hK  ⊢
      clear e4 hve
      refine gwp_none rfl ?_
      go_simp
      exact hK _ _ rfl (Below.refl _ _)
    exact trivial
  · intro w1 vals hB hd
    have e5 : vals 5 = .int .i64 (numR nl (r1, r2)) := told_at (hd 5 (by decide)) rfl
    clear hd
    simp only [putAll, Act.put, List.setIfInBounds_toArray, List.set_cons_zero, List.set_cons_succ]
    simp only [e5]
    obtain ⟨ve, hve⟩ : ∃ f : Nat → Value, f = vals := ⟨_, rfl⟩
    rw [← hve]
    clear e5 hve
    go_wp2
    go_ret
    exact ⟨rfl, HB0.out.trans (hB.mono HB0.out.size)⟩
end Go.Proofs.YthcabnfcgjnlnaaGreatDoor
