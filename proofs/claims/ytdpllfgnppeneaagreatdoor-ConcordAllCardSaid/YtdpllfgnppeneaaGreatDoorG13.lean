import Derived.Test.YtdpllfgnppeneaaGreatDoorHit
import Derived.Test.YtdpllfgnppeneaaGreatDoorG00
import Derived.Test.YtdpllfgnppeneaaGreatDoorG08
/-
  concord.All: the lines of notes.
-/
namespace Go.Proofs.YtdpllfgnppeneaaGreatDoor
open Go.RowKit Ru Lay Srt Col
attribute [local go_sem ↓] Go.wp_at_zero Go.wp_at_succ
set_option linter.unusedVariables false
set_option linter.unusedSimpArgs false

theorem info_hit : (Tryz.prog.info? 35).map (fun i => (i.zero, i.size, i.bytes)) = some (some (.agg #[.int .i64 0, .int .i64 0, .slice none 0 0, .string ⟨#[]⟩, .slice none 0 0]), 5, 80) := by kernel_rfl
/-- The lines of the notes that there are. -/
def hitsL (rid : Int) (tn : Nat) (l : List Nt) (ids : List Int) (n : Int) : List Ht := ids.filterMap fun id => hitL rid tn l id n
theorem hitsL_next {rid : Int} {tn : Nat} {l : List Nt} {ids : List Int} {n : Int} {i : Nat} {id : Int} (h : ids[i]? = some id) : hitsL rid tn l (ids.take (i + 1)) n = hitsL rid tn l (ids.take i) n ++ (hitL rid tn l id n).toList := by
  unfold hitsL
  rw [take_at2 h, List.filterMap_append]
  cases hq : hitL rid tn l id n <;> simp [hq]
/-- 'append(s, x)', x a record that has just been laid: with what is as it was. -/
theorem wpList_appN2 {P : Program} {ops : Array Oper} {rest : List Oper} {o : Oper} {a : Act} {Q : Exit → Act → World → Prop} {w0 : World} {c : Array Value} (hgd : o.guard = none) (s yy : Operand) (t : TypeId)
    (ho : o.op = .call { callee := .builtin .append, args := #[s, yy], argTypes := #[t, t] })
    (base : Nat) (e : TypeId) (size bytes : Nat) (z : Value) (hinfo : (P.info? e).map (fun i => (i.zero, i.size, i.bytes)) = some (some z, size, bytes)) (hzc : z.cells.size = size) (hs0 : 0 < size) (ht : P.underlying t = some (.slice e))
    {v : Value} {n : Nat} {xs : List Value} (hs : a.eval s = v) (hown : w0.ownsRow base e size v n xs) (hy : a.eval yy = .slice (some ⟨w0.heap.size, 0, none⟩) 1 1) (hc : c.toList.length = size) (h1 : ∀ u ∈ c.toList, u.oneCell' = true)
    (h63 : n + 1 ≤ 9223372036854775807) (hbytes : (n + 1) * bytes ≤ 140737488355328) (hbase : base ≤ w0.heap.size)
    (h : ∀ v' w', w'.ownsRow base e size v' (n + 1) (xs ++ c.toList) → Below base w0 w' → (w0.alloc (.cells c e)).grownBy w' v.ownBlock → (v'.ownBlock = v.ownBlock ∨ v'.ownBlock = some (w0.alloc (.cells c e)).heap.size) → wpList P ops Q rest (a.put o.dst v') w') :
    wpList P ops Q (o :: rest) a (w0.alloc (.cells c e)) := by
  obtain ⟨i0, hi, hz0, hz1, hz2⟩ := info_parts hinfo
  refine wpList_append_own_at _ hgd s yy t ho base e i0 z size bytes ht hi hz0 hz1 hz2 hzc hs0 v n xs hs (hown.alloc _) ⟨w0.heap.size, 0, none⟩ 1 1 c.toList hy (by rw [hc, Nat.one_mul]) ?_ h1 (by unfold maxLen; omega) hbytes (by simp; omega) ?_
  · intro j u hu
    rw [Addr.add_mid, Nat.zero_add, World.cell?_alloc_at _ _ _ _ rfl]
    simpa using hu
  · intro v' w' hown' hgrow _ hat
    exact h v' w' hown' (below_append (Below.refl base w0) hbase hown (Nat.le_refl _) hgrow) hgrow hat
/-- The lists of a line lie in other blocks. -/
def ListsOff (g : Option Nat) (h : Hv) : Prop := (∀ ad, h.la = some ad → 0 < h.ln → some ad.block ≠ g) ∧ (∀ ad, h.ra = some ad → 0 < h.rn → some ad.block ≠ g)
theorem sr_grown {w w' : World} {B n : Nat} {A : Option Addr} {l : List ByteArray} {g : Option Nat} (h : SR w B A n l) (hB : B ≤ w.heap.size) (hg : w.grownBy w' g) (ho : ∀ ad, A = some ad → 0 < n → some ad.block ≠ g) : SR w' B A n l :=
  ⟨h.1, fun h0 => by
    obtain ⟨ad, e, hb, hc⟩ := h.2 h0
    refine ⟨ad, e, hb, fun j u hu => ?_⟩
    rw [← hc j u hu]
    exact World.cell?_of_block (hg.block _ (by rw [block_of_add]; omega) (by rw [block_of_add]; exact ho ad e h0))⟩
theorem HvR.grown {w w' : World} {h : Hv} {g : Option Nat} (hh : HvR w w.heap.size h) (hg : w.grownBy w' g) (ho : ListsOff g h) : HvR w' w'.heap.size h :=
  ⟨Reads.more (sr_grown hh.left (Nat.le_refl _) hg ho.1) hg.size, Reads.more (sr_grown hh.right (Nat.le_refl _) hg ho.2) hg.size, hh.lc, hh.rc⟩
/-- A row of lines of the call's own. -/
structure OwnH (w : World) (base : Nat) (v : Value) (l : List Hv) : Prop where
  row : OwnR encH 5 35 w base v l
  each : ∀ h ∈ l, HvR w w.heap.size h ∧ ListsOff v.ownBlock h
theorem OwnH.nil (w : World) (base : Nat) : OwnH w base (.slice none 0 0) [] := ⟨OwnR.nil, fun _ h => by cases h⟩
theorem OwnH.on {w w' : World} {base : Nat} {v : Value} {l : List Hv} (h : OwnH w base v l) (hb : Below w.heap.size w w') : OwnH w' base v l := ⟨h.row.on hb, fun x hx => ⟨(h.each x hx).1.on hb, (h.each x hx).2⟩⟩
theorem OwnH.form {w : World} {base : Nat} {v : Value} {l : List Hv} (h : OwnH w base v l) : ∃ A c, v = .slice A l.length c ∧ l.length ≤ c ∧ c ≤ 9223372036854775807 ∧ HitsR w w.heap.size A l.length l := by
  obtain ⟨A, c, h1, h2, h3, h4⟩ := h.row.form
  exact ⟨A, c, h1, h2, h3, h4, fun x hx => (h.each x hx).1⟩
theorem OwnH.base {w : World} {b b' : Nat} {v : Value} {l : List Hv} (h : OwnH w b v l) (hb : b' ≤ b) : OwnH w b' v l := ⟨own_base h.row hb, h.each⟩
theorem OwnH.snoc {w w' : World} {base : Nat} {v v' : Value} {l : List Hv} {hv : Hv} (h : OwnH w base v l) (hh : HvR w w.heap.size hv) (ho : ListsOff v.ownBlock hv) (hown : w'.ownsRow base 35 5 v' (l.length + 1) (l.flatMap encH ++ encH hv))
    (hg : w.grownBy w' v.ownBlock) (hat : v'.ownBlock = v.ownBlock ∨ v'.ownBlock = some w.heap.size) : OwnH w' base v' (l ++ [hv]) := by
  have key : ∀ x, HvR w w.heap.size x → ListsOff v.ownBlock x → HvR w' w'.heap.size x ∧ ListsOff v'.ownBlock x := fun x hx hox => by
    refine ⟨hx.grown hg hox, ?_⟩
    rcases hat with e | e
    · rw [e]; exact hox
    · rw [e]
      refine ⟨fun ad ha h0 hc => ?_, fun ad ha h0 hc => ?_⟩
      · obtain ⟨ad', e', hb, _⟩ := hx.left.2 h0
        rw [ha] at e'; cases e'
        have := Option.some.inj hc
        omega
      · obtain ⟨ad', e', hb, _⟩ := hx.right.2 h0
        rw [ha] at e'; cases e'
        have := Option.some.inj hc
        omega
  refine ⟨OwnR.snoc hown, fun x hx => ?_⟩
  rcases List.mem_append.1 hx with h1 | h1
  · exact key x (h.each x h1).1 (h.each x h1).2
  · rw [List.mem_singleton] at h1
    subst h1
    exact key x hh ho
theorem off_fresh {w : World} {base : Nat} {v : Value} {l : List Hv} {h : Hv} (ho : OwnH w base v l) (hf : (∀ ad, h.la = some ad → w.heap.size ≤ ad.block) ∧ (∀ ad, h.ra = some ad → w.heap.size ≤ ad.block)) : ListsOff v.ownBlock h := by
  refine ⟨fun ad ha _ hc => ?_, fun ad ha _ hc => ?_⟩
  · have h1 := hf.1 ad ha
    have h2 := (World.ownsRow.lt ho.row ad.block hc.symm).2
    omega
  · have h1 := hf.2 ad ha
    have h2 := (World.ownsRow.lt ho.row ad.block hc.symm).2
    omega
set_option maxHeartbeats 4000000 in
set_option maxRecDepth 100000 in
theorem all_any (d : Dv) (l : List Nt) (A : Option Addr) (m c : Nat) (ids : List Int) (n : Int) (w : World) (hl : NotesR w w.heap.size d.na d.nn l) (hn : d.nn < 20) (ht : d.tn ≤ 9223372036854775807) (htr : ∀ x ∈ l, 0 ≤ x.tier ∧ x.tier < (d.tn : Int)) (hi : IR w w.heap.size A m ids) (hm : m ≤ 1000) :
    Calls Tryz.prog 11 #[docV d, .slice A m c, .int .i64 n] w fun e w' => ∃ v hs, e = .returned v ∧ OwnH w' w.heap.size v hs ∧ hs.map Hv.toHt = hitsL d.rid d.tn l ids n ∧ Below w.heap.size w w' := by
  have HI := Lib.hid hi
  have HIN := Lib.hid hi.len
  have HH := Lib.hid fun (W : World) (hW : Below w.heap.size w W) (id : Int) => hit_any d l id n W (hl.on hW) hn ht htr
  clear hl hi htr
  unfold docV at HH
  unfold docV
  obtain ⟨rid, name, len, day, sa, sn, sc, ta, tn, tc, na, nn, nc⟩ := d
  simp only at HH hn ht ⊢
  go_enter Tryz.func11, Tryz.ntmps11
  go_wp2_with fail
  obtain ⟨W0, hW0, hz0, hB, hK⟩ := kids_cells w rid name len day sa ta na sn sc tn tc nn nc
  have HB := Lib.hid hB
  have HK := Lib.hid hK
  rw [hW0]
  clear hW0 hB hK
  go_loopw [7, 9, 10, 11, 14] (fun v7 v9 v10 v11 v14 wr => ∃ (i : Nat) (hs : List Hv), i ≤ m ∧ v14 = .int .i64 i ∧ Hid (OwnH wr W0.heap.size v7 hs) ∧ Hid (hs.map Hv.toHt = hitsL rid tn l (ids.take i) n) ∧ Hid (Below W0.heap.size W0 wr)) (fun _ _ _ _ v14 _ => m - (intOf v14).toNat)
  case atStart => exact ⟨0, [], Nat.zero_le _, rfl, OwnH.nil _ _, (by rw [List.take_zero]; rfl), Below.refl _ _⟩
  case round =>
    obtain ⟨i, hs, hi, rfl, HO, HE, HB0⟩ := hrel
    obtain ⟨w0, hw0⟩ : ∃ w0, wr = w0 := ⟨_, rfl⟩
    rw [hw0] at HO HB0 ⊢
    clear hw0
    have HBW : Hid (Below w.heap.size w w0) := HB.out.trans (HB0.out.mono HB.out.size)
    by_cases hlt : i < m
    · have hiz : (i : Int) < (m : Int) := by omega
      have hiA : (0 : Int) ≤ (i : Int) := by omega
      obtain ⟨ad, id, rfl, hab, hx, hc⟩ := HI.out.at_ hlt
      have hcw : w0.cell? (ad.add i) = some (.int .i64 id) := (HBW.out.cell (by rw [block_of_add]; exact hab)).trans hc
      have HLT := Lib.hid hlt
      have HNX := Lib.hid (hitsL_next (rid := rid) (tn := tn) (l := l) (n := n) hx)
      have hi1 : i + 1 ≤ m := hlt
      have hll : hs.length ≤ i := by
        have h1 := congrArg List.length HE.out
        rw [List.length_map] at h1
        have h2 : (hitsL rid tn l (ids.take i) n).length ≤ (ids.take i).length := List.length_filterMap_le _ _
        rw [List.length_take] at h2
        omega
      have hk := HK.out w0 HB0.out
      have k0 : w0.cell? ⟨w.heap.size, 0, none⟩ = some (.int .i64 rid) := hk 0 _ rfl
      have k1 : w0.cell? ⟨w.heap.size, 1, none⟩ = some (.string name) := hk 1 _ rfl
      have k2 : w0.cell? ⟨w.heap.size, 2, none⟩ = some (.int .i64 len) := hk 2 _ rfl
      have k3 : w0.cell? ⟨w.heap.size, 3, none⟩ = some (.int .i64 day) := hk 3 _ rfl
      have k4 : w0.cell? ⟨w.heap.size, 4, none⟩ = some (.slice sa sn sc) := hk 4 _ rfl
      have k5 : w0.cell? ⟨w.heap.size, 5, none⟩ = some (.slice ta tn tc) := hk 5 _ rfl
      have k6 : w0.cell? ⟨w.heap.size, 6, none⟩ = some (.slice na nn nc) := hk 6 _ rfl
      have HHH := Lib.hid (HH.out w0 HBW.out id)
      have hsz := HB0.out.size
      have hgl : Hid (hitL rid tn l id n = none ↔ getN l id = none) := by show _ ↔ _; unfold hitL; cases getN l id <;> simp
      clear hx hc hk
      go_wp2_with fail
      refine HHH.out.mono ?_
      rintro e w1 ⟨hv, rfl, hht, hvr, hfr, hb⟩
      have HOF := Lib.hid (off_fresh HO.out hfr)
      clear hfr
      have HHT := Lib.hid hht
      have HVR := Lib.hid hvr
      have HB1 : Hid (Below W0.heap.size W0 w1) := HB0.out.trans (hb.mono hsz)
      have HBA : Hid (Below W0.heap.size W0 (w1.alloc (.cells #[.int .i64 hv.rid, .int .i64 hv.nid, .slice hv.la hv.ln hv.lc, .string hv.key, .slice hv.ra hv.rn hv.rc] 35))) := HB1.out.alloc HB1.out.size _
      have HO1 : Hid (OwnH (w1.alloc (.cells #[.int .i64 hv.rid, .int .i64 hv.nid, .slice hv.la hv.ln hv.lc, .string hv.key, .slice hv.ra hv.rn hv.rc] 35)) W0.heap.size u7 hs) := (HO.out.on hb).on ((Below.refl _ w1).alloc (Nat.le_refl _) _)
      have HVR1 : Hid (HvR (w1.alloc (.cells #[.int .i64 hv.rid, .int .i64 hv.nid, .slice hv.la hv.ln hv.lc, .string hv.key, .slice hv.ra hv.rn hv.rc] 35)) (w1.alloc (.cells #[.int .i64 hv.rid, .int .i64 hv.nid, .slice hv.la hv.ln hv.lc, .string hv.key, .slice hv.ra hv.rn hv.rc] 35)).heap.size hv) := hvr.on ((Below.refl _ w1).alloc (Nat.le_refl _) _)
      have hsa : (w1.alloc (.cells #[.int .i64 hv.rid, .int .i64 hv.nid, .slice hv.la hv.ln hv.lc, .string hv.key, .slice hv.ra hv.rn hv.rc] 35)).heap.size = w1.heap.size + 1 := by simp
      have hsz1 : W0.heap.size ≤ w1.heap.size := HB1.out.size
      clear hht hvr hb HHH HO k0 k1 k2 k3 k4 k5 k6 hcw
      rw [show (encH hv).toArray = #[.int .i64 hv.rid, .int .i64 hv.nid, .slice hv.la hv.ln hv.lc, .string hv.key, .slice hv.ra hv.rn hv.rc] from rfl]
      obtain ⟨og, hog⟩ : ∃ og, Hid (getN l id = og) := ⟨_, rfl⟩
      rw [hog.out] at hgl ⊢
      cases og with
      | none =>
        have hN : hitL rid tn l id n = none := hgl.out.2 rfl
        have HE2 : Hid (hs.map Hv.toHt = hitsL rid tn l (ids.take (i + 1)) n) := by
          show _ = _
          rw [HNX.out, hN, HE.out]
          exact (List.append_nil _).symm
        clear hN
        simp only [Option.isSome_none]
        go_wp2
        go_roundw
        case rel => exact ⟨i + 1, hs, hi1, by go_num, HO1, HE2, HBA⟩
        case measure => have := HLT.out; simp [intOf]; omega
      | some x =>
        have HE2 : Hid ((hs ++ [hv]).map Hv.toHt = hitsL rid tn l (ids.take (i + 1)) n) := by
          show _ = _
          obtain ⟨y, hy⟩ : ∃ y, hitL rid tn l id n = some y := by
            cases hq : hitL rid tn l id n with
            | none => have := hgl.out.1 hq; cases this
            | some y => exact ⟨y, rfl⟩
          rw [HNX.out, List.map_append, HE.out, hy, List.map_singleton, HHT.out, hy]
          rfl
        simp only [Option.isSome_some]
        go_wp2_with (at_builtin; refine wpList_appN2 rfl (.tmp 26) (.tmp 28) 41 rfl W0.heap.size 35 5 80 _ info_hit rfl (by omega) Tryz.underlying41 rfl HO1.out.row (by rw [hsa]; rfl) rfl (by simp [Value.oneCell']) (by omega) (by omega) (by omega) ?_; rintro v7' w4 hown7 hb7 hg7 hat7)
        obtain ⟨W2, hW2⟩ : ∃ W2, W2 = (w1.alloc (.cells #[.int .i64 hv.rid, .int .i64 hv.nid, .slice hv.la hv.ln hv.lc, .string hv.key, .slice hv.ra hv.rn hv.rc] 35)).alloc (.cells #[.int .i64 hv.rid, .int .i64 hv.nid, .slice hv.la hv.ln hv.lc, .string hv.key, .slice hv.ra hv.rn hv.rc] 35) := ⟨_, rfl⟩
        rw [← hW2] at hg7 hat7
        have hz2 : Below (w1.alloc (.cells #[.int .i64 hv.rid, .int .i64 hv.nid, .slice hv.la hv.ln hv.lc, .string hv.key, .slice hv.ra hv.rn hv.rc] 35)).heap.size (w1.alloc (.cells #[.int .i64 hv.rid, .int .i64 hv.nid, .slice hv.la hv.ln hv.lc, .string hv.key, .slice hv.ra hv.rn hv.rc] 35)) W2 := by rw [hW2]; exact (Below.refl _ _).alloc (Nat.le_refl _) _
        have HO3 : Hid (OwnH w4 W0.heap.size v7' (hs ++ [hv])) := (HO1.out.on hz2).snoc (HVR1.out.on hz2) HOF.out hown7 hg7 hat7
        clear hW2 hg7 hat7 hz2
        have HB3 : Hid (Below W0.heap.size W0 w4) := HBA.out.trans hb7
        clear hown7 hb7
        go_wp2
        go_roundw
        case rel => exact ⟨i + 1, hs ++ [hv], hi1, by go_num, HO3, HE2, HB3⟩
        case measure => have := HLT.out; simp [intOf]; omega
    · obtain rfl : m = i := by omega
      have hiz : ¬ (m : Int) < (m : Int) := by omega
      have HE5 : Hid (hs.map Hv.toHt = hitsL rid tn l ids n) := by
        have := HE.out
        rw [List.take_of_length_le (by rw [HIN.out]; exact Nat.le_refl _)] at this
        exact this
      go_wp2
      go_ret
      exact ⟨_, rfl, hs, HO.out.base HB.out.size, HE5.out, HBW.out⟩
end Go.Proofs.YtdpllfgnppeneaaGreatDoor

/-
  The example of the chapter on concordances.
-/
namespace Go.Proofs.YtdpllfgnppeneaaGreatDoor
open Go.RowKit Ru Lay
attribute [local go_sem ↓] Go.wp_at_zero Go.wp_at_succ
set_option linter.unusedVariables false
set_option linter.unusedSimpArgs false

theorem results_cell1_of {P : Program} {fn : Func} {p : Tmp} {ty : TypeId} (h : fn.results = #[.cell p ty]) (tmps : Array Value) (w : World) (b : Nat) (cs : List Value) (d : TypeDesc)
    (hp : tmps.getD p undef = .pointer (some ⟨b, 0, none⟩)) (hc : w.rangeAt b 0 cs) (hu : P.underlying ty = some d) (hd : d.isRow = true) (hi : (P.info? ty).map (·.size) = some cs.length) :
    (results fn tmps).run P w = .ok (.agg cs.toArray) w := by
  have hp' : tmps[p]?.getD undef = .pointer (some ⟨b, 0, none⟩) := by simpa using hp
  simp [results, h, hp', asAddr, run_loadVar_mid w b 0 ty cs d hc hu hd hi]
/-- The notes of the example. -/
def exN : List Nt := [⟨1, 0, 0, 0, 900, 0, ⟨#[]⟩⟩, ⟨2, 1, 1, 0, 300, 0, ⟨#[98, 97]⟩⟩, ⟨3, 1, 1, 400, 900, 0, ⟨#[109, 105]⟩⟩]
set_option maxHeartbeats 4000000 in
set_option maxRecDepth 100000 in
theorem example39_any (w : World) : Calls Tryz.prog 14 #[] w fun e w' => ∃ ta tc na nc, e = .returned (docV ⟨1, ⟨#[]⟩, 1000, 0, none, 0, 0, ta, 2, tc, na, 3, nc⟩) ∧ NotesR w' w'.heap.size na 3 exN ∧ Below w.heap.size w w' := by
  go_enter Tryz.func14, Tryz.ntmps14
  go_wp2
  obtain ⟨W, hW⟩ : ∃ W, ((w.alloc (.cells #[.int .i64 1, .string ⟨#[]⟩, .int .i64 1000, .int .i64 0, .slice none 0 0, .slice (some ⟨w.heap.size + 1, 0, none⟩) 2 2, .slice (some ⟨w.heap.size + 1 + 1, 0, none⟩) 3 3] 28)).alloc (.cells #[.string ⟨#[116, 101, 120, 116]⟩, .int .i64 0, .int .i64 1, .int .i64 (-1), .string ⟨#[119, 111, 114, 100]⟩, .int .i64 2, .int .i64 2, .int .i64 0] 68)).alloc (.cells #[.int .i64 1, .int .i64 0, .int .i64 0, .int .i64 0, .int .i64 900, .int .i64 0, .string ⟨#[]⟩, .int .i64 2, .int .i64 1, .int .i64 1, .int .i64 0, .int .i64 300, .int .i64 0, .string ⟨#[98, 97]⟩, .int .i64 3, .int .i64 1, .int .i64 1, .int .i64 400, .int .i64 900, .int .i64 0, .string ⟨#[109, 105]⟩] 58) = W := ⟨_, rfl⟩
  have hsz : W.heap.size = w.heap.size + 3 := by rw [← hW]; simp
  have hb : Below w.heap.size w W := by rw [← hW]; exact (((Below.refl _ w).alloc (Nat.le_refl _) _).alloc (by simp) _).alloc (by simp; omega) _
  have hr : W.rangeAt w.heap.size 0 [.int .i64 1, .string ⟨#[]⟩, .int .i64 1000, .int .i64 0, .slice none 0 0, .slice (some ⟨w.heap.size + 1, 0, none⟩) 2 2, .slice (some ⟨w.heap.size + 1 + 1, 0, none⟩) 3 3] := fun j v hv => by
    rw [← hW, World.cell?_alloc_lt _ _ _ (by simp; omega), World.cell?_alloc_lt _ _ _ (by simp), Nat.zero_add, World.cell?_alloc_new, ← hv, ← List.getElem?_toArray]
  have hN : NotesR W W.heap.size (some ⟨w.heap.size + 1 + 1, 0, none⟩) 3 exN := ⟨⟨rfl, fun _ => ⟨_, rfl, by show w.heap.size + 1 + 1 < _; omega, fun j u hu => by
    have hj : (#[.int .i64 1, .int .i64 0, .int .i64 0, .int .i64 0, .int .i64 900, .int .i64 0, .string ⟨#[]⟩, .int .i64 2, .int .i64 1, .int .i64 1, .int .i64 0, .int .i64 300, .int .i64 0, .string ⟨#[98, 97]⟩, .int .i64 3, .int .i64 1, .int .i64 1, .int .i64 400, .int .i64 900, .int .i64 0, .string ⟨#[109, 105]⟩] : Array Value)[j]? = some u := by rw [← List.getElem?_toArray] at hu; exact hu
    rw [Addr.add_mid, Nat.zero_add, ← hW, ← hj]
    have h := World.cell?_alloc_new ((w.alloc (.cells #[.int .i64 1, .string ⟨#[]⟩, .int .i64 1000, .int .i64 0, .slice none 0 0, .slice (some ⟨w.heap.size + 1, 0, none⟩) 2 2, .slice (some ⟨w.heap.size + 1 + 1, 0, none⟩) 3 3] 28)).alloc (.cells #[.string ⟨#[116, 101, 120, 116]⟩, .int .i64 0, .int .i64 1, .int .i64 (-1), .string ⟨#[119, 111, 114, 100]⟩, .int .i64 2, .int .i64 2, .int .i64 0] 68)) #[.int .i64 1, .int .i64 0, .int .i64 0, .int .i64 0, .int .i64 900, .int .i64 0, .string ⟨#[]⟩, .int .i64 2, .int .i64 1, .int .i64 1, .int .i64 0, .int .i64 300, .int .i64 0, .string ⟨#[98, 97]⟩, .int .i64 3, .int .i64 1, .int .i64 1, .int .i64 400, .int .i64 900, .int .i64 0, .string ⟨#[109, 105]⟩] 58 j
    rw [show ((w.alloc (.cells #[.int .i64 1, .string ⟨#[]⟩, .int .i64 1000, .int .i64 0, .slice none 0 0, .slice (some ⟨w.heap.size + 1, 0, none⟩) 2 2, .slice (some ⟨w.heap.size + 1 + 1, 0, none⟩) 3 3] 28)).alloc (.cells #[.string ⟨#[116, 101, 120, 116]⟩, .int .i64 0, .int .i64 1, .int .i64 (-1), .string ⟨#[119, 111, 114, 100]⟩, .int .i64 2, .int .i64 2, .int .i64 0] 68)).heap.size = w.heap.size + 1 + 1 by simp] at h
    exact h⟩⟩, rfl⟩
  rw [hW]
  refine bodyPost_ret (v := .agg #[.int .i64 1, .string ⟨#[]⟩, .int .i64 1000, .int .i64 0, .slice none 0 0, .slice (some ⟨w.heap.size + 1, 0, none⟩) 2 2, .slice (some ⟨w.heap.size + 1 + 1, 0, none⟩) 3 3]) ?_ rfl ⟨some ⟨w.heap.size + 1, 0, none⟩, 2, some ⟨w.heap.size + 1 + 1, 0, none⟩, 3, rfl, hN, hb⟩
  exact results_cell1_of rfl _ _ w.heap.size [.int .i64 1, .string ⟨#[]⟩, .int .i64 1000, .int .i64 0, .slice none 0 0, .slice (some ⟨w.heap.size + 1, 0, none⟩) 2 2, .slice (some ⟨w.heap.size + 1 + 1, 0, none⟩) 3 3] _ rfl hr Tryz.underlying28 rfl (by kernel_rfl)
end Go.Proofs.YtdpllfgnppeneaaGreatDoor

/-
  A REGION THAT DRAWS ITS ORDER, some of whose operations lay a row of their own: what is told of each, and that these rows lie in different blocks.
-/
namespace Go.Proofs.YtdpllfgnppeneaaGreatDoor
open Go Go.RowKit
set_option linter.unusedVariables false
variable {P : Program} {ops : Array Oper} {Q : Exit → Act → World → Prop}

structure EInvF (ops : Array Oper) (a0 : Act) (C : World → Prop) (V : Nat → Value → World → Prop) (F : Nat → Option Nat) (l : Array Bool) (a : Act) (w : World) : Prop where
  inv : EInv ops a0 C V l a w
  apart : ∀ (i j : Nat) (oi oj : Oper), ops[i]? = some oi → ops[j]? = some oj → l.getD i false = true → l.getD j false = true → ∀ x y, F i = some x → F j = some y → x ≠ y → ∀ b, (slotV oi a).ownBlock = some b → (slotV oj a).ownBlock ≠ some b
theorem slot_put_self {a0 a : Act} {o : Oper} {i : Nat} {v : Value} (hdst : dstB ops a0.tmps.size = true) (hs : a.tmps.size = a0.tmps.size) (ho : ops[i]? = some o) : slotV o (a.put o.dst v) = match o.dst with | none => undef | some _ => v := by
  unfold slotV
  cases hd : o.dst with
  | none => rfl
  | some t =>
    have ht : t < a.tmps.size := by rw [hs]; exact dst_of hdst i o t ho hd
    show (a.tmps.setIfInBounds t v).getD t undef = v
    simp [Array.getD, ht]
theorem slot_put_other {a : Act} {o oj : Oper} {i j : Nat} {v : Value} (hdist : distB ops = true) (hij : i ≠ j) (ho : ops[i]? = some o) (hj : ops[j]? = some oj) : slotV oj (a.put o.dst v) = slotV oj a := by
  unfold slotV
  cases hd : o.dst with
  | none => rfl
  | some t =>
    cases hdj : oj.dst with
    | none => rfl
    | some s =>
      have hne : t ≠ s := fun e2 => hij (dist_of hdist i j o oj t ho hj hd (by rw [hdj, e2]))
      show (a.tmps.setIfInBounds t v).getD s undef = a.tmps.getD s undef
      rw [Array.getD_eq_getD_getElem?, Array.getD_eq_getD_getElem?, Array.getElem?_setIfInBounds_ne hne]
theorem wp_region_eachF {id : Nat} {a0 : Act} {w0 : World} (hm : P.follows .mixedOrders = true) (V : Nat → Value → World → Prop) (F : Nat → Option Nat) (hb : (backB ops && (distB ops && dstB ops a0.tmps.size)) = true)
    (hV : ∀ i v w w', V i v w → Below w.heap.size w w' → V i v w') (hF : ∀ i v w x, F i = some x → V i v w → ∀ b, v.ownBlock = some b → b < w.heap.size)
    (hstep : ∀ (i : Nat) (o : Oper) (w : World) (vals : Nat → Value), ops[i]? = some o → Below w0.heap.size w0 w → (∀ j, (o.after.any fun e => Region.binds .any e && e.on == j) = true → V j (vals j) w) →
      wpOp P ops Q i (fun a' w' => ∃ v, a' = (putAll ops.toList 0 vals a0).put o.dst v ∧ V i (match o.dst with | none => undef | some _ => v) w' ∧ Below w.heap.size w w' ∧ (∀ x, F i = some x → (∀ b, (match o.dst with | none => undef | some _ => v : Value).ownBlock = some b → w.heap.size ≤ b) ∨ ∃ k, (o.after.any fun e => Region.binds .any e && e.on == k) = true ∧ F k = some x ∧ (match o.dst with | none => undef | some _ => v : Value) = vals k)) (putAll ops.toList 0 vals a0) w)
    (hQ : ∀ (w : World) (vals : Nat → Value), Below w0.heap.size w0 w → (∀ j, j < ops.size → V j (vals j) w) → (∀ i j, i < ops.size → j < ops.size → ∀ x y, F i = some x → F j = some y → x ≠ y → ∀ b, (vals i).ownBlock = some b → (vals j).ownBlock ≠ some b) → Q .normal (putAll ops.toList 0 vals a0) w) :
    (Code.region id ops true).wp P Q a0 w0 := by
  rw [Bool.and_eq_true, Bool.and_eq_true] at hb
  obtain ⟨hb1, hb2, hb3⟩ := hb
  have hrep : ∀ i, (Array.replicate ops.size false).getD i false = false := fun i => by
    simp only [Array.getD]
    split <;> simp
  have hval : ∀ (l : Array Bool) (a : Act) (w : World), EInv ops a0 (fun w => Below w0.heap.size w0 w) V l a w → ∀ j, j < ops.size → l.getD j false = true → V j (valsOf ops a j) w := by
    intro l a w h j hj hl
    have := h.new j ops[j] (Array.getElem?_eq_getElem hj) hl
    unfold valsOf
    rw [Array.getElem?_eq_getElem hj]
    exact this
  refine wp_region_inv hm (EInvF ops a0 (fun w => Below w0.heap.size w0 w) V F) ⟨⟨by simp, (Below.refl _ _).drew, rfl, rfl, fun _ _ => rfl, fun i o _ hl => by rw [hrep] at hl; cases hl⟩, fun i j oi oj _ _ hl => by rw [hrep] at hl; cases hl⟩ (fun l a w h hr => ?_) ?_
  · have hall := all_listed hb1 h.inv.len hr
    have := hQ w (valsOf ops a) h.inv.cls (fun j hj => hval l a w h.inv j hj (hall j hj)) (fun i j hi hj x y fi fj hxy b hbk => by
      have := h.apart i j ops[i] ops[j] (Array.getElem?_eq_getElem hi) (Array.getElem?_eq_getElem hj) (hall i hi) (hall j hj) x y fi fj hxy b
      unfold valsOf at hbk ⊢
      rw [Array.getElem?_eq_getElem hi] at hbk
      rw [Array.getElem?_eq_getElem hj]
      exact this hbk)
    rw [putAll_of h.inv.size h.inv.defers h.inv.old] at this
    exact this
  · intro l a w i h hi
    obtain ⟨hun, o, ho, hr⟩ := mem_ready.1 hi
    have hdep : ∀ j, (o.after.any fun e => Region.binds .any e && e.on == j) = true → j < ops.size ∧ l.getD j false = true := fun j hj => by
      obtain ⟨e, he, h2⟩ := Array.any_eq_true'.1 hj
      rw [Bool.and_eq_true, beq_iff_eq] at h2
      have h3 := hr e he h2.1
      have hj2 : e.on < ops.size := by
        have h4 := List.all_eq_true.1 hb1 i (List.mem_range.2 (Array.getElem?_eq_some_iff.1 ho).1)
        rw [ho] at h4
        have h5 := of_decide_eq_true (Array.all_eq_true'.1 h4 e he)
        have := (Array.getElem?_eq_some_iff.1 ho).1
        omega
      rw [← h2.2]
      exact ⟨hj2, h3⟩
    have hs := hstep i o w (valsOf ops a) ho h.inv.cls (fun j hj => hval l a w h.inv j (hdep j hj).1 (hdep j hj).2)
    rw [putAll_of h.inv.size h.inv.defers h.inv.old] at hs
    refine wpOp_mono ?_ hs
    rintro a' w' ⟨v, rfl, h1, h2, h3⟩
    have hil : i < l.size := by rw [h.inv.len]; exact (Array.getElem?_eq_some_iff.1 ho).1
    refine ⟨einv_step hb2 hb3 h.inv ho (h.inv.cls.trans (h2.mono h.inv.cls.size)) h1 (fun j u _ hu => hV j u w w' hu h2), ?_⟩
    have key : ∀ (y : Nat) (oy : Oper), i ≠ y → ops[y]? = some oy → l.getD y false = true → ∀ gx gy, F i = some gx → F y = some gy → gx ≠ gy → ∀ b, (slotV o (a.put o.dst v)).ownBlock = some b → (slotV oy (a.put o.dst v)).ownBlock ≠ some b := by
      intro y oy hiy hoy hly gx gy fx fy hg b hbx hby
      rw [slot_put_self hb3 h.inv.size ho] at hbx
      rw [slot_put_other hb2 hiy ho hoy] at hby
      rcases h3 gx fx with g1 | ⟨k, hk, fk, hvk⟩
      · have g2 := hF y _ w gy fy (h.inv.new y oy hoy hly) b hby
        have := g1 b hbx
        omega
      · obtain ⟨hk1, hk2⟩ := hdep k hk
        have hok : ops[k]? = some ops[k] := Array.getElem?_eq_getElem hk1
        rw [hvk] at hbx
        unfold valsOf at hbx
        rw [hok] at hbx
        exact h.apart k y ops[k] oy hok hoy hk2 hly gx gy fk fy hg b hbx hby
    intro x y ox oy hox hoy hlx hly gx gy fx fy hg b hbx hby
    by_cases ex : i = x
    · subst ex
      rw [ho] at hox
      cases hox
      by_cases ey : i = y
      · subst ey
        rw [fx] at fy
        exact hg (Option.some.inj fy)
      · rw [getD_set_ne ey] at hly
        exact key y oy ey hoy hly gx gy fx fy hg b hbx hby
    · by_cases ey : i = y
      · subst ey
        rw [ho] at hoy
        cases hoy
        rw [getD_set_ne ex] at hlx
        exact key x ox ex hox hlx gy gx fy fx (Ne.symm hg) b hby hbx
      · rw [getD_set_ne ex] at hlx
        rw [getD_set_ne ey] at hly
        rw [slot_put_other hb2 ex ho hox] at hbx
        rw [slot_put_other hb2 ey ho hoy] at hby
        exact h.apart x y ox oy hox hoy hlx hly gx gy fx fy hg b hbx hby
/-- What is told of a result: its value; something that stays true while new blocks are laid; a row of its own. -/
inductive ToldF where
  | is (v : Value)
  | such (p : Value → World → Prop) (h : ∀ v w w', p v w → Below w.heap.size w w' → p v w')
  | own (g : Nat) (p : Value → World → Prop) (h : ∀ v w w', p v w → Below w.heap.size w w' → p v w') (hl : ∀ v w, p v w → ∀ b, v.ownBlock = some b → b < w.heap.size)
def ToldF.holds : ToldF → Value → World → Prop
  | .is v, u, _ => u = v
  | .such p _, u, w => p u w
  | .own _ p _ _, u, w => p u w
def ToldF.isOwn : ToldF → Option Nat
  | .own g _ _ _ => some g
  | _ => none
def toldAtF (Vs : List ToldF) (i : Nat) : Value → World → Prop := match Vs[i]? with
  | none => fun _ _ => True
  | some t => t.holds
def ownAtF (Vs : List ToldF) (i : Nat) : Option Nat := match Vs[i]? with
  | none => none
  | some t => t.isOwn
theorem toldAtF_kept (Vs : List ToldF) (i : Nat) (v : Value) (w w' : World) (h : toldAtF Vs i v w) (hb : Below w.heap.size w w') : toldAtF Vs i v w' := by
  unfold toldAtF at *
  cases hi : Vs[i]? with
  | none => trivial
  | some t =>
    rw [hi] at h
    cases t with
    | is x => exact h
    | such p hp => exact hp _ _ _ h hb
    | own g p hp _ => exact hp _ _ _ h hb
theorem toldAtF_own (Vs : List ToldF) (i : Nat) (v : Value) (w : World) (x : Nat) (ho : ownAtF Vs i = some x) (h : toldAtF Vs i v w) : ∀ b, v.ownBlock = some b → b < w.heap.size := by
  unfold toldAtF at h
  unfold ownAtF at ho
  cases hi : Vs[i]? with
  | none => rw [hi] at ho; cases ho
  | some t =>
    rw [hi] at h ho
    cases t with
    | is x => cases ho
    | such p hp => cases ho
    | own g p _ hl => exact hl _ _ h
def StepsF (P : Program) (Q : Exit → Act → World → Prop) (all : List Oper) (a0 : Act) (w0 : World) (Vs : List ToldF) : Nat → List Oper → Prop
  | _, [] => True
  | i, o :: r => (∀ (w : World) (vals : Nat → Value), Below w0.heap.size w0 w → (∀ j, (o.after.toList.any fun e => Region.binds .any e && e.on == j) = true → toldAtF Vs j (vals j) w) →
      ∀ K : Act → World → Prop, (∀ v w', toldAtF Vs i (match o.dst with | none => undef | some _ => v) w' → (Below w.heap.size w w' ∧ (∀ x, ownAtF Vs i = some x → (∀ b, (match o.dst with | none => undef | some _ => v : Value).ownBlock = some b → w.heap.size ≤ b) ∨ ∃ k, (o.after.toList.any fun e => Region.binds .any e && e.on == k) = true ∧ ownAtF Vs k = some x ∧ (match o.dst with | none => undef | some _ => v : Value) = vals k)) → K ((putAll all 0 vals a0).put o.dst v) w') → gwp P Q o vals (putAll all 0 vals a0) w K) ∧ StepsF P Q all a0 w0 Vs (i + 1) r
theorem stepsF_get {all : List Oper} {a0 : Act} {w0 : World} {Vs : List ToldF} : ∀ {l : List Oper} {k i : Nat} {o : Oper}, StepsF P Q all a0 w0 Vs k l → l[i]? = some o →
    ∀ (w : World) (vals : Nat → Value), Below w0.heap.size w0 w → (∀ j, (o.after.toList.any fun e => Region.binds .any e && e.on == j) = true → toldAtF Vs j (vals j) w) →
      ∀ K : Act → World → Prop, (∀ v w', toldAtF Vs (k + i) (match o.dst with | none => undef | some _ => v) w' → (Below w.heap.size w w' ∧ (∀ x, ownAtF Vs (k + i) = some x → (∀ b, (match o.dst with | none => undef | some _ => v : Value).ownBlock = some b → w.heap.size ≤ b) ∨ ∃ k', (o.after.toList.any fun e => Region.binds .any e && e.on == k') = true ∧ ownAtF Vs k' = some x ∧ (match o.dst with | none => undef | some _ => v : Value) = vals k')) → K ((putAll all 0 vals a0).put o.dst v) w') → gwp P Q o vals (putAll all 0 vals a0) w K
  | [], _, _, _, _, h => by simp at h
  | x :: r, k, 0, o, hs, h => by
    simp at h
    subst h
    exact hs.1
  | x :: r, k, i + 1, o, hs, h => by
    rw [List.getElem?_cons_succ] at h
    have := stepsF_get hs.2 h
    rw [show k + (i + 1) = k + 1 + i by omega]
    exact this
theorem wp_region_toldF {id : Nat} {a0 : Act} {w0 : World} {l : List Oper} (Vs : List ToldF) (hm : P.follows .mixedOrders = true) (hb : ((backB l.toArray && (distB l.toArray && dstB l.toArray a0.tmps.size)) && guardB l) = true)
    (hstep : StepsF P Q l a0 w0 Vs 0 l)
    (hQ : ∀ (w : World) (vals : Nat → Value), Below w0.heap.size w0 w → (∀ j, j < l.length → toldAtF Vs j (vals j) w) → (∀ i j, i < l.length → j < l.length → ∀ x y, ownAtF Vs i = some x → ownAtF Vs j = some y → x ≠ y → ∀ b, (vals i).ownBlock = some b → (vals j).ownBlock ≠ some b) → Q .normal (putAll l 0 vals a0) w) : (Code.region id l.toArray true).wp P Q a0 w0 := by
  rw [Bool.and_eq_true] at hb
  have hb' := hb.1
  rw [Bool.and_eq_true, Bool.and_eq_true] at hb'
  refine wp_region_eachF (ops := l.toArray) hm (toldAtF Vs) (ownAtF Vs) hb.1 (toldAtF_kept Vs) (fun i v w x ho h => toldAtF_own Vs i v w x ho h) (fun i o w vals ho hC hd => ?_) (fun w vals hC h hap => hQ w vals hC (fun j hj => h j (by simpa using hj)) fun i j hi hj => hap i j (by simpa using hi) (by simpa using hj))
  have hol : l[i]? = some o := by simpa using ho
  refine wpOp_of_gwp hb'.2.1 hb'.2.2 hol hb.2 ?_
  refine stepsF_get hstep hol w vals hC (fun j hj => hd j (by rw [← Array.any_toList]; exact hj)) _ fun v w' h1 h2 => ⟨v, rfl, by rw [Nat.zero_add] at h1; exact h1, h2.1, fun x hf => by
    rcases h2.2 x (by rw [Nat.zero_add]; exact hf) with g | ⟨k, g1, g2, g3⟩
    · exact .inl g
    · exact .inr ⟨k, by rw [← Array.any_toList]; exact g1, g2, g3⟩⟩
theorem toldF_at {Vs : List ToldF} {i : Nat} {v : Value} {w : World} {t : ToldF} (h : toldAtF Vs i v w) (ht : Vs[i]? = some t) : t.holds v w := by
  unfold toldAtF at h
  rw [ht] at h
  exact h
end Go.Proofs.YtdpllfgnppeneaaGreatDoor

/-
  A list turned round, by the reference.
-/
namespace Go.Proofs.YtdpllfgnppeneaaGreatDoor
open Go.RowKit Ru Lay
attribute [local go_sem ↓] Go.wp_at_zero Go.wp_at_succ
set_option linter.unusedVariables false
set_option linter.unusedSimpArgs false

theorem rev_next {l : List ByteArray} {k : Nat} {s : ByteArray} (h : l[k]? = some s) : l.reverse.take (l.length - k) = l.reverse.take (l.length - (k + 1)) ++ [s] := by
  obtain ⟨hk, hs⟩ := List.getElem?_eq_some_iff.1 h
  have e : l.length - k = l.length - (k + 1) + 1 := by omega
  rw [e]
  exact take_at2 (by rw [List.getElem?_reverse (by omega), show l.length - 1 - (l.length - (k + 1)) = k by omega]; exact h)
end Go.Proofs.YtdpllfgnppeneaaGreatDoor
