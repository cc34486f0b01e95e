/-
  The reference's lines of notes.
-/
import Derived.Test.YtdpllfgnppeneaaGreatDoorRefHit
import Derived.Test.YtdpllfgnppeneaaGreatDoorRegionG
import Derived.Test.YtdpllfgnppeneaaGreatDoorG13
namespace Go.Proofs.YtdpllfgnppeneaaGreatDoor
open Go.RowKit Ru Lay Srt Col
attribute [local go_sem ↓] Go.wp_at_zero Go.wp_at_succ
set_option linter.unusedVariables false
set_option linter.unusedSimpArgs false

/-- The blocks of the slices that stand in a struct. -/
def feetA (v : Value) (b : Nat) : Prop := ∃ (a : Array Value) (i : Nat) (ad : Addr) (n c : Nat), v = .agg a ∧ a[i]? = some (.slice (some ad) n c) ∧ ad.block = b
def feetT (v : Value) (b : Nat) : Prop := ∃ (a : Array Value) (u : Value), v = .tuple a ∧ a[0]? = some u ∧ feetA u b
/-- A line whose lists lie in blocks from B on. -/
structure NewH (H : Ht) (B : Nat) (hv : Hv) (W : World) : Prop where
  ht : hv.toHt = H
  hr : HvR W W.heap.size hv
  la : ∀ ad, hv.la = some ad → B ≤ ad.block ∧ ad.block < W.heap.size
  ra : ∀ ad, hv.ra = some ad → B ≤ ad.block ∧ ad.block < W.heap.size
theorem NewH.on {H : Ht} {B : Nat} {hv : Hv} {W W' : World} (h : NewH H B hv W) (hb : Below W.heap.size W W') : NewH H B hv W' :=
  ⟨h.ht, h.hr.on hb, fun ad e => ⟨(h.la ad e).1, Nat.lt_of_lt_of_le (h.la ad e).2 hb.size⟩, fun ad e => ⟨(h.ra ad e).1, Nat.lt_of_lt_of_le (h.ra ad e).2 hb.size⟩⟩
theorem SR.onX {q : Nat} {W W' : World} {A : Option Addr} {n : Nat} {l : List ByteArray} (h : SR W W.heap.size A n l) (hq : ∀ ad, A = some ad → ad.block ≠ q) (hb : BelowX q W W') : SR W' W'.heap.size A n l :=
  ⟨h.1, fun h0 => by
    obtain ⟨ad, e, hlt, hc⟩ := h.2 h0
    refine ⟨ad, e, Nat.lt_of_lt_of_le hlt hb.size, fun j u hu => ?_⟩
    rw [hb.cell (by rw [block_of_add]; exact hlt) (by rw [block_of_add]; exact hq ad e)]
    exact hc j u hu⟩
theorem NewH.onX {H : Ht} {B q : Nat} {hv : Hv} {W W' : World} (h : NewH H B hv W) (hf : ¬ feetA (.agg #[.int .i64 hv.rid, .int .i64 hv.nid, .slice hv.la hv.ln hv.lc, .string hv.key, .slice hv.ra hv.rn hv.rc]) q) (hb : BelowX q W W') : NewH H B hv W' :=
  ⟨h.ht, ⟨h.hr.left.onX (fun ad e e2 => hf ⟨_, 2, ad, _, _, rfl, by rw [e]; rfl, e2⟩) hb, h.hr.right.onX (fun ad e e2 => hf ⟨_, 4, ad, _, _, rfl, by rw [e]; rfl, e2⟩) hb, h.hr.lc, h.hr.rc⟩,
    fun ad e => ⟨(h.la ad e).1, Nat.lt_of_lt_of_le (h.la ad e).2 hb.size⟩, fun ad e => ⟨(h.ra ad e).1, Nat.lt_of_lt_of_le (h.ra ad e).2 hb.size⟩⟩
theorem feetA_in {hv : Hv} {b : Nat} (h : feetA (.agg #[.int .i64 hv.rid, .int .i64 hv.nid, .slice hv.la hv.ln hv.lc, .string hv.key, .slice hv.ra hv.rn hv.rc]) b) : (∃ ad, hv.la = some ad ∧ ad.block = b) ∨ ∃ ad, hv.ra = some ad ∧ ad.block = b := by
  obtain ⟨a, i, ad, n, c, e, hi, hb⟩ := h
  cases e
  match i, hi with
  | 0, hi => cases hi
  | 1, hi => cases hi
  | 2, hi => simp at hi; exact .inl ⟨ad, hi.1, hb⟩
  | 3, hi => cases hi
  | 4, hi => simp at hi; exact .inr ⟨ad, hi.1, hb⟩
  | i + 5, hi => simp at hi
theorem NewH.lt {H : Ht} {B b : Nat} {hv : Hv} {W : World} (h : NewH H B hv W) (hf : feetA (.agg #[.int .i64 hv.rid, .int .i64 hv.nid, .slice hv.la hv.ln hv.lc, .string hv.key, .slice hv.ra hv.rn hv.rc]) b) : b < W.heap.size := by
  rcases feetA_in hf with ⟨ad, e, rfl⟩ | ⟨ad, e, rfl⟩
  · exact (h.la ad e).2
  · exact (h.ra ad e).2
theorem NewH.from {H : Ht} {B b : Nat} {hv : Hv} {W : World} (h : NewH H B hv W) (hf : feetA (.agg #[.int .i64 hv.rid, .int .i64 hv.nid, .slice hv.la hv.ln hv.lc, .string hv.key, .slice hv.ra hv.rn hv.rc]) b) : B ≤ b := by
  rcases feetA_in hf with ⟨ad, e, rfl⟩ | ⟨ad, e, rfl⟩
  · exact (h.la ad e).1
  · exact (h.ra ad e).1
theorem feetT_in {hv : Hv} {ok : Value} {b : Nat} (h : feetT (.tuple #[.agg #[.int .i64 hv.rid, .int .i64 hv.nid, .slice hv.la hv.ln hv.lc, .string hv.key, .slice hv.ra hv.rn hv.rc], ok]) b) : feetA (.agg #[.int .i64 hv.rid, .int .i64 hv.nid, .slice hv.la hv.ln hv.lc, .string hv.key, .slice hv.ra hv.rn hv.rc]) b := by
  obtain ⟨a, u, e, h0, hf⟩ := h
  cases e
  cases h0
  exact hf
theorem feetT_of {hv : Hv} {ok : Value} {b : Nat} (h : feetA (.agg #[.int .i64 hv.rid, .int .i64 hv.nid, .slice hv.la hv.ln hv.lc, .string hv.key, .slice hv.ra hv.rn hv.rc]) b) : feetT (.tuple #[.agg #[.int .i64 hv.rid, .int .i64 hv.nid, .slice hv.la hv.ln hv.lc, .string hv.key, .slice hv.ra hv.rn hv.rc], ok]) b := ⟨_, _, rfl, rfl, h⟩
set_option maxHeartbeats 2000000 in
set_option maxRecDepth 100000 in
theorem refAll_any (d : Dv) (T : List Ti) (l : List Nt) (A : Option Addr) (m c : Nat) (ids : List Int) (n : Int) (w : World) (hL : LightN T l) (hT : TiersR w w.heap.size d.ta d.tn T) (hl : NotesR w w.heap.size d.na d.nn l) (h14 : d.nn ≤ 14) (hn : n ≤ 9223372036854775807) (hn0 : -9223372036854775808 ≤ n) (hi : IR w w.heap.size A m ids) (hm : m ≤ 1000) :
    Calls Tryz.prog 12 #[docV d, .slice A m c, .int .i64 n] w fun e w' => ∃ v hs, e = .returned v ∧ OwnH w' w.heap.size v hs ∧ hs.map Hv.toHt = hitsL d.rid d.tn l ids n ∧ Below w.heap.size w w' := by
  have HI := Lib.hid hi
  have HH := Lib.hid fun (W : World) (hW : Below w.heap.size w W) (id : Int) => refHit_any d T l id n W hL (hT.on hW) (hl.on hW) h14 hn hn0
  clear hL hT hl hi
  unfold docV at HH
  unfold docV
  obtain ⟨rid, name, len, day, sa, sn, sc, ta, tn, tc, na, nn, nc⟩ := d
  simp only at HH h14 ⊢
  go_enter Tryz.func12, Tryz.ntmps12
  go_upto_region 1 with fail
  obtain ⟨W0, hW0⟩ : ∃ W0, (w.alloc (.cells #[.int .i64 rid, .string name, .int .i64 len, .int .i64 day, .slice sa sn sc, .slice ta tn tc, .slice na nn nc] 28)) = W0 := ⟨_, rfl⟩
  have HB0 : Hid (Below w.heap.size w W0) := by rw [← hW0]; exact ((Below.refl _ _).alloc (by simp <;> omega) _)
  have hz0 : W0.heap.size = w.heap.size + 1 := by rw [← hW0]; simp
  have HC0 : Hid (∀ X, Below W0.heap.size W0 X → X.rangeAt (w.heap.size) 0 [.int .i64 rid, .string name, .int .i64 len, .int .i64 day, .slice sa sn sc, .slice ta tn tc, .slice na nn nc]) := fun X hX => by
    refine range_below hX (by omega) fun j v hv => ?_
    rw [← hW0, Nat.zero_add]; rw [World.cell?_alloc_at _ _ _ _ (by simp), ← hv, ← List.getElem?_toArray]; try rfl
  (try rw [hW0])
  clear hW0
  go_wp2_with fail
  go_loopw [7, 8, 9, 10] (fun v7 v8 _ _ wr => ∃ (i : Nat) (hs : List Hv), i ≤ m ∧ v8 = .int .i64 i ∧ Hid (OwnH wr W0.heap.size v7 hs) ∧ Hid (hs.map Hv.toHt = hitsL rid tn l (ids.take i) n) ∧ Hid (Below W0.heap.size W0 wr)) (fun _ v8 _ _ _ => m - (intOf v8).toNat)
  case atStart => exact ⟨0, [], Nat.zero_le _, rfl, OwnH.nil _ _, (by rw [List.take_zero]; rfl), Below.refl _ _⟩
  case round =>
    obtain ⟨i, hs, hi, rfl, HO, HE, HB5⟩ := hrel
    obtain ⟨w5, hw5⟩ : ∃ w5, wr = w5 := ⟨_, rfl⟩
    rw [hw5] at HO HB5 ⊢
    clear hw5
    have HBW5 : Hid (Below w.heap.size w w5) := HB0.out.trans (HB5.out.mono HB0.out.size)
    by_cases hlt : i < m
    · have hiz : (i : Int) < (m : Int) := by omega
      have hiA : (0 : Int) ≤ (i : Int) := by omega
      have HLT := Lib.hid hlt
      obtain ⟨ad, z, rfl, hab, hx, hc⟩ := HI.out.at_ hlt
      have HCW : Hid (∀ W, Below w5.heap.size w5 W → W.cell? (ad.add i) = some (.int .i64 z)) := fun W hW => ((HBW5.out.trans (hW.mono HBW5.out.size)).cell (by rw [block_of_add]; exact hab)).trans hc
      have HDW : Hid (∀ W, Below w5.heap.size w5 W → W.rangeAt w.heap.size 0 [.int .i64 rid, .string name, .int .i64 len, .int .i64 day, .slice sa sn sc, .slice ta tn tc, .slice na nn nc]) := fun W hW => HC0.out W (HB5.out.trans (hW.mono HB5.out.size))
      have HNX := Lib.hid (hitsL_next (rid := rid) (tn := tn) (l := l) (n := n) hx)
      have hll : hs.length ≤ i := by
        have h1 := congrArg List.length HE.out
        rw [List.length_map] at h1
        have h2 : (hitsL rid tn l (ids.take i) n).length ≤ (ids.take i).length := List.length_filterMap_le _ _
        rw [List.length_take] at h2
        omega
      obtain ⟨oh, hoh⟩ : ∃ oh, hitL rid tn l z n = oh := ⟨_, rfl⟩
      obtain ⟨ok, hok⟩ : ∃ ok, (getN l z).isSome = ok := ⟨_, rfl⟩
      have HOK : Hid (oh.isSome = ok) := by
        show _ = _
        rw [← hoh, ← hok]
        unfold hitL
        cases getN l z <;> rfl
      have HHZ : Hid (∀ W, Below w5.heap.size w5 W → Calls Tryz.prog 8 #[.agg #[.int .i64 rid, .string name, .int .i64 len, .int .i64 day, .slice sa sn sc, .slice ta tn tc, .slice na nn nc], .int .i64 z, .int .i64 n] W fun e w' => ∃ hv : Hv, e = .returned (.tuple #[.agg #[.int .i64 hv.rid, .int .i64 hv.nid, .slice hv.la hv.ln hv.lc, .string hv.key, .slice hv.ra hv.rn hv.rc], .bool ok]) ∧ NewH (oh.getD ht0) w5.heap.size hv w' ∧ (∀ b, feetA (.agg #[.int .i64 hv.rid, .int .i64 hv.nid, .slice hv.la hv.ln hv.lc, .string hv.key, .slice hv.ra hv.rn hv.rc]) b → W.heap.size ≤ b) ∧ Below W.heap.size W w') := fun W hW => by
        have h9 := HH.out W (HBW5.out.trans (hW.mono HBW5.out.size)) z
        rw [hoh, hok] at h9
        refine h9.mono ?_
        rintro e w' ⟨hv, he, h1, h2, h3, h4⟩
        refine ⟨hv, he, ⟨h1, h2, fun a ha => ⟨Nat.le_trans hW.size (h3.1 a ha).1, (h3.1 a ha).2⟩, fun a ha => ⟨Nat.le_trans hW.size (h3.2 a ha).1, (h3.2 a ha).2⟩⟩, fun b hb => ?_, h4⟩
        rcases feetA_in hb with ⟨a, ha, rfl⟩ | ⟨a, ha, rfl⟩
        · exact (h3.1 a ha).1
        · exact (h3.2 a ha).1
      rw [hoh] at HNX
      clear hx hc hoh hok
      go_wp2_with fail
      refine wp_region_toldG 10 11 8 5 [ToldG.is (.agg #[.int .i64 rid, .string name, .int .i64 len, .int .i64 day, .slice sa sn sc, .slice ta tn tc, .slice na nn nc]), ToldG.is (.slice (some ad) m c), ToldG.is (.int .i64 (i : Int)), ToldG.is (.pointer (some (ad.add i))), ToldG.is (.int .i64 z), ToldG.is (.int .i64 n), ToldG.own (fun v W => ∃ hv : Hv, v = .tuple #[.agg #[.int .i64 hv.rid, .int .i64 hv.nid, .slice hv.la hv.ln hv.lc, .string hv.key, .slice hv.ra hv.rn hv.rc], .bool ok] ∧ NewH (oh.getD ht0) w5.heap.size hv W) (feetT) (fun v W W' ⟨hv, e, h⟩ hb => ⟨hv, e, h.on hb⟩) (fun v W W' q ⟨hv, e, h⟩ hf hb => ⟨hv, e, h.onX (fun h9 => hf (e ▸ feetT_of h9)) hb⟩) (fun v W b ⟨hv, e, h⟩ hf => h.lt (feetT_in (by rw [← e]; exact hf))), ToldG.own (fun v W => ∃ hv : Hv, v = .tuple #[.agg #[.int .i64 hv.rid, .int .i64 hv.nid, .slice hv.la hv.ln hv.lc, .string hv.key, .slice hv.ra hv.rn hv.rc], .bool ok] ∧ NewH (oh.getD ht0) w5.heap.size hv W) (feetT) (fun v W W' ⟨hv, e, h⟩ hb => ⟨hv, e, h.on hb⟩) (fun v W W' q ⟨hv, e, h⟩ hf hb => ⟨hv, e, h.onX (fun h9 => hf (e ▸ feetT_of h9)) hb⟩) (fun v W b ⟨hv, e, h⟩ hf => h.lt (feetT_in (by rw [← e]; exact hf))), ToldG.own (fun v W => ∃ hv : Hv, v = .agg #[.int .i64 hv.rid, .int .i64 hv.nid, .slice hv.la hv.ln hv.lc, .string hv.key, .slice hv.ra hv.rn hv.rc] ∧ NewH (oh.getD ht0) w5.heap.size hv W) (feetA) (fun v W W' ⟨hv, e, h⟩ hb => ⟨hv, e, h.on hb⟩) (fun v W W' q ⟨hv, e, h⟩ hf hb => ⟨hv, e, h.onX (fun h9 => hf (e ▸ h9)) hb⟩) (fun v W b ⟨hv, e, h⟩ hf => h.lt (by rw [← e]; exact hf)), ToldG.is (.bool ok), ToldG.new, ToldG.put, ToldG.is (.bool ok)] (by omega) (by kernel_rfl) (by kernel_rfl) rfl ?_ ?_
      · refine And.intro (fun wq vals hB hd a1 ha1 K hK => ?_) ?_
        · clear hd
          subst ha1
          simp only [putAll, Act.put, List.setIfInBounds_toArray, List.set_cons_zero, List.set_cons_succ] at hK ⊢
          obtain ⟨ve, hve⟩ : ∃ f : Nat → Value, f = vals := ⟨_, rfl⟩
          rw [← hve] at hK  ⊢
          clear hve
          refine gwp_none rfl ?_
          refine wp_load_mid 28 (.tmp 3) rfl w.heap.size 0 rfl [.int .i64 rid, .string name, .int .i64 len, .int .i64 day, .slice sa sn sc, .slice ta tn tc, .slice na nn nc] _ (HDW.out wq hB) Tryz.underlying28 rfl (by kernel_rfl) ?_
          simp only [Act.put, List.setIfInBounds_toArray, List.set_cons_zero, List.set_cons_succ]
          exact hK _ _ rfl (Below.refl _ _) (fun _ h => h.elim)
        refine And.intro (fun wq vals hB hd a1 ha1 K hK => ?_) ?_
        · clear hd
          subst ha1
          simp only [putAll, Act.put, List.setIfInBounds_toArray, List.set_cons_zero, List.set_cons_succ] at hK ⊢
          obtain ⟨ve, hve⟩ : ∃ f : Nat → Value, f = vals := ⟨_, rfl⟩
          rw [← hve] at hK  ⊢
          clear hve
          refine gwp_none rfl ?_
          go_simp
          exact hK _ _ rfl (Below.refl _ _) (fun _ h => h.elim)
        refine And.intro (fun wq vals hB hd a1 ha1 K hK => ?_) ?_
        · clear hd
          subst ha1
          simp only [putAll, Act.put, List.setIfInBounds_toArray, List.set_cons_zero, List.set_cons_succ] at hK ⊢
          obtain ⟨ve, hve⟩ : ∃ f : Nat → Value, f = vals := ⟨_, rfl⟩
          rw [← hve] at hK  ⊢
          clear hve
          refine gwp_none rfl ?_
          go_simp
          exact hK _ _ rfl (Below.refl _ _) (fun _ h => h.elim)
        refine And.intro (fun wq vals hB hd a1 ha1 K hK => ?_) ?_
        · have e1 : vals 1 = .slice (some ad) m c := toldG_at (hd 1 rfl) rfl
          have e2 : vals 2 = .int .i64 (i : Int) := toldG_at (hd 2 rfl) rfl
          clear hd
          subst ha1
          simp only [putAll, Act.put, List.setIfInBounds_toArray, List.set_cons_zero, List.set_cons_succ] at hK ⊢
          simp only [e1, e2] at hK ⊢
          obtain ⟨ve, hve⟩ : ∃ f : Nat → Value, f = vals := ⟨_, rfl⟩
          rw [← hve] at hK  ⊢
          clear e1 e2 hve
          refine gwp_none rfl ?_
          go_simp
          exact hK _ _ rfl (Below.refl _ _) (fun _ h => h.elim)
        refine And.intro (fun wq vals hB hd a1 ha1 K hK => ?_) ?_
        · have e3 : vals 3 = .pointer (some (ad.add i)) := toldG_at (hd 3 rfl) rfl
          clear hd
          subst ha1
          simp only [putAll, Act.put, List.setIfInBounds_toArray, List.set_cons_zero, List.set_cons_succ] at hK ⊢
          simp only [e3] at hK ⊢
          obtain ⟨ve, hve⟩ : ∃ f : Nat → Value, f = vals := ⟨_, rfl⟩
          rw [← hve] at hK  ⊢
          clear e3 hve
          refine gwp_none rfl ?_
          have hc := HCW.out wq hB
          go_simp
          exact hK _ _ rfl (Below.refl _ _) (fun _ h => h.elim)
        refine And.intro (fun wq vals hB hd a1 ha1 K hK => ?_) ?_
        · clear hd
          subst ha1
          simp only [putAll, Act.put, List.setIfInBounds_toArray, List.set_cons_zero, List.set_cons_succ] at hK ⊢
          obtain ⟨ve, hve⟩ : ∃ f : Nat → Value, f = vals := ⟨_, rfl⟩
          rw [← hve] at hK  ⊢
          clear hve
          refine gwp_none rfl ?_
          go_simp
          exact hK _ _ rfl (Below.refl _ _) (fun _ h => h.elim)
        refine And.intro (fun wq vals hB hd a1 ha1 K hK => ?_) ?_
        · have e0 : vals 0 = .agg #[.int .i64 rid, .string name, .int .i64 len, .int .i64 day, .slice sa sn sc, .slice ta tn tc, .slice na nn nc] := toldG_at (hd 0 rfl) rfl
          have e4 : vals 4 = .int .i64 z := toldG_at (hd 4 rfl) rfl
          have e5 : vals 5 = .int .i64 n := toldG_at (hd 5 rfl) rfl
          clear hd
          subst ha1
          simp only [putAll, Act.put, List.setIfInBounds_toArray, List.set_cons_zero, List.set_cons_succ] at hK ⊢
          simp only [e0, e4, e5] at hK ⊢
          obtain ⟨ve, hve⟩ : ∃ f : Nat → Value, f = vals := ⟨_, rfl⟩
          rw [← hve] at hK  ⊢
          clear e0 e4 e5 hve
          refine gwp_none rfl ?_
          go_simp
          refine (HHZ.out wq hB).mono ?_
          rintro e w7 ⟨hv, rfl, h1, h2, hb7⟩
          exact hK _ _ ⟨hv, rfl, h1⟩ ⟨hb7, trivial⟩ (fun b hf => .inl (h2 b (feetT_in hf)))
        refine And.intro (fun wq vals hB hd a1 ha1 K hK => ?_) ?_
        · have p6 := toldG_at (t := ToldG.own (fun v W => ∃ hv : Hv, v = .tuple #[.agg #[.int .i64 hv.rid, .int .i64 hv.nid, .slice hv.la hv.ln hv.lc, .string hv.key, .slice hv.ra hv.rn hv.rc], .bool ok] ∧ NewH (oh.getD ht0) w5.heap.size hv W) (feetT) (fun v W W' ⟨hv, e, h⟩ hb => ⟨hv, e, h.on hb⟩) (fun v W W' q ⟨hv, e, h⟩ hf hb => ⟨hv, e, h.onX (fun h9 => hf (e ▸ feetT_of h9)) hb⟩) (fun v W b ⟨hv, e, h⟩ hf => h.lt (feetT_in (by rw [← e]; exact hf)))) (hd 6 rfl) rfl
          simp only [ToldG.holds] at p6
          clear hd
          obtain ⟨x6, hx6⟩ : ∃ x, vals 6 = x := ⟨_, rfl⟩
          rw [hx6] at p6
          subst ha1
          simp only [putAll, Act.put, List.setIfInBounds_toArray, List.set_cons_zero, List.set_cons_succ] at hK ⊢
          simp only [hx6] at hK ⊢
          refine gwp_none rfl ?_
          obtain ⟨hv, e7, h7⟩ := p6
          subst e7
          go_simp
          exact hK _ _ ⟨hv, rfl, h7⟩ ⟨Below.refl _ _, trivial⟩ (fun b hf => .inr ⟨6, by kernel_rfl, by rw [hx6]; exact hf⟩)
        refine And.intro (fun wq vals hB hd a1 ha1 K hK => ?_) ?_
        · have p7 := toldG_at (t := ToldG.own (fun v W => ∃ hv : Hv, v = .tuple #[.agg #[.int .i64 hv.rid, .int .i64 hv.nid, .slice hv.la hv.ln hv.lc, .string hv.key, .slice hv.ra hv.rn hv.rc], .bool ok] ∧ NewH (oh.getD ht0) w5.heap.size hv W) (feetT) (fun v W W' ⟨hv, e, h⟩ hb => ⟨hv, e, h.on hb⟩) (fun v W W' q ⟨hv, e, h⟩ hf hb => ⟨hv, e, h.onX (fun h9 => hf (e ▸ feetT_of h9)) hb⟩) (fun v W b ⟨hv, e, h⟩ hf => h.lt (feetT_in (by rw [← e]; exact hf)))) (hd 7 rfl) rfl
          simp only [ToldG.holds] at p7
          clear hd
          obtain ⟨x7, hx7⟩ : ∃ x, vals 7 = x := ⟨_, rfl⟩
          rw [hx7] at p7
          subst ha1
          simp only [putAll, Act.put, List.setIfInBounds_toArray, List.set_cons_zero, List.set_cons_succ] at hK ⊢
          simp only [hx7] at hK ⊢
          refine gwp_none rfl ?_
          obtain ⟨hv, e7, h7⟩ := p7
          subst e7
          go_simp
          exact hK _ _ ⟨hv, rfl, h7⟩ ⟨Below.refl _ _, trivial⟩ (fun b hf => .inr ⟨7, by kernel_rfl, by rw [hx7]; exact feetT_of hf⟩)
        refine And.intro (fun wq vals hB hd a1 ha1 K hK => ?_) ?_
        · have p7 := toldG_at (t := ToldG.own (fun v W => ∃ hv : Hv, v = .tuple #[.agg #[.int .i64 hv.rid, .int .i64 hv.nid, .slice hv.la hv.ln hv.lc, .string hv.key, .slice hv.ra hv.rn hv.rc], .bool ok] ∧ NewH (oh.getD ht0) w5.heap.size hv W) (feetT) (fun v W W' ⟨hv, e, h⟩ hb => ⟨hv, e, h.on hb⟩) (fun v W W' q ⟨hv, e, h⟩ hf hb => ⟨hv, e, h.onX (fun h9 => hf (e ▸ feetT_of h9)) hb⟩) (fun v W b ⟨hv, e, h⟩ hf => h.lt (feetT_in (by rw [← e]; exact hf)))) (hd 7 rfl) rfl
          simp only [ToldG.holds] at p7
          clear hd
          obtain ⟨x7, hx7⟩ : ∃ x, vals 7 = x := ⟨_, rfl⟩
          rw [hx7] at p7
          subst ha1
          simp only [putAll, Act.put, List.setIfInBounds_toArray, List.set_cons_zero, List.set_cons_succ] at hK ⊢
          simp only [hx7] at hK ⊢
          refine gwp_none rfl ?_
          obtain ⟨hv, e7, h7⟩ := p7
          subst e7
          go_simp
          exact hK _ _ rfl (Below.refl _ _) (fun _ h => h.elim)
        refine And.intro (fun wq vals hB hd a1 ha1 K hK => ?_) ?_
        · clear hd
          subst ha1
          simp only [putAll, Act.put, List.setIfInBounds_toArray, List.set_cons_zero, List.set_cons_succ] at hK ⊢
          obtain ⟨ve, hve⟩ : ∃ f : Nat → Value, f = vals := ⟨_, rfl⟩
          rw [← hve] at hK ⊢
          clear hve
          refine gwp_none rfl ?_
          go_simp
          exact hK _ _ ⟨_, rfl, hB.size, by simp, there_new wq _ _⟩ ⟨(Below.refl _ _).alloc (Nat.le_refl _) _, fun b e => by cases e; exact Nat.le_refl _⟩ (fun _ h => h.elim)
        refine And.intro (fun wq vals hB hd a1 ha1 K hK => ?_) ?_
        · have p8 := toldG_at (t := ToldG.own (fun v W => ∃ hv : Hv, v = .agg #[.int .i64 hv.rid, .int .i64 hv.nid, .slice hv.la hv.ln hv.lc, .string hv.key, .slice hv.ra hv.rn hv.rc] ∧ NewH (oh.getD ht0) w5.heap.size hv W) (feetA) (fun v W W' ⟨hv, e, h⟩ hb => ⟨hv, e, h.on hb⟩) (fun v W W' q ⟨hv, e, h⟩ hf hb => ⟨hv, e, h.onX (fun h9 => hf (e ▸ h9)) hb⟩) (fun v W b ⟨hv, e, h⟩ hf => h.lt (by rw [← e]; exact hf))) (hd 8 rfl) rfl
          simp only [ToldG.holds] at p8
          have p10 : NewAt 5 _ (vals 10) _ := toldG_at (t := ToldG.new) (hd 10 rfl) rfl
          clear hd
          refine gwp_none rfl ?_
          obtain ⟨bN, hvN, h0N, h1N, hth⟩ := p10
          obtain ⟨hv, hvv, _⟩ := p8
          have hev1 : a1.eval (.tmp 9) = .pointer (some ⟨bN, 0, none⟩) := by rw [ha1]; exact (eval_slot (i := 10) (by kernel_rfl) (by kernel_rfl) rfl).trans hvN
          have hev2 : a1.eval (.tmp 25) = .agg #[.int .i64 hv.rid, .int .i64 hv.nid, .slice hv.la hv.ln hv.lc, .string hv.key, .slice hv.ra hv.rn hv.rc] := by rw [ha1]; exact (eval_slot (i := 8) (by kernel_rfl) (by kernel_rfl) rfl).trans hvv
          clear ha1
          obtain ⟨wS, hwS⟩ : ∃ wS, wq.setCells bN 0 (#[.int .i64 hv.rid, .int .i64 hv.nid, .slice hv.la hv.ln hv.lc, .string hv.key, .slice hv.ra hv.rn hv.rc] : Array Value).toList = wS := ⟨_, rfl⟩
          have hX : BelowX bN wq wS := by rw [← hwS]; exact BelowX.set _ _ _
          have hR : wS.rangeAt bN 0 [.int .i64 hv.rid, .int .i64 hv.nid, .slice hv.la hv.ln hv.lc, .string hv.key, .slice hv.ra hv.rn hv.rc] := by rw [← hwS]; exact World.rangeAt_setCells_same wq bN 0 [.int .i64 hv.rid, .int .i64 hv.nid, .slice hv.la hv.ln hv.lc, .string hv.key, .slice hv.ra hv.rn hv.rc] hth
          refine wp_store_mid 35 (.tmp 9) (.tmp 25) rfl bN 0 #[.int .i64 hv.rid, .int .i64 hv.nid, .slice hv.la hv.ln hv.lc, .string hv.key, .slice hv.ra hv.rn hv.rc] hev1 hev2 hth (by kernel_rfl) (by simp [Value.oneCell']) ?_
          rw [hwS]
          exact hK undef wS trivial ⟨by kernel_rfl, by kernel_rfl, bN, _, hvN, h0N, h1N, hX, hR, hvv⟩ (fun _ h => h.elim)
        refine And.intro (fun wq vals hB hd a1 ha1 K hK => ?_) ?_
        · have e9 : vals 9 = .bool ok := toldG_at (hd 9 rfl) rfl
          clear hd
          subst ha1
          simp only [putAll, Act.put, List.setIfInBounds_toArray, List.set_cons_zero, List.set_cons_succ] at hK ⊢
          simp only [e9] at hK ⊢
          obtain ⟨ve, hve⟩ : ∃ f : Nat → Value, f = vals := ⟨_, rfl⟩
          rw [← hve] at hK  ⊢
          clear e9 hve
          refine gwp_none rfl ?_
          go_simp
          exact hK _ _ rfl (Below.refl _ _) (fun _ h => h.elim)
        exact trivial
      · intro w1r vals hB hd hfl
        have p8 := toldG_at (t := ToldG.own (fun v W => ∃ hv : Hv, v = .agg #[.int .i64 hv.rid, .int .i64 hv.nid, .slice hv.la hv.ln hv.lc, .string hv.key, .slice hv.ra hv.rn hv.rc] ∧ NewH (oh.getD ht0) w5.heap.size hv W) (feetA) (fun v W W' ⟨hv, e, h⟩ hb => ⟨hv, e, h.on hb⟩) (fun v W W' q ⟨hv, e, h⟩ hf hb => ⟨hv, e, h.onX (fun h9 => hf (e ▸ h9)) hb⟩) (fun v W b ⟨hv, e, h⟩ hf => h.lt (by rw [← e]; exact hf))) (hd 8 (by decide)) rfl
        simp only [ToldG.holds] at p8
        have e12 : vals 12 = .bool ok := toldG_at (hd 12 (by decide)) rfl
        obtain ⟨x8, hx8⟩ : ∃ x, vals 8 = x := ⟨_, rfl⟩
        rw [hx8] at p8
        obtain ⟨bN, csN, hvN, h0N, h1N, hrN, hsN⟩ := hfl (by decide)
        clear hfl
        obtain ⟨hv, hvv, hnw⟩ := p8
        rw [hx8, hvv] at hsN
        cases hsN
        clear hd
        simp only [putAll, Act.put, List.setIfInBounds_toArray, List.set_cons_zero, List.set_cons_succ]
        simp only [hx8, e12, hvN]
        obtain ⟨ve, hve⟩ : ∃ f : Nat → Value, f = vals := ⟨_, rfl⟩
        rw [← hve]
        clear hx8 e12 hvN hve
        have HW1 := Lib.hid hnw
        have HOF : Hid (ListsOff u7.ownBlock hv) := Lib.hid (off_fresh HO.out ⟨fun a ha => (hnw.la a ha).1, fun a ha => (hnw.ra a ha).1⟩)
        have HO6 : Hid (OwnH w1r W0.heap.size u7 hs) := HO.out.on hB
        have HB6 : Hid (Below W0.heap.size W0 w1r) := HB5.out.trans (hB.mono HB5.out.size)
        have hsz6 := HB6.out.size
        have m0 : w1r.cell? ⟨bN, 0, none⟩ = some (.int .i64 hv.rid) := hrN 0 _ rfl
        have m1 : w1r.cell? ⟨bN, 1, none⟩ = some (.int .i64 hv.nid) := hrN 1 _ rfl
        have m2 : w1r.cell? ⟨bN, 2, none⟩ = some (.slice hv.la hv.ln hv.lc) := hrN 2 _ rfl
        have m3 : w1r.cell? ⟨bN, 3, none⟩ = some (.string hv.key) := hrN 3 _ rfl
        have m4 : w1r.cell? ⟨bN, 4, none⟩ = some (.slice hv.ra hv.rn hv.rc) := hrN 4 _ rfl
        clear hrN hB HCW HDW HHZ HO hnw h0N h1N
        cases ok with
        | false =>
          have HE2 : Hid (hs.map Hv.toHt = hitsL rid tn l (ids.take (i + 1)) n) := by
            have h9 := HOK.out
            cases oh with
            | some y => cases h9
            | none =>
              show _ = _
              rw [HNX.out, HE.out]
              exact (List.append_nil _).symm
          go_wp2
          go_roundw
          case rel => exact ⟨i + 1, hs, HLT.out, by go_num, HO6, HE2, HB6⟩
          case measure => have := HLT.out; simp [intOf]; omega
        | true =>
          have HE2 : Hid ((hs ++ [hv]).map Hv.toHt = hitsL rid tn l (ids.take (i + 1)) n) := by
            have h9 := HOK.out
            cases oh with
            | none => cases h9
            | some y =>
              show _ = _
              rw [HNX.out, List.map_append, HE.out, List.map_singleton, HW1.out.ht]
              rfl
          go_wp2_with (at_builtin; refine wpList_appN2 rfl (.tmp 28) (.tmp 30) 41 rfl W0.heap.size 35 5 80 _ info_hit rfl (by omega) Tryz.underlying41 rfl HO6.out.row rfl rfl (by simp [Value.oneCell']) (by omega) (by omega) (by omega) ?_; rintro v7' w4 hown7 hb7 hg7 hat7)
          obtain ⟨W2, hW2⟩ : ∃ W2, W2 = w1r.alloc (.cells #[.int .i64 hv.rid, .int .i64 hv.nid, .slice hv.la hv.ln hv.lc, .string hv.key, .slice hv.ra hv.rn hv.rc] 35) := ⟨_, rfl⟩
          rw [← hW2] at hg7 hat7
          have hz2 : Below w1r.heap.size w1r W2 := by rw [hW2]; exact (Below.refl _ _).alloc (Nat.le_refl _) _
          have HO3 : Hid (OwnH w4 W0.heap.size v7' (hs ++ [hv])) := (HO6.out.on hz2).snoc (HW1.out.hr.on hz2) HOF.out hown7 hg7 hat7
          clear hW2 hg7 hat7 hz2
          have HB3 : Hid (Below W0.heap.size W0 w4) := HB6.out.trans hb7
          clear hown7 hb7
          go_wp2
          go_roundw
          case rel => exact ⟨i + 1, hs ++ [hv], HLT.out, by go_num, HO3, HE2, HB3⟩
          case measure => have := HLT.out; simp [intOf]; omega
    · obtain rfl : m = i := by omega
      have hiz : ¬ (m : Int) < (m : Int) := by omega
      have HE2 : Hid (hs.map Hv.toHt = hitsL rid tn l ids n) := by
        have h9 := HE.out
        rw [List.take_of_length_le (by rw [HI.out.len]; exact Nat.le_refl _)] at h9
        exact h9
      go_wp2
      go_ret
      exact ⟨_, rfl, hs, HO.out.base (show w.heap.size ≤ W0.heap.size by omega), HE2.out, HBW5.out⟩
end Go.Proofs.YtdpllfgnppeneaaGreatDoor
