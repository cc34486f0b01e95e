/-
  The reference's line of a note.
-/
import Derived.Test.YtdpllfgnppeneaaGreatDoorNear
namespace Go.Proofs.YtdpllfgnppeneaaGreatDoor
open Go.RowKit Ru Lay Srt Col
attribute [local go_sem ↓] Go.wp_at_zero Go.wp_at_succ
set_option linter.unusedVariables false
set_option linter.unusedSimpArgs false

theorem BelowX.setAt (w : World) (q o : Nat) (cs : List Value) : BelowX q w (w.setCells q o cs) :=
  ⟨World.os_setCells _ _ _ _, setCells_tapeX _ _ _ _, World.output_setCells _ _ _ _, by rw [setCells_sizeX]; exact Nat.le_refl _, fun k hk hn => World.heap_setCells_other _ _ _ _ hk hn, fun n hn => World.there_setCells hn _ _ _⟩
/-- What stands in a block when one of its cells has been stored into. -/
theorem range_set {w : World} {b k : Nat} {cs : List Value} {v : Value} (h : w.rangeAt b 0 cs) (hk : k < cs.length) : (w.setCells b k [v]).rangeAt b 0 (cs.set k v) := fun j u hu => by
  show (w.setCell ⟨b, k, none⟩ v).cell? _ = _
  rw [List.getElem?_set] at hu
  split at hu
  · rename_i e
    subst e
    have h0 := h k _ (List.getElem?_eq_getElem hk)
    rw [Nat.zero_add] at h0 ⊢
    rw [World.cell?_setCell_same _ _ _ h0]
    exact hu
  · rename_i e
    rw [World.cell?_setCell_other _ _ _ _ (fun e2 => e (by injection e2 with _ e3 _; omega))]
    exact h j u hu
theorem BelowX.range {q : Nat} {a w : World} {b : Nat} {cs : List Value} (h : BelowX q a w) (hb : b < a.heap.size) (hn : b ≠ q) (hr : a.rangeAt b 0 cs) : w.rangeAt b 0 cs := fun j v hv => by
  rw [h.cell (p := ⟨b, 0 + j, none⟩) hb hn]
  exact hr j v hv
theorem BelowX.there {q : Nat} {a w : World} {b n : Nat} (h : BelowX q a w) (hb : b < a.heap.size) (hn : b ≠ q) (hr : a.there b 0 n) : w.there b 0 n := fun j hj => by
  obtain ⟨g1, g2⟩ := hr j hj
  have hbl := h.block b hb hn
  exact ⟨by rw [World.cell?_of_block (a := ⟨b, 0 + j, none⟩) hbl]; exact g1, by rw [World.frozen?_of_block (a := ⟨b, 0 + j, none⟩) hbl]; exact g2⟩
def leftK (S : List ByteArray) (a N i : Nat) : List ByteArray := (S.take (min i a)).drop (a - N)
def rightK (S : List ByteArray) (a N i : Nat) : List ByteArray := ((S.take i).drop (a + 1)).take N
theorem leftK_in {S : List ByteArray} {a N i : Nat} {t : ByteArray} (h : S[i]? = some t) (h1 : i < a) (h2 : a - i ≤ N) : leftK S a N (i + 1) = leftK S a N i ++ [t] := by
  unfold leftK
  rw [show min (i + 1) a = i + 1 by omega, show min i a = i by omega, take_at2 h, List.drop_append_of_le_length (by rw [List.length_take]; have := (List.getElem?_eq_some_iff.1 h).1; omega)]
theorem leftK_out {S : List ByteArray} {a N i : Nat} (h : ¬ (i < a ∧ a - i ≤ N)) : leftK S a N (i + 1) = leftK S a N i := by
  unfold leftK
  by_cases h1 : i < a
  · rw [List.drop_of_length_le (by rw [List.length_take]; omega), List.drop_of_length_le (by rw [List.length_take]; omega)]
  · rw [show min (i + 1) a = a by omega, show min i a = a by omega]
theorem rightK_in {S : List ByteArray} {a N i : Nat} {t : ByteArray} (h : S[i]? = some t) (h1 : a < i) (h2 : i - a ≤ N) : rightK S a N (i + 1) = rightK S a N i ++ [t] := by
  have hl := (List.getElem?_eq_some_iff.1 h).1
  unfold rightK
  rw [take_at2 h, List.drop_append_of_le_length (by rw [List.length_take]; omega)]
  have hlen : ((S.take i).drop (a + 1)).length = i - (a + 1) := by rw [List.length_drop, List.length_take]; omega
  rw [List.take_append, List.take_of_length_le (by rw [hlen]; omega), hlen, show List.take (N - (i - (a + 1))) [t] = [t] from List.take_of_length_le (by rw [List.length_singleton]; omega)]
theorem rightK_out {S : List ByteArray} {a N i : Nat} {t : ByteArray} (h : S[i]? = some t) (h1 : ¬ (a < i ∧ i - a ≤ N)) : rightK S a N (i + 1) = rightK S a N i := by
  have hl := (List.getElem?_eq_some_iff.1 h).1
  unfold rightK
  by_cases h2 : a < i
  · have hlen : ((S.take i).drop (a + 1)).length = i - (a + 1) := by rw [List.length_drop, List.length_take]; omega
    rw [take_at2 h, List.drop_append_of_le_length (by rw [List.length_take]; omega), List.take_append_of_le_length (by rw [hlen]; omega)]
  · rw [List.drop_of_length_le (by rw [List.length_take]; omega), List.drop_of_length_le (by rw [List.length_take]; omega)]
theorem leftK_all {S : List ByteArray} {a N K : Nat} (hK : S.length = K) (ha : a < K) : leftK S a N K = (S.take a).drop (a - min N K) := by
  unfold leftK
  rw [show min K a = a by omega, show a - min N K = a - N by omega]
theorem rightK_all {S : List ByteArray} {a N K : Nat} (hK : S.length = K) : rightK S a N K = (S.drop (a + 1)).take (min N K) := by
  unfold rightK
  rw [show S.take K = S from List.take_of_length_le (by omega), List.take_eq_take_iff, List.length_drop]
  omega
theorem hitL_nat (rid : Int) (tn : Nat) (l : List Nt) (id n : Int) : hitL rid tn l id n = hitL rid tn l id (n.toNat : Int) := by
  unfold hitL hitK
  rw [show max (n.toNat : Int) 0 = max n 0 by omega]
theorem nearL_nodup {T : List Ti} {l : List Nt} {x : Nt} (hL : LightN T l) : (nearL T l x).Nodup := by
  unfold nearL
  exact (ofL_nodup hL).filter _
theorem nodup_idx {α : Type} {l : List α} (h : l.Nodup) {i j : Nat} {x : α} (hi : l[i]? = some x) (hj : l[j]? = some x) : i = j := by
  obtain ⟨hil, hix⟩ := List.getElem?_eq_some_iff.1 hi
  obtain ⟨hjl, hjx⟩ := List.getElem?_eq_some_iff.1 hj
  rcases Nat.lt_trichotomy i j with g | g | g
  · exact absurd (hix.trans hjx.symm) (List.pairwise_iff_getElem.1 h i j hil hjl g)
  · exact g
  · exact absurd (hjx.trans hix.symm) (List.pairwise_iff_getElem.1 h j i hjl hil g)
theorem nearL_mem {T : List Ti} {l : List Nt} {x : Nt} {z : Int} (h : z ∈ nearL T l x) : z ∈ ofL T l x.tier := (List.mem_filter.1 h).1
theorem own_lt {w : World} {base e s n m c : Nat} {A : Option Addr} {xs : List Value} (h : w.ownsRow base e s (.slice A n c) m xs) : ∀ ad, A = some ad → ad.block < w.heap.size := fun ad e => by
  subst e
  exact (h.lt ad.block rfl).2
def hv0 : Hv := { toHt := ht0, la := none, ln := 0, lc := 0, ra := none, rn := 0, rc := 0 }
theorem hv0_R (W : World) (B : Nat) : HvR W B hv0 := ⟨Reads.none_, Reads.none_, ⟨Nat.le_refl _, by show 0 ≤ _; omega⟩, ⟨Nat.le_refl _, by show 0 ≤ _; omega⟩⟩
theorem BelowX.base {q : Nat} {a b c : World} (h : BelowX q a b) (k : Below a.heap.size b c) (hq : q < a.heap.size) : BelowX q a c :=
  ⟨k.os.trans h.os, k.tape.trans h.tape, k.output.trans h.output, Nat.le_trans h.size k.size, fun i hi hn => (k.block i hi).trans (h.block i hi hn), fun n hn => there_below k hq (h.keep n hn)⟩
/-- Where the line of a note lies in the reference's hands. -/
structure OutR (W : World) (bo base : Nat) (rid id : Int) (t : ByteArray) (vL vR : Value) (l r : List ByteArray) : Prop where
  left : OwnS W base vL l
  right : OwnS W base vR r
  apart : Apart vL vR
  box : W.rangeAt bo 0 [.int .i64 rid, .int .i64 id, vL, .string t, vR]
theorem OutR.on {W W' : World} {bo base : Nat} {rid id : Int} {t : ByteArray} {vL vR : Value} {l r : List ByteArray} (h : OutR W bo base rid id t vL vR l r) (hb : Below W.heap.size W W') (hbo : bo < W.heap.size) : OutR W' bo base rid id t vL vR l r :=
  ⟨h.left.on hb, h.right.on hb, h.apart, range_below hb hbo h.box⟩
theorem OutR.putL {W W' : World} {bo base : Nat} {rid id : Int} {t s : ByteArray} {vL vR v' : Value} {l r : List ByteArray} (h : OutR W bo base rid id t vL vR l r) (hbo : bo < base) (hB : base ≤ W.heap.size) (hb : Below base W W')
    (hown : W'.ownsRow base 9 1 v' (l.length + 1) (l.map .string ++ [.string s])) (hk : W'.ownsRow base 9 1 vR r.length (r.map .string) ∧ Apart vR v') :
    OutR (W'.setCells bo 2 [v']) bo base rid id t v' vR (l ++ [s]) r := by
  have hX := BelowX.setAt W' bo 2 [v']
  refine ⟨?_, ownsRow_X hk.1 hbo hX, hk.2.symm, range_set (range_below hb hbo h.box) (by simp)⟩
  refine ownsRow_X (n := (l ++ [s]).length) (xs := (l ++ [s]).map .string) ?_ hbo hX
  rw [List.length_append, List.map_append]
  exact hown
theorem OutR.putR {W W' : World} {bo base : Nat} {rid id : Int} {t s : ByteArray} {vL vR v' : Value} {l r : List ByteArray} (h : OutR W bo base rid id t vL vR l r) (hbo : bo < base) (hB : base ≤ W.heap.size) (hb : Below base W W')
    (hown : W'.ownsRow base 9 1 v' (r.length + 1) (r.map .string ++ [.string s])) (hk : W'.ownsRow base 9 1 vL l.length (l.map .string) ∧ Apart vL v') :
    OutR (W'.setCells bo 4 [v']) bo base rid id t vL v' l (r ++ [s]) := by
  have hX := BelowX.setAt W' bo 4 [v']
  refine ⟨ownsRow_X hk.1 hbo hX, ?_, hk.2, range_set (range_below hb hbo h.box) (by simp)⟩
  refine ownsRow_X (n := (r ++ [s]).length) (xs := (r ++ [s]).map .string) ?_ hbo hX
  rw [List.length_append, List.map_append]
  exact hown
set_option maxHeartbeats 4000000 in
set_option maxRecDepth 100000 in
theorem refHit_any (d : Dv) (T : List Ti) (l : List Nt) (id n : Int) (w : World) (hL : LightN T l) (hT : TiersR w w.heap.size d.ta d.tn T) (hl : NotesR w w.heap.size d.na d.nn l) (h14 : d.nn ≤ 14) (hn : n ≤ 9223372036854775807) (hn0 : -9223372036854775808 ≤ n) :
    Calls Tryz.prog 8 #[docV d, .int .i64 id, .int .i64 n] w fun e w' => ∃ hv : Hv, e = .returned (.tuple #[.agg (encH hv).toArray, .bool (getN l id).isSome]) ∧ hv.toHt = (hitL d.rid d.tn l id n).getD ht0 ∧ HvR w' w'.heap.size hv ∧ ((∀ ad, hv.la = some ad → w.heap.size ≤ ad.block ∧ ad.block < w'.heap.size) ∧ (∀ ad, hv.ra = some ad → w.heap.size ≤ ad.block ∧ ad.block < w'.heap.size)) ∧ Below w.heap.size w w' := by
  have HNN := Lib.hid hl.len
  have HTN := Lib.hid hT.len
  have HG := Lib.hid fun (W : World) (hW : Below w.heap.size w W) (z : Int) => refGet_any d l z W (hl.on hW) (by omega)
  have HNE := Lib.hid fun (x : Nt) (W : World) (hW : Below w.heap.size w W) => neighbors_any d T l x W hL (hT.on hW) (hl.on hW) (by omega)
  have HL := Lib.hid hL
  clear hT hl hL
  unfold docV getV noteV at HG
  unfold docV noteV at HNE
  unfold docV
  obtain ⟨rid, name, len, day, sa, sn, sc, ta, tn, tc, na, nn, nc⟩ := d
  simp only at *
  go_enter Tryz.func8, Tryz.ntmps8
  go_upto_region 1 with fail
  obtain ⟨W0, hW0⟩ : ∃ W0, ((w.alloc (.cells #[.int .i64 rid, .string name, .int .i64 len, .int .i64 day, .slice sa sn sc, .slice ta tn tc, .slice na nn nc] 28)).alloc (.cells #[.int .i64 0, .int .i64 0, .slice none 0 0, .string ⟨#[]⟩, .slice none 0 0] 35)) = W0 := ⟨_, rfl⟩
  have HTH0 : Hid (W0.there (w.heap.size + 1) 0 5) := by
    have h := there_new (w.alloc (.cells #[.int .i64 rid, .string name, .int .i64 len, .int .i64 day, .slice sa sn sc, .slice ta tn tc, .slice na nn nc] 28)) #[.int .i64 0, .int .i64 0, .slice none 0 0, .string ⟨#[]⟩, .slice none 0 0] 35
    rw [hW0, World.size_alloc] at h
    exact h
  have HB0 : Hid (Below w.heap.size w W0) := by rw [← hW0]; exact (((Below.refl _ _).alloc (by simp <;> omega) _).alloc (by simp <;> omega) _)
  have hz0 : W0.heap.size = w.heap.size + 2 := by rw [← hW0]; simp
  have HC0 : Hid (∀ X, Below W0.heap.size W0 X → X.rangeAt (w.heap.size) 0 [.int .i64 rid, .string name, .int .i64 len, .int .i64 day, .slice sa sn sc, .slice ta tn tc, .slice na nn nc] ∧ X.rangeAt (w.heap.size + 1) 0 [.int .i64 0, .int .i64 0, .slice none 0 0, .string ⟨#[]⟩, .slice none 0 0]) := fun X hX => by
    refine ⟨?_, ?_⟩
    · refine range_below hX (by omega) fun j v hv => ?_
      rw [← hW0, Nat.zero_add]; rw [World.cell?_alloc_lt _ _ _ (by simp <;> omega)]; rw [World.cell?_alloc_at _ _ _ _ (by simp), ← hv, ← List.getElem?_toArray]; try rfl
    · refine range_below hX (by omega) fun j v hv => ?_
      rw [← hW0, Nat.zero_add]; rw [World.cell?_alloc_at _ _ _ _ (by simp), ← hv, ← List.getElem?_toArray]; try rfl
  (try rw [hW0])
  clear hW0
  obtain ⟨g0, g1⟩ := HC0.out W0 (Below.refl _ _)
  have k0 : W0.cell? ⟨w.heap.size, 0, none⟩ = some (.int .i64 rid) := g0 0 _ rfl
  have k1 : W0.cell? ⟨w.heap.size, 1, none⟩ = some (.string name) := g0 1 _ rfl
  have k2 : W0.cell? ⟨w.heap.size, 2, none⟩ = some (.int .i64 len) := g0 2 _ rfl
  have k3 : W0.cell? ⟨w.heap.size, 3, none⟩ = some (.int .i64 day) := g0 3 _ rfl
  have k4 : W0.cell? ⟨w.heap.size, 4, none⟩ = some (.slice sa sn sc) := g0 4 _ rfl
  have k5 : W0.cell? ⟨w.heap.size, 5, none⟩ = some (.slice ta tn tc) := g0 5 _ rfl
  have k6 : W0.cell? ⟨w.heap.size, 6, none⟩ = some (.slice na nn nc) := g0 6 _ rfl
  clear g0 g1
  have HG1 := Lib.hid (HG.out W0 HB0.out id)
  obtain ⟨og, hog⟩ : ∃ og, getN l id = og := ⟨_, rfl⟩
  have HOG := Lib.hid hog
  rw [hog] at HG1
  clear hog
  obtain ⟨x, hx⟩ : ∃ x, og.getD nt0 = x := ⟨_, rfl⟩
  obtain ⟨ob, hob⟩ : ∃ ob, og.isSome = ob := ⟨_, rfl⟩
  rw [hx, hob] at HG1
  have HX := Lib.hid hx
  have HOB := Lib.hid hob
  clear hx hob
  go_wp2_with fail
  refine HG1.out.mono ?_
  rintro e w1 ⟨rfl, hb1⟩
  have HB01 : Hid (Below W0.heap.size W0 w1) := hb1
  have HB1 : Hid (Below w.heap.size w w1) := HB0.out.trans (hb1.mono HB0.out.size)
  have hsz1 := hb1.size
  clear hb1 HG1 k0 k1 k2 k3 k4 k5 k6
  go_upto_region 2 with fail
  obtain ⟨W2, hW2⟩ : ∃ W2, (w1.alloc (.cells #[.int .i64 x.nid, .int .i64 x.tier, .int .i64 x.parent, .int .i64 x.at1, .int .i64 x.at2, .int .i64 x.rank, .string x.text] 58)) = W2 := ⟨_, rfl⟩
  have HB2 : Hid (Below w1.heap.size w1 W2) := by rw [← hW2]; exact ((Below.refl _ _).alloc (by simp <;> omega) _)
  have hz2 : W2.heap.size = w1.heap.size + 1 := by rw [← hW2]; simp
  have HC2 : Hid (∀ X, Below W2.heap.size W2 X → X.rangeAt (w1.heap.size) 0 [.int .i64 x.nid, .int .i64 x.tier, .int .i64 x.parent, .int .i64 x.at1, .int .i64 x.at2, .int .i64 x.rank, .string x.text]) := fun X hX => by
    refine range_below hX (by omega) fun j v hv => ?_
    rw [← hW2, Nat.zero_add]; rw [World.cell?_alloc_at _ _ _ _ (by simp), ← hv, ← List.getElem?_toArray]; try rfl
  (try rw [hW2])
  clear hW2
  have HB02 : Hid (Below W0.heap.size W0 W2) := HB01.out.trans (HB2.out.mono HB01.out.size)
  have HBW2 : Hid (Below w.heap.size w W2) := HB1.out.trans (HB2.out.mono HB1.out.size)
  have hsz2 : w.heap.size + 2 < W2.heap.size := by have := HB01.out.size; omega
  clear hz2
  cases ob with
  | false =>
    have HGN : Hid (getN l id = none) := by
      show _ = _
      rw [HOG.out]
      have h2 := HOB.out
      cases og with
      | none => rfl
      | some y => cases h2
    have HTW := Lib.hid (there_below HB02.out (by omega) HTH0.out)
    have HRW := Lib.hid ((HC0.out W2 HB02.out).2)
    have c0 : W2.cell? ⟨w.heap.size + 1, 0, none⟩ = some (.int .i64 0) := HRW.out 0 _ rfl
    have f0 : W2.frozen? ⟨w.heap.size + 1, 0, none⟩ = false := (HTW.out 0 (by omega)).2
    have c1 : W2.cell? ⟨w.heap.size + 1, 1, none⟩ = some (.int .i64 0) := HRW.out 1 _ rfl
    have f1 : W2.frozen? ⟨w.heap.size + 1, 1, none⟩ = false := (HTW.out 1 (by omega)).2
    have c2 : W2.cell? ⟨w.heap.size + 1, 2, none⟩ = some (.slice none 0 0) := HRW.out 2 _ rfl
    have f2 : W2.frozen? ⟨w.heap.size + 1, 2, none⟩ = false := (HTW.out 2 (by omega)).2
    have c3 : W2.cell? ⟨w.heap.size + 1, 3, none⟩ = some (.string ⟨#[]⟩) := HRW.out 3 _ rfl
    have f3 : W2.frozen? ⟨w.heap.size + 1, 3, none⟩ = false := (HTW.out 3 (by omega)).2
    have c4 : W2.cell? ⟨w.heap.size + 1, 4, none⟩ = some (.slice none 0 0) := HRW.out 4 _ rfl
    have f4 : W2.frozen? ⟨w.heap.size + 1, 4, none⟩ = false := (HTW.out 4 (by omega)).2
    go_wp2
    (try simp only [Exit.inBlock, Exit.then])
    refine bodyPost_ret (v := .tuple #[.agg (encH hv0).toArray, .bool false]) ?_ rfl ⟨hv0, by rw [HGN.out]; rfl, by rw [show hitL rid tn l id n = none by unfold hitL; rw [HGN.out]; rfl]; rfl, hv0_R _ _, ⟨(fun ad h => by cases h), (fun ad h => by cases h)⟩, ?_⟩
    · refine results_cell_of rfl _ _ (w.heap.size + 1) (encH hv0) _ _ ?_ ?_ ?_ Tryz.underlying35 rfl (by kernel_rfl)
      · rfl
      · rfl
      · exact World.rangeAt_setCells_same W2 (w.heap.size + 1) 0 [.int .i64 0, .int .i64 0, .slice none 0 0, .string ⟨#[]⟩, .slice none 0 0] HTW.out
    · exact below_set (w := W2) (b := w.heap.size + 1) (o := 0) (vs := [.int .i64 0, .int .i64 0, .slice none 0 0, .string ⟨#[]⟩, .slice none 0 0]) HBW2.out (by omega) (by omega)
  | true =>
    have HGX : Hid (getN l id = some x) := by
      show _ = _
      rw [HOG.out]
      have h1 := HX.out
      have h2 := HOB.out
      cases og with
      | none => cases h2
      | some y => exact congrArg some h1
    have g0 := (HC0.out W2 HB02.out).1
    have k0 : W2.cell? ⟨w.heap.size, 0, none⟩ = some (.int .i64 rid) := g0 0 _ rfl
    have k1 : W2.cell? ⟨w.heap.size, 1, none⟩ = some (.string name) := g0 1 _ rfl
    have k2 : W2.cell? ⟨w.heap.size, 2, none⟩ = some (.int .i64 len) := g0 2 _ rfl
    have k3 : W2.cell? ⟨w.heap.size, 3, none⟩ = some (.int .i64 day) := g0 3 _ rfl
    have k4 : W2.cell? ⟨w.heap.size, 4, none⟩ = some (.slice sa sn sc) := g0 4 _ rfl
    have k5 : W2.cell? ⟨w.heap.size, 5, none⟩ = some (.slice ta tn tc) := g0 5 _ rfl
    have k6 : W2.cell? ⟨w.heap.size, 6, none⟩ = some (.slice na nn nc) := g0 6 _ rfl
    have g2 := HC2.out W2 (Below.refl _ _)
    have m6 : W2.cell? ⟨w1.heap.size, 6, none⟩ = some (.string x.text) := g2 6 _ rfl
    clear g0 g2
    go_upto_region 5 with fail
    obtain ⟨W3, hW3⟩ : ∃ W3, (W2.alloc (.cells #[.int .i64 rid, .int .i64 id, .slice none 0 0, .string x.text, .slice none 0 0] 35)) = W3 := ⟨_, rfl⟩
    have HTH3 : Hid (W3.there W2.heap.size 0 5) := by
      have h := there_new W2 #[.int .i64 rid, .int .i64 id, .slice none 0 0, .string x.text, .slice none 0 0] 35
      rw [hW3] at h
      exact h
    have HB3 : Hid (Below W2.heap.size W2 W3) := by rw [← hW3]; exact ((Below.refl _ _).alloc (by simp <;> omega) _)
    have hz3 : W3.heap.size = W2.heap.size + 1 := by rw [← hW3]; simp
    have HC3 : Hid (∀ X, Below W3.heap.size W3 X → X.rangeAt (W2.heap.size) 0 [.int .i64 rid, .int .i64 id, .slice none 0 0, .string x.text, .slice none 0 0]) := fun X hX => by
      refine range_below hX (by omega) fun j v hv => ?_
      rw [← hW3, Nat.zero_add]; rw [World.cell?_alloc_at _ _ _ _ (by simp), ← hv, ← List.getElem?_toArray]; try rfl
    (try rw [hW3])
    clear hW3
    have HB03 : Hid (Below W0.heap.size W0 W3) := HB02.out.trans (HB3.out.mono HB02.out.size)
    have HBW3 : Hid (Below w.heap.size w W3) := HBW2.out.trans (HB3.out.mono HBW2.out.size)
    clear k0 k1 k2 k3 k4 k5 k6 m6
    have g0 := (HC0.out W3 HB03.out).1
    have k0 : W3.cell? ⟨w.heap.size, 0, none⟩ = some (.int .i64 rid) := g0 0 _ rfl
    have k1 : W3.cell? ⟨w.heap.size, 1, none⟩ = some (.string name) := g0 1 _ rfl
    have k2 : W3.cell? ⟨w.heap.size, 2, none⟩ = some (.int .i64 len) := g0 2 _ rfl
    have k3 : W3.cell? ⟨w.heap.size, 3, none⟩ = some (.int .i64 day) := g0 3 _ rfl
    have k4 : W3.cell? ⟨w.heap.size, 4, none⟩ = some (.slice sa sn sc) := g0 4 _ rfl
    have k5 : W3.cell? ⟨w.heap.size, 5, none⟩ = some (.slice ta tn tc) := g0 5 _ rfl
    have k6 : W3.cell? ⟨w.heap.size, 6, none⟩ = some (.slice na nn nc) := g0 6 _ rfl
    have g2 := HC2.out W3 HB3.out
    have m0 : W3.cell? ⟨w1.heap.size, 0, none⟩ = some (.int .i64 x.nid) := g2 0 _ rfl
    have m1 : W3.cell? ⟨w1.heap.size, 1, none⟩ = some (.int .i64 x.tier) := g2 1 _ rfl
    have m2 : W3.cell? ⟨w1.heap.size, 2, none⟩ = some (.int .i64 x.parent) := g2 2 _ rfl
    have m3 : W3.cell? ⟨w1.heap.size, 3, none⟩ = some (.int .i64 x.at1) := g2 3 _ rfl
    have m4 : W3.cell? ⟨w1.heap.size, 4, none⟩ = some (.int .i64 x.at2) := g2 4 _ rfl
    have m5 : W3.cell? ⟨w1.heap.size, 5, none⟩ = some (.int .i64 x.rank) := g2 5 _ rfl
    have m6 : W3.cell? ⟨w1.heap.size, 6, none⟩ = some (.string x.text) := g2 6 _ rfl
    clear g0 g2
    go_wp2_with fail
    refine (HNE.out x W3 HBW3.out).mono ?_
    rintro e w4 ⟨v4, rfl, h4, hb4⟩
    obtain ⟨hmx, hxi⟩ := getN_mem HGX.out
    have hself : id ∈ nearL T l x := by rw [nearL_kids HL.out hmx]; exact kids_self HGX.out (HL.out.tier x hmx)
    obtain ⟨k0', hk0⟩ := List.getElem?_of_mem hself
    have HND : Hid ((nearL T l x).Nodup) := nearL_nodup HL.out
    have hAT : AtOK (nearL T l x) id k0' := fun k hk => nodup_idx HND.out hk0 hk
    obtain ⟨S, hS, haS, hhit, hSa⟩ := hit_near (rid := rid) (N := n.toNat) HL.out HGX.out hAT
    have HHIT : Hid (hitL rid tn l id n = some { rid := rid, nid := id, left := (S.take k0').drop (k0' - min n.toNat S.length), key := x.text, right := (S.drop (k0' + 1)).take (min n.toNat S.length) }) := by
      show _ = _
      rw [hitL_nat, ← HTN.out]
      exact hhit
    have HGT : Hid (∀ z ∈ nearL T l x, ∃ y, getN l z = some y ∧ y.nid = z) := fun z hz => ofL_get HL.out (nearL_mem hz)
    obtain ⟨ids, hids⟩ : ∃ ids, nearL T l x = ids := ⟨_, rfl⟩
    have hil : ids.length ≤ 14 := by
      rw [← hids]
      unfold nearL
      have h1 := List.length_filter_le (fun z => decide (((getN l z).getD nt0).parent = x.parent)) (ofL T l x.tier)
      have h2 := ofL_len (T := T) (l := l) (tier := x.tier)
      have := HNN.out
      omega
    rw [hids] at h4 hS hk0 hAT HND HGT
    have hSl : S.length = ids.length := by rw [← hS, texts_len]
    obtain ⟨A, c, rfl, hic, hc63, hir⟩ := OwnI.form h4
    have hfr := own_fresh h4
    obtain ⟨m, hm⟩ : ∃ m, ids.length = m := ⟨_, rfl⟩
    rw [hm] at hSl hic hil hir ⊢
    rw [hSl] at HHIT haS
    have HSI : Hid (∀ i z, ids[i]? = some z → S[i]? = some (textN l z)) := fun i z hz => by
      rw [← hS]
      unfold textsN
      rw [List.getElem?_map, hz]
      rfl
    have HIR := Lib.hid hir
    have HFR := Lib.hid hfr
    have HK0 := Lib.hid hk0
    have HATT := Lib.hid hAT
    have HSL := Lib.hid hSl
    have HB4 : Hid (Below w.heap.size w w4) := HBW3.out.trans (hb4.mono HBW3.out.size)
    have HB34 : Hid (Below W3.heap.size W3 w4) := hb4
    have hsz4 := hb4.size
    have hbo : W2.heap.size < w4.heap.size := by omega
    have HTH4 : Hid (w4.there W2.heap.size 0 5) := there_below hb4 (by omega) HTH3.out
    have HTQ4 : Hid (w4.there (w.heap.size + 1) 0 5) := there_below (HB03.out.trans (hb4.mono HB03.out.size)) (by omega) HTH0.out
    have HRG4 : Hid (w4.rangeAt W2.heap.size 0 [.int .i64 rid, .int .i64 id, .slice none 0 0, .string x.text, .slice none 0 0]) := HC3.out w4 hb4
    have HDC4 : Hid (w4.rangeAt w.heap.size 0 [.int .i64 rid, .string name, .int .i64 len, .int .i64 day, .slice sa sn sc, .slice ta tn tc, .slice na nn nc]) := (HC0.out w4 (HB03.out.trans (hb4.mono HB03.out.size))).1
    have HRQ4 : Hid (w4.rangeAt (w.heap.size + 1) 0 [.int .i64 0, .int .i64 0, .slice none 0 0, .string ⟨#[]⟩, .slice none 0 0]) := (HC0.out w4 (HB03.out.trans (hb4.mono HB03.out.size))).2
    clear h4 hb4 hir hfr hids hm hk0 hAT hSl hS hhit hSa hself hmx hxi k0 k1 k2 k3 k4 k5 k6 m0 m1 m2 m3 m4 m5 m6
    go_wp2_with fail
    go_loop [12] (fun v12 => ∃ k : Nat, k ≤ k0' ∧ v12 = .int .i64 k) (fun v12 => k0' - (intOf v12).toNat)
    case atStart => exact ⟨0, Nat.zero_le _, rfl⟩
    case round =>
      obtain ⟨k, hk, rfl⟩ := hrel
      have hkm : (k : Int) < (m : Int) := by omega
      have hkA : (0 : Int) ≤ (k : Int) := by omega
      obtain ⟨ad, z, rfl, hab, hz, hcz⟩ := HIR.out.at_ (k := k) (by omega)
      have HZZ := Lib.hid hz
      clear hz
      by_cases hzi : z = id
      · have hzb : (z != id) = false := by rw [bne_eq_false_iff_eq]; exact hzi
        have HKE : Hid (k0' = k) := HATT.out k (by rw [← hzi]; exact HZZ.out)
        clear hzi
        obtain ⟨bo, hboe⟩ : ∃ bo, W2.heap.size = bo := ⟨_, rfl⟩
        have hboz : w.heap.size + 2 < bo := by omega
        rw [hboe] at hbo HTH4 HRG4 ⊢
        have HBO := Lib.hid hboe
        have hz34 : bo < W3.heap.size := by omega
        clear hboe hz3
        go_wp2_with fail
        obtain rfl : k0' = k := HKE.out
        go_loopw [13, 14, 15] (fun v13 _ _ wr => ∃ (i : Nat) (vL vR : Value), i ≤ m ∧ v13 = .int .i64 i ∧ Hid (OutR wr bo w4.heap.size rid id x.text vL vR (leftK S k0' n.toNat i) (rightK S k0' n.toNat i)) ∧ Hid (BelowX bo w4 wr)) (fun v13 _ _ _ => m - (intOf v13).toNat)
        case atStart => exact ⟨0, _, _, Nat.zero_le _, rfl, ⟨by unfold leftK; rw [show min 0 k0' = 0 by omega, List.take_zero, List.drop_nil]; exact OwnS.nil _ _, by unfold rightK; rw [List.take_zero, List.drop_nil, List.take_nil]; exact OwnS.nil _ _, Apart.nil_left _, HRG4.out⟩, BelowX.of (Below.refl _ _)⟩
        case round =>
          clear hcz HZZ
          obtain ⟨i, vL, vR, hi, rfl, HO, HB5⟩ := hrel
          obtain ⟨w5, hw5⟩ : ∃ w5, wr = w5 := ⟨_, rfl⟩
          rw [hw5] at HO HB5 ⊢
          clear hw5
          have HBW5 : Hid (Below w.heap.size w w5) := HB4.out.trans (HB5.out.below (by omega) HB4.out.size)
          have hsz5 := HB5.out.size
          by_cases hlt : i < m
          · have hiz : (i : Int) < (m : Int) := by omega
            have hiA : (0 : Int) ≤ (i : Int) := by omega
            have HI := Lib.hid hlt
            obtain ⟨ad', z, ha', hab', hz, hcz⟩ := HIR.out.at_ hlt
            cases ha'
            obtain ⟨y, hy, hyz⟩ := HGT.out z (List.mem_of_getElem? hz)
            have hfa := HFR.out ad rfl
            have hcz5 : w5.cell? (ad.add i) = some (.int .i64 z) := (HB5.out.cell (by rw [block_of_add]; exact hab) (by rw [block_of_add]; omega)).trans hcz
            have hd5 : w5.rangeAt w.heap.size 0 [.int .i64 rid, .string name, .int .i64 len, .int .i64 day, .slice sa sn sc, .slice ta tn tc, .slice na nn nc] := HB5.out.range (by omega) (by omega) HDC4.out
            have HCW : Hid (∀ W, Below w5.heap.size w5 W → W.cell? (ad.add i) = some (.int .i64 z)) := fun W hW => (hW.cell (by rw [block_of_add]; omega)).trans hcz5
            have HDW : Hid (∀ W, Below w5.heap.size w5 W → W.rangeAt w.heap.size 0 [.int .i64 rid, .string name, .int .i64 len, .int .i64 day, .slice sa sn sc, .slice ta tn tc, .slice na nn nc]) := fun W hW => range_below hW (by omega) hd5
            have HGZ : Hid (∀ W, Below w5.heap.size w5 W → Calls Tryz.prog 23 #[.agg #[.int .i64 rid, .string name, .int .i64 len, .int .i64 day, .slice sa sn sc, .slice ta tn tc, .slice na nn nc], .int .i64 z] W fun e w' => e = .returned (.tuple #[.agg #[.int .i64 y.nid, .int .i64 y.tier, .int .i64 y.parent, .int .i64 y.at1, .int .i64 y.at2, .int .i64 y.rank, .string y.text], .bool true]) ∧ Below W.heap.size W w') := fun W hW => by
              have h9 := HG.out W (HBW5.out.trans (hW.mono HBW5.out.size)) z
              rw [hy] at h9
              exact h9
            have HSY : Hid (S[i]? = some y.text) := by
              show _ = _
              rw [HSI.out i z hz]
              unfold textN
              rw [hy]
              rfl
            clear hcz hcz5 hd5 hz hy hyz hfa hab'
            go_wp2_with fail
            refine wp_region_toldA 9 10 7 [.int .i64 y.nid, .int .i64 y.tier, .int .i64 y.parent, .int .i64 y.at1, .int .i64 y.at2, .int .i64 y.rank, .string y.text] [ToldA.is (.agg #[.int .i64 rid, .string name, .int .i64 len, .int .i64 day, .slice sa sn sc, .slice ta tn tc, .slice na nn nc]), ToldA.is (.slice (some ad) m c), ToldA.is (.int .i64 (i : Int)), ToldA.is (.pointer (some (ad.add i))), ToldA.is (.int .i64 z), ToldA.is (.tuple #[.agg #[.int .i64 y.nid, .int .i64 y.tier, .int .i64 y.parent, .int .i64 y.at1, .int .i64 y.at2, .int .i64 y.rank, .string y.text], .bool true]), ToldA.is (.tuple #[.agg #[.int .i64 y.nid, .int .i64 y.tier, .int .i64 y.parent, .int .i64 y.at1, .int .i64 y.at2, .int .i64 y.rank, .string y.text], .bool true]), ToldA.is (.agg #[.int .i64 y.nid, .int .i64 y.tier, .int .i64 y.parent, .int .i64 y.at1, .int .i64 y.at2, .int .i64 y.rank, .string y.text]), ToldA.is (.bool true), ToldA.new, ToldA.put, ToldA.is (.bool true)] (by omega) (by kernel_rfl) (by kernel_rfl) rfl ?_ ?_
            · refine And.intro (fun wq vals hB hd a1 ha1 K hK => ?_) ?_
              · clear hd
                subst ha1
                simp only [putAll, Act.put, List.setIfInBounds_toArray, List.set_cons_zero, List.set_cons_succ] at hK ⊢
                obtain ⟨ve, hve⟩ : ∃ f : Nat → Value, f = vals := ⟨_, rfl⟩
                rw [← hve] at hK  ⊢
                clear hve
                refine gwp_none rfl ?_
                refine wp_load_mid 28 (.tmp 3) rfl w.heap.size 0 rfl [.int .i64 rid, .string name, .int .i64 len, .int .i64 day, .slice sa sn sc, .slice ta tn tc, .slice na nn nc] _ (HDW.out wq hB) Tryz.underlying28 rfl (by kernel_rfl) ?_
                simp only [Act.put, List.setIfInBounds_toArray, List.set_cons_zero, List.set_cons_succ]
                exact hK _ _ rfl (Below.refl _ _)
              refine And.intro (fun wq vals hB hd a1 ha1 K hK => ?_) ?_
              · clear hd
                subst ha1
                simp only [putAll, Act.put, List.setIfInBounds_toArray, List.set_cons_zero, List.set_cons_succ] at hK ⊢
                obtain ⟨ve, hve⟩ : ∃ f : Nat → Value, f = vals := ⟨_, rfl⟩
                rw [← hve] at hK  ⊢
                clear hve
                refine gwp_none rfl ?_
                go_simp
                exact hK _ _ rfl (Below.refl _ _)
              refine And.intro (fun wq vals hB hd a1 ha1 K hK => ?_) ?_
              · clear hd
                subst ha1
                simp only [putAll, Act.put, List.setIfInBounds_toArray, List.set_cons_zero, List.set_cons_succ] at hK ⊢
                obtain ⟨ve, hve⟩ : ∃ f : Nat → Value, f = vals := ⟨_, rfl⟩
                rw [← hve] at hK  ⊢
                clear hve
                refine gwp_none rfl ?_
                go_simp
                exact hK _ _ rfl (Below.refl _ _)
              refine And.intro (fun wq vals hB hd a1 ha1 K hK => ?_) ?_
              · have e1 : vals 1 = .slice (some ad) m c := toldA_at (hd 1 rfl) rfl
                have e2 : vals 2 = .int .i64 (i : Int) := toldA_at (hd 2 rfl) rfl
                clear hd
                subst ha1
                simp only [putAll, Act.put, List.setIfInBounds_toArray, List.set_cons_zero, List.set_cons_succ] at hK ⊢
                simp only [e1, e2] at hK ⊢
                obtain ⟨ve, hve⟩ : ∃ f : Nat → Value, f = vals := ⟨_, rfl⟩
                rw [← hve] at hK  ⊢
                clear e1 e2 hve
                refine gwp_none rfl ?_
                go_simp
                exact hK _ _ rfl (Below.refl _ _)
              refine And.intro (fun wq vals hB hd a1 ha1 K hK => ?_) ?_
              · have e3 : vals 3 = .pointer (some (ad.add i)) := toldA_at (hd 3 rfl) rfl
                clear hd
                subst ha1
                simp only [putAll, Act.put, List.setIfInBounds_toArray, List.set_cons_zero, List.set_cons_succ] at hK ⊢
                simp only [e3] at hK ⊢
                obtain ⟨ve, hve⟩ : ∃ f : Nat → Value, f = vals := ⟨_, rfl⟩
                rw [← hve] at hK  ⊢
                clear e3 hve
                refine gwp_none rfl ?_
                have hc := HCW.out wq hB
                go_simp
                exact hK _ _ rfl (Below.refl _ _)
              refine And.intro (fun wq vals hB hd a1 ha1 K hK => ?_) ?_
              · have e0 : vals 0 = .agg #[.int .i64 rid, .string name, .int .i64 len, .int .i64 day, .slice sa sn sc, .slice ta tn tc, .slice na nn nc] := toldA_at (hd 0 rfl) rfl
                have e4 : vals 4 = .int .i64 z := toldA_at (hd 4 rfl) rfl
                clear hd
                subst ha1
                simp only [putAll, Act.put, List.setIfInBounds_toArray, List.set_cons_zero, List.set_cons_succ] at hK ⊢
                simp only [e0, e4] at hK ⊢
                obtain ⟨ve, hve⟩ : ∃ f : Nat → Value, f = vals := ⟨_, rfl⟩
                rw [← hve] at hK  ⊢
                clear e0 e4 hve
                refine gwp_none rfl ?_
                go_simp
                refine (HGZ.out wq hB).mono ?_
                rintro e w7 ⟨rfl, hb7⟩
                exact hK _ _ rfl hb7
              refine And.intro (fun wq vals hB hd a1 ha1 K hK => ?_) ?_
              · have e5 : vals 5 = .tuple #[.agg #[.int .i64 y.nid, .int .i64 y.tier, .int .i64 y.parent, .int .i64 y.at1, .int .i64 y.at2, .int .i64 y.rank, .string y.text], .bool true] := toldA_at (hd 5 rfl) rfl
                clear hd
                subst ha1
                simp only [putAll, Act.put, List.setIfInBounds_toArray, List.set_cons_zero, List.set_cons_succ] at hK ⊢
                simp only [e5] at hK ⊢
                obtain ⟨ve, hve⟩ : ∃ f : Nat → Value, f = vals := ⟨_, rfl⟩
                rw [← hve] at hK  ⊢
                clear e5 hve
                refine gwp_none rfl ?_
                go_simp
                exact hK _ _ rfl (Below.refl _ _)
              refine And.intro (fun wq vals hB hd a1 ha1 K hK => ?_) ?_
              · have e6 : vals 6 = .tuple #[.agg #[.int .i64 y.nid, .int .i64 y.tier, .int .i64 y.parent, .int .i64 y.at1, .int .i64 y.at2, .int .i64 y.rank, .string y.text], .bool true] := toldA_at (hd 6 rfl) rfl
                clear hd
                subst ha1
                simp only [putAll, Act.put, List.setIfInBounds_toArray, List.set_cons_zero, List.set_cons_succ] at hK ⊢
                simp only [e6] at hK ⊢
                obtain ⟨ve, hve⟩ : ∃ f : Nat → Value, f = vals := ⟨_, rfl⟩
                rw [← hve] at hK  ⊢
                clear e6 hve
                refine gwp_none rfl ?_
                go_simp
                exact hK _ _ rfl (Below.refl _ _)
              refine And.intro (fun wq vals hB hd a1 ha1 K hK => ?_) ?_
              · have e6 : vals 6 = .tuple #[.agg #[.int .i64 y.nid, .int .i64 y.tier, .int .i64 y.parent, .int .i64 y.at1, .int .i64 y.at2, .int .i64 y.rank, .string y.text], .bool true] := toldA_at (hd 6 rfl) rfl
                clear hd
                subst ha1
                simp only [putAll, Act.put, List.setIfInBounds_toArray, List.set_cons_zero, List.set_cons_succ] at hK ⊢
                simp only [e6] at hK ⊢
                obtain ⟨ve, hve⟩ : ∃ f : Nat → Value, f = vals := ⟨_, rfl⟩
                rw [← hve] at hK  ⊢
                clear e6 hve
                refine gwp_none rfl ?_
                go_simp
                exact hK _ _ rfl (Below.refl _ _)
              refine And.intro (fun wq vals hB hd a1 ha1 K hK => ?_) ?_
              · clear hd
                subst ha1
                simp only [putAll, Act.put, List.setIfInBounds_toArray, List.set_cons_zero, List.set_cons_succ] at hK ⊢
                obtain ⟨ve, hve⟩ : ∃ f : Nat → Value, f = vals := ⟨_, rfl⟩
                rw [← hve] at hK ⊢
                clear hve
                refine gwp_none rfl ?_
                go_simp
                exact hK _ _ ⟨_, rfl, hB.size, by simp, there_new wq _ _⟩ ((Below.refl _ _).alloc (Nat.le_refl _) _)
              refine And.intro (fun wq vals hB hd a1 ha1 K hK => ?_) ?_
              · have e7 : vals 7 = .agg #[.int .i64 y.nid, .int .i64 y.tier, .int .i64 y.parent, .int .i64 y.at1, .int .i64 y.at2, .int .i64 y.rank, .string y.text] := toldA_at (hd 7 rfl) rfl
                have p9 : NewAt 7 _ (vals 9) _ := toldA_at (t := ToldA.new) (hd 9 rfl) rfl
                clear hd
                refine gwp_none rfl ?_
                obtain ⟨bN, hvN, h0N, h1N, hth⟩ := p9
                have hev1 : a1.eval (.tmp 14) = .pointer (some ⟨bN, 0, none⟩) := by rw [ha1]; exact (eval_slot (i := 9) (by kernel_rfl) (by kernel_rfl) rfl).trans hvN
                have hev2 : a1.eval (.tmp 57) = .agg #[.int .i64 y.nid, .int .i64 y.tier, .int .i64 y.parent, .int .i64 y.at1, .int .i64 y.at2, .int .i64 y.rank, .string y.text] := by rw [ha1]; exact (eval_slot (i := 7) (by kernel_rfl) (by kernel_rfl) rfl).trans e7
                clear ha1
                obtain ⟨wS, hwS⟩ : ∃ wS, wq.setCells bN 0 (#[.int .i64 y.nid, .int .i64 y.tier, .int .i64 y.parent, .int .i64 y.at1, .int .i64 y.at2, .int .i64 y.rank, .string y.text] : Array Value).toList = wS := ⟨_, rfl⟩
                have hX : BelowX bN wq wS := by rw [← hwS]; exact BelowX.set _ _ _
                have hR : wS.rangeAt bN 0 [.int .i64 y.nid, .int .i64 y.tier, .int .i64 y.parent, .int .i64 y.at1, .int .i64 y.at2, .int .i64 y.rank, .string y.text] := by rw [← hwS]; exact World.rangeAt_setCells_same wq bN 0 [.int .i64 y.nid, .int .i64 y.tier, .int .i64 y.parent, .int .i64 y.at1, .int .i64 y.at2, .int .i64 y.rank, .string y.text] hth
                refine wp_store_mid 58 (.tmp 14) (.tmp 57) rfl bN 0 #[.int .i64 y.nid, .int .i64 y.tier, .int .i64 y.parent, .int .i64 y.at1, .int .i64 y.at2, .int .i64 y.rank, .string y.text] hev1 hev2 hth (by kernel_rfl) (by simp [Value.oneCell']) ?_
                rw [hwS]
                exact hK undef wS trivial ⟨by kernel_rfl, bN, hvN, h0N, h1N, hX, hR⟩
              refine And.intro (fun wq vals hB hd a1 ha1 K hK => ?_) ?_
              · have e8 : vals 8 = .bool true := toldA_at (hd 8 rfl) rfl
                clear hd
                subst ha1
                simp only [putAll, Act.put, List.setIfInBounds_toArray, List.set_cons_zero, List.set_cons_succ] at hK ⊢
                simp only [e8] at hK ⊢
                obtain ⟨ve, hve⟩ : ∃ f : Nat → Value, f = vals := ⟨_, rfl⟩
                rw [← hve] at hK  ⊢
                clear e8 hve
                refine gwp_none rfl ?_
                go_simp
                exact hK _ _ rfl (Below.refl _ _)
              exact trivial
            · intro w1r vals hB hd hfl
              have e11 : vals 11 = .bool true := toldA_at (hd 11 (by decide)) rfl
              obtain ⟨bN, hvN, h0N, h1N, hrN⟩ := hfl (by decide)
              clear hfl
              clear hd
              simp only [putAll, Act.put, List.setIfInBounds_toArray, List.set_cons_zero, List.set_cons_succ]
              simp only [e11, hvN]
              obtain ⟨ve, hve⟩ : ∃ f : Nat → Value, f = vals := ⟨_, rfl⟩
              rw [← hve]
              clear e11 hvN hve
              have HO6 : Hid (OutR w1r bo w4.heap.size rid id x.text vL vR (leftK S k0' n.toNat i) (rightK S k0' n.toNat i)) := HO.out.on hB (by omega)
              have HB6 : Hid (BelowX bo w4 w1r) := HB5.out.trans (BelowX.of hB)
              have r6 : w1r.cell? ⟨bN, 6, none⟩ = some (.string y.text) := hrN 6 _ rfl
              have hsz6 := HB6.out.size
              have hbN : w4.heap.size ≤ bN := by omega
              clear hrN hB HCW HDW HGZ HO
              have rkA : IntKind.i64.wrap ((k0' : Int) - (i : Int)) = (k0' : Int) - (i : Int) := by rw [IntKind.wrap_i64]; omega
              have rkB : IntKind.i64.wrap ((i : Int) - (k0' : Int)) = (i : Int) - (k0' : Int) := by rw [IntKind.wrap_i64]; omega
              rcases Nat.lt_trichotomy i k0' with hik | hik | hik
              · have z1 : (i : Int) < (k0' : Int) := by omega
                have z1d : decide ((i : Int) < (k0' : Int)) = true := decide_eq_true z1
                have z2 : ¬ (k0' : Int) < (i : Int) := by omega
                have z2d : decide ((k0' : Int) < (i : Int)) = false := decide_eq_false z2
                have HRK : Hid (rightK S k0' n.toNat (i + 1) = rightK S k0' n.toNat i) := rightK_out HSY.out (by omega)
                by_cases hcn : (k0' : Int) - (i : Int) ≤ n
                · have hcnd : decide ((k0' : Int) - (i : Int) ≤ n) = true := decide_eq_true hcn
                  have HLK : Hid (leftK S k0' n.toNat (i + 1) = leftK S k0' n.toNat i ++ [y.text]) := leftK_in HSY.out hik (by omega)
                  have cL : w1r.cell? ⟨bo, 2, none⟩ = some vL := HO6.out.box 2 _ rfl
                  have hll : (leftK S k0' n.toNat i).length ≤ 14 := by unfold leftK; rw [List.length_drop, List.length_take]; have := HSL.out; omega
                  have HO7 : Hid (World.ownsRow w1r w4.heap.size 9 1 vL (leftK S k0' n.toNat i).length ((leftK S k0' n.toNat i).map .string)) := HO6.out.left
                  have HTH6 : Hid (w1r.there bo 0 5) := HB6.out.keep 5 HTH4.out
                  clear hcn hik
                  go_wp2_with (at_builtin; refine wpList_app1 rfl (.tmp 70) (.tmp 73) 33 rfl w4.heap.size 9 16 (.string .empty) info_string rfl Tryz.underlying33 rfl HO7.out rfl rfl (by omega) (by omega) hsz6 ?_; rintro v8 w7 hown7 hb7 hs7 hk7; obtain ⟨A8, c8, rfl, _, _, _⟩ := own_form hown7; have HK7 := Lib.hid (hk7 _ _ _ _ _ _ HO6.out.right HO6.out.apart.symm); have HOWN7 := Lib.hid hown7; have HB67 := Lib.hid hb7; have cL7 : w7.cell? ⟨bo, 2, none⟩ = some vL := (hb7.cell (p := ⟨bo, 2, none⟩) hbo).trans cL; have fL7 : w7.frozen? ⟨bo, 2, none⟩ = false := (hb7.frozen (p := ⟨bo, 2, none⟩) hbo).trans (HTH6.out 2 (by omega)).2; clear hk7 hown7 hb7 cL r6)
                  have HO8 : Hid (OutR (w7.setCells bo 2 [.slice A8 ((leftK S k0' n.toNat i).length + 1) c8]) bo w4.heap.size rid id x.text (.slice A8 ((leftK S k0' n.toNat i).length + 1) c8) vR (leftK S k0' n.toNat (i + 1)) (rightK S k0' n.toNat (i + 1))) := by
                    show OutR _ _ _ _ _ _ _ _ _ _
                    rw [HLK.out, HRK.out]
                    exact HO6.out.putL hbo hsz6 HB67.out HOWN7.out HK7.out
                  have HB8 : Hid (BelowX bo w4 (w7.setCells bo 2 [.slice A8 ((leftK S k0' n.toNat i).length + 1) c8])) := (HB6.out.base HB67.out hbo).trans (BelowX.setAt w7 bo 2 [.slice A8 ((leftK S k0' n.toNat i).length + 1) c8])
                  clear HK7 HOWN7 HB67 cL7 fL7 HO6 HO7
                  go_wp2
                  go_roundw
                  case rel => exact ⟨i + 1, (.slice A8 ((leftK S k0' n.toNat i).length + 1) c8), vR, HI.out, by go_num, HO8, HB8⟩
                  case measure => have := HI.out; simp [intOf]; omega
                · have hcnd : decide ((k0' : Int) - (i : Int) ≤ n) = false := decide_eq_false hcn
                  have HLK : Hid (leftK S k0' n.toNat (i + 1) = leftK S k0' n.toNat i) := leftK_out (by omega)
                  have HO8 : Hid (OutR w1r bo w4.heap.size rid id x.text vL vR (leftK S k0' n.toNat (i + 1)) (rightK S k0' n.toNat (i + 1))) := by
                    show OutR _ _ _ _ _ _ _ _ _ _
                    rw [HLK.out, HRK.out]
                    exact HO6.out
                  clear hik r6 HO6
                  go_wp2
                  go_roundw
                  case rel => exact ⟨i + 1, vL, vR, HI.out, by go_num, HO8, HB6⟩
                  case measure => have := HI.out; simp [intOf]; omega
              · subst hik
                have z1 : ¬ (i : Int) < (i : Int) := by omega
                have HRK : Hid (rightK S i n.toNat (i + 1) = rightK S i n.toNat i) := rightK_out HSY.out (by omega)
                have HLK : Hid (leftK S i n.toNat (i + 1) = leftK S i n.toNat i) := leftK_out (by omega)
                have HO8 : Hid (OutR w1r bo w4.heap.size rid id x.text vL vR (leftK S i n.toNat (i + 1)) (rightK S i n.toNat (i + 1))) := by
                  show OutR _ _ _ _ _ _ _ _ _ _
                  rw [HLK.out, HRK.out]
                  exact HO6.out
                clear r6 HO6
                go_wp2
                go_roundw
                case rel => exact ⟨i + 1, vL, vR, HI.out, by go_num, HO8, HB6⟩
                case measure => have := HI.out; simp [intOf]; omega
              · have z1 : ¬ (i : Int) < (k0' : Int) := by omega
                have z1d : decide ((i : Int) < (k0' : Int)) = false := decide_eq_false z1
                have z2 : (k0' : Int) < (i : Int) := by omega
                have z2d : decide ((k0' : Int) < (i : Int)) = true := decide_eq_true z2
                have HLK : Hid (leftK S k0' n.toNat (i + 1) = leftK S k0' n.toNat i) := leftK_out (by omega)
                by_cases hcn : (i : Int) - (k0' : Int) ≤ n
                · have hcnd : decide ((i : Int) - (k0' : Int) ≤ n) = true := decide_eq_true hcn
                  have HRK : Hid (rightK S k0' n.toNat (i + 1) = rightK S k0' n.toNat i ++ [y.text]) := rightK_in HSY.out hik (by omega)
                  have cL : w1r.cell? ⟨bo, 4, none⟩ = some vR := HO6.out.box 4 _ rfl
                  have hll : (rightK S k0' n.toNat i).length ≤ 14 := by unfold rightK; rw [List.length_take, List.length_drop, List.length_take]; have := HSL.out; omega
                  have HO7 : Hid (World.ownsRow w1r w4.heap.size 9 1 vR (rightK S k0' n.toNat i).length ((rightK S k0' n.toNat i).map .string)) := HO6.out.right
                  have HTH6 : Hid (w1r.there bo 0 5) := HB6.out.keep 5 HTH4.out
                  clear hcn hik
                  go_wp2_with (at_builtin; refine wpList_app1 rfl (.tmp 87) (.tmp 90) 33 rfl w4.heap.size 9 16 (.string .empty) info_string rfl Tryz.underlying33 rfl HO7.out rfl rfl (by omega) (by omega) hsz6 ?_; rintro v8 w7 hown7 hb7 hs7 hk7; obtain ⟨A8, c8, rfl, _, _, _⟩ := own_form hown7; have HK7 := Lib.hid (hk7 _ _ _ _ _ _ HO6.out.left HO6.out.apart); have HOWN7 := Lib.hid hown7; have HB67 := Lib.hid hb7; have cL7 : w7.cell? ⟨bo, 4, none⟩ = some vR := (hb7.cell (p := ⟨bo, 4, none⟩) hbo).trans cL; have fL7 : w7.frozen? ⟨bo, 4, none⟩ = false := (hb7.frozen (p := ⟨bo, 4, none⟩) hbo).trans (HTH6.out 4 (by omega)).2; clear hk7 hown7 hb7 cL r6)
                  have HO8 : Hid (OutR (w7.setCells bo 4 [.slice A8 ((rightK S k0' n.toNat i).length + 1) c8]) bo w4.heap.size rid id x.text vL (.slice A8 ((rightK S k0' n.toNat i).length + 1) c8) (leftK S k0' n.toNat (i + 1)) (rightK S k0' n.toNat (i + 1))) := by
                    show OutR _ _ _ _ _ _ _ _ _ _
                    rw [HLK.out, HRK.out]
                    exact HO6.out.putR hbo hsz6 HB67.out HOWN7.out HK7.out
                  have HB8 : Hid (BelowX bo w4 (w7.setCells bo 4 [.slice A8 ((rightK S k0' n.toNat i).length + 1) c8])) := (HB6.out.base HB67.out hbo).trans (BelowX.setAt w7 bo 4 [.slice A8 ((rightK S k0' n.toNat i).length + 1) c8])
                  clear HK7 HOWN7 HB67 cL7 fL7 HO6 HO7
                  go_wp2
                  go_roundw
                  case rel => exact ⟨i + 1, vL, (.slice A8 ((rightK S k0' n.toNat i).length + 1) c8), HI.out, by go_num, HO8, HB8⟩
                  case measure => have := HI.out; simp [intOf]; omega
                · have hcnd : decide ((i : Int) - (k0' : Int) ≤ n) = false := decide_eq_false hcn
                  have HRK : Hid (rightK S k0' n.toNat (i + 1) = rightK S k0' n.toNat i) := rightK_out HSY.out (by omega)
                  have HO8 : Hid (OutR w1r bo w4.heap.size rid id x.text vL vR (leftK S k0' n.toNat (i + 1)) (rightK S k0' n.toNat (i + 1))) := by
                    show OutR _ _ _ _ _ _ _ _ _ _
                    rw [HLK.out, HRK.out]
                    exact HO6.out
                  clear hik r6 HO6
                  go_wp2
                  go_roundw
                  case rel => exact ⟨i + 1, vL, vR, HI.out, by go_num, HO8, HB6⟩
                  case measure => have := HI.out; simp [intOf]; omega
          · obtain rfl : m = i := by omega
            have hiz : ¬ (m : Int) < (m : Int) := by omega
            have HTQ : Hid (w5.there (w.heap.size + 1) 0 5) := HB5.out.there (by omega) (by omega) HTQ4.out
            have HRQ : Hid (w5.rangeAt (w.heap.size + 1) 0 [.int .i64 0, .int .i64 0, .slice none 0 0, .string ⟨#[]⟩, .slice none 0 0]) := HB5.out.range (by omega) (by omega) HRQ4.out
            have hrb := HO.out.box
            obtain ⟨A1, ca, e1, g1, g2, _⟩ := OwnS.form HO.out.left
            obtain ⟨A2, cb, e2, g3, g4, _⟩ := OwnS.form HO.out.right
            have HFA := Lib.hid (own_fresh (by have h9 := HO.out.left; rw [e1] at h9; exact h9))
            have HFB := Lib.hid (own_fresh (by have h9 := HO.out.right; rw [e2] at h9; exact h9))
            have HG1' := Lib.hid g1
            have HG3' := Lib.hid g3
            have hqb : w.heap.size + 1 < w4.heap.size := by omega
            subst e1
            subst e2
            clear g1 g3
            have c0 : w5.cell? ⟨w.heap.size + 1, 0, none⟩ = some (.int .i64 0) := HRQ.out 0 _ rfl
            have f0 : w5.frozen? ⟨w.heap.size + 1, 0, none⟩ = false := (HTQ.out 0 (by omega)).2
            have c1 : w5.cell? ⟨w.heap.size + 1, 1, none⟩ = some (.int .i64 0) := HRQ.out 1 _ rfl
            have f1 : w5.frozen? ⟨w.heap.size + 1, 1, none⟩ = false := (HTQ.out 1 (by omega)).2
            have c2 : w5.cell? ⟨w.heap.size + 1, 2, none⟩ = some (.slice none 0 0) := HRQ.out 2 _ rfl
            have f2 : w5.frozen? ⟨w.heap.size + 1, 2, none⟩ = false := (HTQ.out 2 (by omega)).2
            have c3 : w5.cell? ⟨w.heap.size + 1, 3, none⟩ = some (.string ⟨#[]⟩) := HRQ.out 3 _ rfl
            have f3 : w5.frozen? ⟨w.heap.size + 1, 3, none⟩ = false := (HTQ.out 3 (by omega)).2
            have c4 : w5.cell? ⟨w.heap.size + 1, 4, none⟩ = some (.slice none 0 0) := HRQ.out 4 _ rfl
            have f4 : w5.frozen? ⟨w.heap.size + 1, 4, none⟩ = false := (HTQ.out 4 (by omega)).2
            have o0 : w5.cell? ⟨bo, 0, none⟩ = some (.int .i64 rid) := hrb 0 _ rfl
            have o1 : w5.cell? ⟨bo, 1, none⟩ = some (.int .i64 id) := hrb 1 _ rfl
            have o2 : w5.cell? ⟨bo, 2, none⟩ = some (.slice A1 _ ca) := hrb 2 _ rfl
            have o3 : w5.cell? ⟨bo, 3, none⟩ = some (.string x.text) := hrb 3 _ rfl
            have o4 : w5.cell? ⟨bo, 4, none⟩ = some (.slice A2 _ cb) := hrb 4 _ rfl
            clear hrb
            go_wp2
            (try simp only [Exit.inBlock, Exit.then])
            have hX := BelowX.setAt w5 (w.heap.size + 1) 0 [.int .i64 rid, .int .i64 id, .slice A1 (leftK S k0' n.toNat m).length ca, .string x.text, .slice A2 (rightK S k0' n.toNat m).length cb]
            have hOL : OwnS (w5.setCells (w.heap.size + 1) 0 [.int .i64 rid, .int .i64 id, .slice A1 (leftK S k0' n.toNat m).length ca, .string x.text, .slice A2 (rightK S k0' n.toNat m).length cb]) w4.heap.size (.slice A1 (leftK S k0' n.toNat m).length ca) (leftK S k0' n.toNat m) := ownsRow_X HO.out.left hqb hX
            have hOR : OwnS (w5.setCells (w.heap.size + 1) 0 [.int .i64 rid, .int .i64 id, .slice A1 (leftK S k0' n.toNat m).length ca, .string x.text, .slice A2 (rightK S k0' n.toNat m).length cb]) w4.heap.size (.slice A2 (rightK S k0' n.toNat m).length cb) (rightK S k0' n.toNat m) := ownsRow_X HO.out.right hqb hX
            refine bodyPost_ret (v := .tuple #[.agg #[.int .i64 rid, .int .i64 id, .slice A1 (leftK S k0' n.toNat m).length ca, .string x.text, .slice A2 (rightK S k0' n.toNat m).length cb], .bool true]) ?_ rfl ?_
            · exact results_cell_of rfl _ _ (w.heap.size + 1) [.int .i64 rid, .int .i64 id, .slice A1 (leftK S k0' n.toNat m).length ca, .string x.text, .slice A2 (rightK S k0' n.toNat m).length cb] _ _ rfl rfl (World.rangeAt_setCells_same w5 (w.heap.size + 1) 0 [.int .i64 rid, .int .i64 id, .slice A1 (leftK S k0' n.toNat m).length ca, .string x.text, .slice A2 (rightK S k0' n.toNat m).length cb] HTQ.out) Tryz.underlying35 rfl (by kernel_rfl)
            · refine ⟨({ toHt := { rid := rid, nid := id, left := leftK S k0' n.toNat m, key := x.text, right := rightK S k0' n.toNat m }, la := A1, ln := (leftK S k0' n.toNat m).length, lc := ca, ra := A2, rn := (rightK S k0' n.toNat m).length, rc := cb } : Hv), by rw [HGX.out]; rfl, ?_, ⟨?_, ?_, ⟨HG1'.out, g2⟩, ⟨HG3'.out, g4⟩⟩, ⟨fun ad h => ⟨Nat.le_trans (by omega) (HFA.out ad h), own_lt hOL ad h⟩, fun ad h => ⟨Nat.le_trans (by omega) (HFB.out ad h), own_lt hOR ad h⟩⟩, ?_⟩
              · rw [HHIT.out, leftK_all HSL.out haS, rightK_all HSL.out]
                rfl
              · obtain ⟨_, _, e, _, _, h3⟩ := OwnS.form hOL
                cases e
                exact h3
              · obtain ⟨_, _, e, _, _, h3⟩ := OwnS.form hOR
                cases e
                exact h3
              · exact below_set (w := w5) (b := w.heap.size + 1) (o := 0) (vs := [.int .i64 rid, .int .i64 id, .slice A1 (leftK S k0' n.toNat m).length ca, .string x.text, .slice A2 (rightK S k0' n.toNat m).length cb]) HBW5.out (by omega) HBW5.out.size
      · have hzb : (z != id) = true := bne_iff_ne.2 hzi
        have hk1 : k + 1 ≤ k0' := by
          rcases Nat.lt_or_ge k k0' with h | h
          · exact h
          · exfalso
            have : k = k0' := by omega
            subst this
            have h9 := HK0.out
            rw [HZZ.out] at h9
            exact hzi (Option.some.inj h9)
        have HH1 := Lib.hid hk1
        clear hzi
        go_wp2
        go_round
        case rel => exact ⟨k + 1, HH1.out, by go_num⟩
        case measure => have := HH1.out; simp [intOf]; omega
end Go.Proofs.YtdpllfgnppeneaaGreatDoor
