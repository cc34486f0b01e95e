import Derived.Test.YthcabnfcgjnlnaaGreatDoorK14
/-
  PLAIN LAW: the rows of an interlinear example: forms and glosses of the words of a note; the translations of a note. No program in sight.
-/
set_option linter.unusedVariables false
set_option linter.unusedSimpArgs false
namespace Go.Proofs.YthcabnfcgjnlnaaGreatDoor
open Go.RowKit Ru Lay Srt Col

/-- Whether a word's forms are shown. -/
def shownB (T : List Ti) (l : List Nt) (id : Int) : Bool := wordB T l id && readyB T
/-- The texts of the morphemes of a word. -/
def formsL (T : List Ti) (l : List Nt) (id : Int) : List ByteArray := if shownB T l id = true then (kidsL T.length l id (roleT T 3)).map (textN l) else []
/-- The gloss of a morpheme. -/
def glossT (T : List Ti) (l : List Nt) (m : Int) : ByteArray := (kidsL T.length l m (roleT T 4)).foldl (fun _ k => textN l k) ⟨#[]⟩
def glossesL (T : List Ti) (l : List Nt) (id : Int) : List ByteArray := if shownB T l id = true then (kidsL T.length l id (roleT T 3)).map (glossT T l) else []
theorem glosses_len {T : List Ti} {l : List Nt} {id : Int} : (glossesL T l id).length = (formsL T l id).length := by
  unfold glossesL formsL
  split
  · rw [List.length_map, List.length_map]
  · rfl
theorem forms_len {T : List Ti} {l : List Nt} {id : Int} : (formsL T l id).length ≤ l.length := by
  unfold formsL
  split
  · rw [List.length_map]; exact kidsL_len
  · exact Nat.zero_le _
theorem foldl_take {α : Type} (f : Int → α) (z : α) {l : List Int} {i : Nat} {k : Int} (h : l[i]? = some k) : (l.take (i + 1)).foldl (fun _ k => f k) z = f k := by
  rw [List.take_add_one, h, List.foldl_append]
  rfl
/-- Strings, joined by minus signs. -/
def joinD (l : List ByteArray) : ByteArray := ⟨(Lib.join (l.map (·.data.toList)) [45]).toArray⟩
theorem lens_le {l : List ByteArray} {m : Nat} (h : ∀ s ∈ l, s.size ≤ m) : Lib.lens (l.map (·.data.toList)) ≤ l.length * m := by
  induction l with
  | nil => simp [Lib.lens]
  | cons a r ih =>
    have h1 := ih fun s hs => h s (List.mem_cons_of_mem _ hs)
    have h2 := h a List.mem_cons_self
    have h3 : a.data.toList.length = a.size := Array.length_toList
    unfold Lib.lens at h1 ⊢
    rw [List.map_cons, List.map_cons, List.sum_cons, List.length_cons, Nat.succ_mul]
    omega
theorem joinD_sz {l : List ByteArray} {m : Nat} (h : ∀ s ∈ l, s.size ≤ m) : (joinD l).size ≤ l.length * (m + 1) := by
  have h1 := lens_le h
  unfold joinD
  show (List.toArray _).size ≤ _
  rw [List.size_toArray]
  cases l with
  | nil => simp [Lib.join_nil]
  | cons a r =>
    unfold Lib.lens at h1
    rw [List.map_cons, List.map_cons, List.sum_cons] at h1
    rw [List.map_cons, Lib.join_cons, List.length_append, Lib.joinTail_length]
    unfold Lib.lens
    rw [List.length_map]
    simp only [List.length_cons, List.length_singleton, List.length_nil] at h1 ⊢
    have : (r.length + 1) * (m + 1) = (r.length + 1) * m + (r.length + 1) := Nat.mul_succ _ _
    omega
/-- The rows of a note. -/
def row1 (T : List Ti) (l : List Nt) (ws : List Int) : List ByteArray := ws.map (textN l)
def row2 (T : List Ti) (l : List Nt) (ws : List Int) : List ByteArray := ws.map fun x => joinD (formsL T l x)
def row3 (T : List Ti) (l : List Nt) (ws : List Int) : List ByteArray := ws.map fun x => joinD (glossesL T l x)
def someB (T : List Ti) (l : List Nt) (ws : List Int) : Bool := ws.any fun x => decide (0 < (formsL T l x).length)
def rowsW (T : List Ti) (l : List Nt) (ws : List Int) : List (List ByteArray) := if someB T l ws = true then [row1 T l ws, row2 T l ws, row3 T l ws] else [row1 T l ws]
def rowsL (T : List Ti) (l : List Nt) (id : Int) (K : Nat) : List (List ByteArray) :=
  if (getN l id).isSome = true then (if wordsL T l id K = [] then [[textN l id]] else rowsW T l (wordsL T l id K)) else []
theorem someB_next {T : List Ti} {l : List Nt} {ws : List Int} {i : Nat} {x : Int} (h : ws[i]? = some x) : someB T l (ws.take (i + 1)) = (someB T l (ws.take i) || decide (0 < (formsL T l x).length)) := by
  unfold someB
  rw [List.take_add_one, h, List.any_append]
  simp
theorem map_next {α : Type} (f : Int → α) {ws : List Int} {i : Nat} {x : Int} (h : ws[i]? = some x) : (ws.take (i + 1)).map f = (ws.take i).map f ++ [f x] := by
  rw [List.take_add_one, h, List.map_append]
  rfl
/-- Notes whose texts are short. -/
def TxtZ (l : List Nt) : Prop := ∀ x ∈ l, x.text.size ≤ 200
theorem textN_sz {l : List Nt} (h : TxtZ l) (id : Int) : (textN l id).size ≤ 200 := by
  unfold textN
  cases e : getN l id with
  | none => exact Nat.zero_le _
  | some x => exact h x (List.mem_of_find?_eq_some (by unfold getN at e; exact e))
theorem forms_sz {T : List Ti} {l : List Nt} (h : TxtZ l) {id : Int} : ∀ s ∈ formsL T l id, s.size ≤ 200 := fun s hs => by
  unfold formsL at hs
  split at hs
  · obtain ⟨k, _, rfl⟩ := List.mem_map.1 hs
    exact textN_sz h k
  · cases hs
theorem glossT_sz {T : List Ti} {l : List Nt} (h : TxtZ l) (m : Int) : (glossT T l m).size ≤ 200 := by
  unfold glossT
  obtain ⟨ks, _⟩ : ∃ ks, kidsL T.length l m (roleT T 4) = ks := ⟨_, rfl⟩
  have : ∀ (ks : List Int) (z : ByteArray), z.size ≤ 200 → (ks.foldl (fun _ k => textN l k) z).size ≤ 200 := fun ks => by
    induction ks with
    | nil => exact fun z hz => hz
    | cons k ks ih => exact fun z hz => ih _ (textN_sz h k)
  exact this _ _ (Nat.zero_le _)
theorem glosses_sz {T : List Ti} {l : List Nt} (h : TxtZ l) {id : Int} : ∀ s ∈ glossesL T l id, s.size ≤ 200 := fun s hs => by
  unfold glossesL at hs
  split at hs
  · obtain ⟨k, _, rfl⟩ := List.mem_map.1 hs
    exact glossT_sz h k
  · cases hs
theorem wordsL_len {T : List Ti} {l : List Nt} {id : Int} {K : Nat} : (wordsL T l id K).length ≤ l.length := by
  unfold wordsL
  exact Nat.le_trans (List.length_filter_le _ _) ofI_len
theorem rowsL_sz {T : List Ti} {l : List Nt} {id : Int} {K : Nat} (h : TxtZ l) (hn : l.length ≤ 20) : SzL (rowsL T l id K) := by
  have h1 := fun x => textN_sz h x
  have h2 : ∀ x, (joinD (formsL T l x)).size ≤ 100000 := fun x => by
    have g1 := joinD_sz (forms_sz (T := T) h (id := x))
    have g2 := forms_len (T := T) (l := l) (id := x)
    have : (formsL T l x).length * (200 + 1) ≤ 20 * 201 := Nat.mul_le_mul_right 201 (by omega)
    omega
  have h3 : ∀ x, (joinD (glossesL T l x)).size ≤ 100000 := fun x => by
    have g1 := joinD_sz (glosses_sz (T := T) h (id := x))
    have g2 := forms_len (T := T) (l := l) (id := x)
    rw [glosses_len] at g1
    have : (formsL T l x).length * (200 + 1) ≤ 20 * 201 := Nat.mul_le_mul_right 201 (by omega)
    omega
  have hw := wordsL_len (T := T) (l := l) (id := id) (K := K)
  have r1 : SzR (row1 T l (wordsL T l id K)) := ⟨by unfold row1; rw [List.length_map]; omega, fun s hs => by
    obtain ⟨x, _, rfl⟩ := List.mem_map.1 hs
    have := h1 x
    omega⟩
  have r2 : SzR (row2 T l (wordsL T l id K)) := ⟨by unfold row2; rw [List.length_map]; omega, fun s hs => by
    obtain ⟨x, _, rfl⟩ := List.mem_map.1 hs
    exact h2 x⟩
  have r3 : SzR (row3 T l (wordsL T l id K)) := ⟨by unfold row3; rw [List.length_map]; omega, fun s hs => by
    obtain ⟨x, _, rfl⟩ := List.mem_map.1 hs
    exact h3 x⟩
  unfold rowsL rowsW
  split
  · split
    · refine ⟨by simp, fun r hr => ?_⟩
      rw [List.mem_singleton] at hr
      subst hr
      refine ⟨by simp, fun s hs => ?_⟩
      rw [List.mem_singleton] at hs
      subst hs
      have := h1 id
      omega
    · split
      · refine ⟨by simp, fun r hr => ?_⟩
        simp only [List.mem_cons, List.not_mem_nil, or_false] at hr
        rcases hr with rfl | rfl | rfl
        · exact r1
        · exact r2
        · exact r3
      · refine ⟨by simp, fun r hr => ?_⟩
        rw [List.mem_singleton] at hr
        subst hr
        exact r1
  · exact ⟨Nat.zero_le _, fun r hr => by cases hr⟩
/-- Those of a tier's notes whose parent is a note. -/
def kidF (T : List Ti) (l : List Nt) (id tier : Int) : List Int := (ofI T l tier).filter fun k => decide (((getN l k).getD nt0).parent = id)
/-- A text between quotation marks. -/
def quoB (s : ByteArray) : ByteArray := ⟨#[34]⟩ ++ s ++ ⟨#[34]⟩
/-- The lines of an example. -/
def exL (T : List Ti) (l : List Nt) (id : Int) (K : Nat) (WD : Int) : List ByteArray :=
  if (getN l id).isSome = true then wrapL (rowsL T l id K) WD ++ (kidF T l id (roleT T 5)).map fun x => quoB (textN l x) else []
end Go.Proofs.YthcabnfcgjnlnaaGreatDoor
/-
  Documents, as they are read; provenance.Doc.
-/
namespace Go.Proofs.YthcabnfcgjnlnaaGreatDoor
open Go.RowKit Ru Lay
attribute [local go_sem ↓] Go.wp_at_zero Go.wp_at_succ
set_option linter.unusedVariables false
set_option linter.unusedSimpArgs false

def encD (d : Dv) : List Value := [.int .i64 d.rid, .string d.name, .int .i64 d.len, .int .i64 d.day, .slice d.sa d.sn d.sc, .slice d.ta d.tn d.tc, .slice d.na d.nn d.nc]
def dv0 : Dv := ⟨0, ⟨#[]⟩, 0, 0, none, 0, 0, none, 0, 0, none, 0, 0⟩
/-- A document, its tiers and its notes. -/
structure Dc where
  d : Dv
  T : List Ti
  l : List Nt
instance : Inhabited Dc := ⟨⟨dv0, [], []⟩⟩
def encC (x : Dc) : List Value := encD x.d
theorem encC_len (x : Dc) : (encC x).length = 7 := rfl
/-- A slice of documents, as it is read. -/
def DcsR (w : World) (B : Nat) (A : Option Addr) (n : Nat) (D : List Dc) : Prop := RecR encC 7 w B A n D ∧ ∀ x ∈ D, TiersR w B x.d.ta x.d.tn x.T ∧ NotesR w B x.d.na x.d.nn x.l
theorem DcsR.on {w w' : World} {n : Nat} {A : Option Addr} {D : List Dc} (h : DcsR w w.heap.size A n D) (hb : Below w.heap.size w w') : DcsR w' w'.heap.size A n D := ⟨RecR.on h.1 hb, fun x hx => ⟨(h.2 x hx).1.on hb, (h.2 x hx).2.on hb⟩⟩
theorem DcsR.len {w : World} {B n : Nat} {A : Option Addr} {D : List Dc} (h : DcsR w B A n D) : D.length = n := h.1.2
theorem DcsR.at_ {w : World} {B n k : Nat} {A : Option Addr} {D : List Dc} (hh : DcsR w B A n D) (hk : k < n) :
    ∃ ad x, A = some ad ∧ ad.block < B ∧ D[k]? = some x ∧ x ∈ D ∧ ∀ W, Below B w W → W.cell? (ad.add (k * 7)) = some (.int .i64 x.d.rid) ∧ W.cell? ⟨(ad.add (k * 7)).block, (ad.add (k * 7)).off + 1, none⟩ = some (.string x.d.name) ∧ W.cell? ⟨(ad.add (k * 7)).block, (ad.add (k * 7)).off + 2, none⟩ = some (.int .i64 x.d.len) ∧ W.cell? ⟨(ad.add (k * 7)).block, (ad.add (k * 7)).off + 3, none⟩ = some (.int .i64 x.d.day) ∧ W.cell? ⟨(ad.add (k * 7)).block, (ad.add (k * 7)).off + 4, none⟩ = some (.slice x.d.sa x.d.sn x.d.sc) ∧ W.cell? ⟨(ad.add (k * 7)).block, (ad.add (k * 7)).off + 5, none⟩ = some (.slice x.d.ta x.d.tn x.d.tc) ∧ W.cell? ⟨(ad.add (k * 7)).block, (ad.add (k * 7)).off + 6, none⟩ = some (.slice x.d.na x.d.nn x.d.nc) := by
  obtain ⟨ad, x, e, hb, hx, _, _⟩ := RecR.at_ encC_len (by omega) hh.1 hk
  refine ⟨ad, x, e, hb, hx, List.mem_of_getElem? hx, fun W hW => ?_⟩
  obtain ⟨ad', x', e', _, hx', h0, hj⟩ := RecR.at_ encC_len (by omega) (RecR.below hh.1 hW) hk
  rw [e] at e'
  cases e'
  rw [hx] at hx'
  cases hx'
  exact ⟨h0 _ rfl, hj 1 _ (by omega) rfl, hj 2 _ (by omega) rfl, hj 3 _ (by omega) rfl, hj 4 _ (by omega) rfl, hj 5 _ (by omega) rfl, hj 6 _ (by omega) rfl⟩
/-- The first document of a recording. -/
def docF (D : List Dc) (rec : Int) : Option Dc := D.find? fun x => decide (x.d.rid = rec)
theorem docF_here {D : List Dc} {rec : Int} : ∀ {k : Nat} {x : Dc}, (∀ j y, j < k → D[j]? = some y → y.d.rid ≠ rec) → D[k]? = some x → x.d.rid = rec → docF D rec = some x := by
  induction D with
  | nil => intro k x _ hx; simp at hx
  | cons y t ih =>
    intro k x hp hx h
    unfold docF
    cases k with
    | zero =>
      simp at hx
      subst hx
      rw [List.find?_cons_of_pos (by simpa using h)]
    | succ k =>
      rw [List.find?_cons_of_neg (by simpa using hp 0 y (by omega) rfl)]
      rw [List.getElem?_cons_succ] at hx
      exact ih (fun j z hj hz => hp (j + 1) z (by omega) (by rw [List.getElem?_cons_succ]; exact hz)) hx h
theorem docF_none {D : List Dc} {rec : Int} (hp : ∀ j y, j < D.length → D[j]? = some y → y.d.rid ≠ rec) : docF D rec = none := by
  unfold docF
  rw [List.find?_eq_none]
  intro x hx
  obtain ⟨j, hj⟩ := List.getElem?_of_mem hx
  simpa using hp j x (List.getElem?_eq_some_iff.1 hj).1 hj
theorem docF_mem {D : List Dc} {rec : Int} {x : Dc} (h : docF D rec = some x) : x ∈ D ∧ x.d.rid = rec := by
  unfold docF at h
  exact ⟨List.mem_of_find?_eq_some h, by simpa using List.find?_some h⟩
/-- A document that is right and small. -/
structure DcOk (x : Dc) : Prop where
  ok : DocOk x.T x.l
  nn : x.d.nn ≤ 14
  tn : x.d.tn ≤ 6
def docFV (o : Option Dc) : Value := .tuple #[docV ((o.map Dc.d).getD dv0), .bool o.isSome]
set_option maxHeartbeats 4000000 in
set_option maxRecDepth 100000 in
theorem docP_any (A : Option Addr) (n c : Nat) (D : List Dc) (rec : Int) (w : World) (hD : DcsR w w.heap.size A n D) (hn : n ≤ 9223372036854775807) :
    Calls Tryz.prog 50 #[.slice A n c, .int .i64 rec] w fun e w' => e = .returned (docFV (docF D rec)) ∧ Below w.heap.size w w' := by
  have HL := Lib.hid hD
  have HLN := Lib.hid hD.len
  clear hD
  go_enter Tryz.func50, Tryz.ntmps50
  go_wp2_with fail
  obtain ⟨W0, hW0⟩ : ∃ W0, w.alloc (.cells #[.int .i64 0, .string ⟨#[]⟩, .int .i64 0, .int .i64 0, .slice none 0 0, .slice none 0 0, .slice none 0 0] 38) = W0 := ⟨_, rfl⟩
  have HB : Hid (Below w.heap.size w W0) := by rw [← hW0]; exact (Below.refl _ w).alloc (Nat.le_refl _) _
  have hz0 : W0.heap.size = w.heap.size + 1 := by rw [← hW0]; simp
  have HTH : Hid (W0.there w.heap.size 0 7) := by
    have h := there_new w #[.int .i64 0, .string ⟨#[]⟩, .int .i64 0, .int .i64 0, .slice none 0 0, .slice none 0 0, .slice none 0 0] 38
    rw [hW0] at h
    exact h
  have HRG : Hid (W0.rangeAt w.heap.size 0 [.int .i64 0, .string ⟨#[]⟩, .int .i64 0, .int .i64 0, .slice none 0 0, .slice none 0 0, .slice none 0 0]) := fun j v hv => by
    rw [← hW0, Nat.zero_add, World.cell?_alloc_new, ← hv, ← List.getElem?_toArray]
  (try rw [hW0])
  clear hW0
  go_loopw [7, 10] (fun v7 v10 wr => ∃ i : Nat, i ≤ n ∧ v10 = .int .i64 i ∧ Hid (∀ j y, j < i → D[j]? = some y → y.d.rid ≠ rec) ∧ Hid (Below W0.heap.size W0 wr)) (fun _ v10 _ => n - (intOf v10).toNat)
  case atStart => exact ⟨0, Nat.zero_le _, rfl, fun j y h => by omega, Below.refl _ _⟩
  case round =>
    obtain ⟨i, hi, rfl, HP, HB0⟩ := hrel
    have hsz := HB0.out.size
    have hlt1 : w.heap.size < wr.heap.size := by omega
    have HTW := Lib.hid (there_below HB0.out (by omega) HTH.out)
    have HRW := Lib.hid (range_below HB0.out (by omega) HRG.out)
    by_cases hlt : i < n
    · have hiz : (i : Int) < (n : Int) := by omega
      have hiA : (0 : Int) ≤ (i : Int) := by omega
      obtain ⟨ad, x, rfl, hab, hx, hxm, hcells⟩ := HL.out.at_ hlt
      obtain ⟨q0, q1, q2, q3, q4, q5, q6⟩ := hcells wr (HB.out.trans (HB0.out.mono HB.out.size))
      have HX := Lib.hid hx
      have HI := Lib.hid hlt
      clear hx hcells hxm
      by_cases he : x.d.rid = rec
      · have HG : Hid (docF D rec = some x) := docF_here HP.out HX.out he
        have hbe : (x.d.rid == rec) = true := beq_iff_eq.2 he
        clear he
        have c0 : wr.cell? ⟨w.heap.size, 0, none⟩ = some (.int .i64 0) := HRW.out 0 (.int .i64 0) rfl
        have f0 : wr.frozen? ⟨w.heap.size, 0, none⟩ = false := (HTW.out 0 (by omega)).2
        have c1 : wr.cell? ⟨w.heap.size, 1, none⟩ = some (.string ⟨#[]⟩) := HRW.out 1 (.string ⟨#[]⟩) rfl
        have f1 : wr.frozen? ⟨w.heap.size, 1, none⟩ = false := (HTW.out 1 (by omega)).2
        have c2 : wr.cell? ⟨w.heap.size, 2, none⟩ = some (.int .i64 0) := HRW.out 2 (.int .i64 0) rfl
        have f2 : wr.frozen? ⟨w.heap.size, 2, none⟩ = false := (HTW.out 2 (by omega)).2
        have c3 : wr.cell? ⟨w.heap.size, 3, none⟩ = some (.int .i64 0) := HRW.out 3 (.int .i64 0) rfl
        have f3 : wr.frozen? ⟨w.heap.size, 3, none⟩ = false := (HTW.out 3 (by omega)).2
        have c4 : wr.cell? ⟨w.heap.size, 4, none⟩ = some (.slice none 0 0) := HRW.out 4 (.slice none 0 0) rfl
        have f4 : wr.frozen? ⟨w.heap.size, 4, none⟩ = false := (HTW.out 4 (by omega)).2
        have c5 : wr.cell? ⟨w.heap.size, 5, none⟩ = some (.slice none 0 0) := HRW.out 5 (.slice none 0 0) rfl
        have f5 : wr.frozen? ⟨w.heap.size, 5, none⟩ = false := (HTW.out 5 (by omega)).2
        have c6 : wr.cell? ⟨w.heap.size, 6, none⟩ = some (.slice none 0 0) := HRW.out 6 (.slice none 0 0) rfl
        have f6 : wr.frozen? ⟨w.heap.size, 6, none⟩ = false := (HTW.out 6 (by omega)).2
        go_wp2
        (try simp only [Exit.inBlock, Exit.then])
        refine bodyPost_ret (v := .tuple #[.agg #[.int .i64 x.d.rid, .string x.d.name, .int .i64 x.d.len, .int .i64 x.d.day, .slice x.d.sa x.d.sn x.d.sc, .slice x.d.ta x.d.tn x.d.tc, .slice x.d.na x.d.nn x.d.nc], .bool true]) ?_ rfl ⟨by rw [HG.out]; rfl, ?_⟩
        · refine results_cell_of rfl _ _ w.heap.size [.int .i64 x.d.rid, .string x.d.name, .int .i64 x.d.len, .int .i64 x.d.day, .slice x.d.sa x.d.sn x.d.sc, .slice x.d.ta x.d.tn x.d.tc, .slice x.d.na x.d.nn x.d.nc] _ _ ?_ ?_ ?_ Tryz.underlying38 rfl (by kernel_rfl)
          · rfl
          · rfl
          · exact World.rangeAt_alloc (World.rangeAt_setCells_same wr w.heap.size 0 [.int .i64 x.d.rid, .string x.d.name, .int .i64 x.d.len, .int .i64 x.d.day, .slice x.d.sa x.d.sn x.d.sc, .slice x.d.ta x.d.tn x.d.tc, .slice x.d.na x.d.nn x.d.nc] HTW.out) _
        · have hbs := below_set (w := wr) (b := w.heap.size) (o := 0) (vs := [.int .i64 x.d.rid, .string x.d.name, .int .i64 x.d.len, .int .i64 x.d.day, .slice x.d.sa x.d.sn x.d.sc, .slice x.d.ta x.d.tn x.d.tc, .slice x.d.na x.d.nn x.d.nc]) (HB.out.trans (HB0.out.mono HB.out.size)) (Nat.le_refl _) (by omega)
          exact hbs.alloc (by rw [heap_setCells_size]; omega) _
      · have hbe : (x.d.rid == rec) = false := beq_eq_false_iff_ne.2 he
        have HP2 := Lib.hid (pre_step HP.out HX.out he)
        have HB1 : Hid (Below W0.heap.size W0 (wr.alloc (.cells #[.int .i64 x.d.rid, .string x.d.name, .int .i64 x.d.len, .int .i64 x.d.day, .slice x.d.sa x.d.sn x.d.sc, .slice x.d.ta x.d.tn x.d.tc, .slice x.d.na x.d.nn x.d.nc] 38))) := HB0.out.alloc hsz _
        clear he
        go_wp2
        go_roundw
        case rel => exact ⟨i + 1, HI.out, by go_num, HP2, HB1⟩
        case measure => have := HI.out; simp [intOf]; omega
    · obtain rfl : n = i := by omega
      have hiz : ¬ (n : Int) < (n : Int) := by omega
      have HG : Hid (docF D rec = none) := docF_none fun j y hj => HP.out j y (by rw [← HLN.out]; exact hj)
      have c0 : wr.cell? ⟨w.heap.size, 0, none⟩ = some (.int .i64 0) := HRW.out 0 (.int .i64 0) rfl
      have f0 : wr.frozen? ⟨w.heap.size, 0, none⟩ = false := (HTW.out 0 (by omega)).2
      have c1 : wr.cell? ⟨w.heap.size, 1, none⟩ = some (.string ⟨#[]⟩) := HRW.out 1 (.string ⟨#[]⟩) rfl
      have f1 : wr.frozen? ⟨w.heap.size, 1, none⟩ = false := (HTW.out 1 (by omega)).2
      have c2 : wr.cell? ⟨w.heap.size, 2, none⟩ = some (.int .i64 0) := HRW.out 2 (.int .i64 0) rfl
      have f2 : wr.frozen? ⟨w.heap.size, 2, none⟩ = false := (HTW.out 2 (by omega)).2
      have c3 : wr.cell? ⟨w.heap.size, 3, none⟩ = some (.int .i64 0) := HRW.out 3 (.int .i64 0) rfl
      have f3 : wr.frozen? ⟨w.heap.size, 3, none⟩ = false := (HTW.out 3 (by omega)).2
      have c4 : wr.cell? ⟨w.heap.size, 4, none⟩ = some (.slice none 0 0) := HRW.out 4 (.slice none 0 0) rfl
      have f4 : wr.frozen? ⟨w.heap.size, 4, none⟩ = false := (HTW.out 4 (by omega)).2
      have c5 : wr.cell? ⟨w.heap.size, 5, none⟩ = some (.slice none 0 0) := HRW.out 5 (.slice none 0 0) rfl
      have f5 : wr.frozen? ⟨w.heap.size, 5, none⟩ = false := (HTW.out 5 (by omega)).2
      have c6 : wr.cell? ⟨w.heap.size, 6, none⟩ = some (.slice none 0 0) := HRW.out 6 (.slice none 0 0) rfl
      have f6 : wr.frozen? ⟨w.heap.size, 6, none⟩ = false := (HTW.out 6 (by omega)).2
      go_wp2
      (try simp only [Exit.inBlock, Exit.then])
      refine bodyPost_ret (v := .tuple #[.agg #[.int .i64 0, .string ⟨#[]⟩, .int .i64 0, .int .i64 0, .slice none 0 0, .slice none 0 0, .slice none 0 0], .bool false]) ?_ rfl ⟨by rw [HG.out]; rfl, ?_⟩
      · refine results_cell_of rfl _ _ w.heap.size [.int .i64 0, .string ⟨#[]⟩, .int .i64 0, .int .i64 0, .slice none 0 0, .slice none 0 0, .slice none 0 0] _ _ ?_ ?_ ?_ Tryz.underlying38 rfl (by kernel_rfl)
        · rfl
        · rfl
        · exact World.rangeAt_setCells_same wr w.heap.size 0 [.int .i64 0, .string ⟨#[]⟩, .int .i64 0, .int .i64 0, .slice none 0 0, .slice none 0 0, .slice none 0 0] HTW.out
      · exact below_set (w := wr) (b := w.heap.size) (o := 0) (vs := [.int .i64 0, .string ⟨#[]⟩, .int .i64 0, .int .i64 0, .slice none 0 0, .slice none 0 0, .slice none 0 0]) (HB.out.trans (HB0.out.mono HB.out.size)) (Nat.le_refl _) (by omega)
end Go.Proofs.YthcabnfcgjnlnaaGreatDoor
/-
  gloss.find: the tiers of words, morphemes and glosses.
-/
namespace Go.Proofs.YthcabnfcgjnlnaaGreatDoor
open Go.RowKit Ru Lay
attribute [local go_sem ↓] Go.wp_at_zero Go.wp_at_succ
set_option linter.unusedVariables false
set_option linter.unusedSimpArgs false

theorem results_cell1_of {P : Program} {fn : Func} {p : Tmp} {ty : TypeId} (h : fn.results = #[.cell p ty]) (tmps : Array Value) (w : World) (b : Nat) (cs : List Value) (d : TypeDesc)
    (hp : tmps.getD p undef = .pointer (some ⟨b, 0, none⟩)) (hc : w.rangeAt b 0 cs) (hu : P.underlying ty = some d) (hd : d.isRow = true) (hi : (P.info? ty).map (·.size) = some cs.length) :
    (results fn tmps).run P w = .ok (.agg cs.toArray) w := by
  have hp' : tmps[p]?.getD undef = .pointer (some ⟨b, 0, none⟩) := by simpa using hp
  simp [results, h, hp', asAddr, run_loadVar_mid w b 0 ty cs d hc hu hd hi]
set_option maxHeartbeats 4000000 in
set_option maxRecDepth 100000 in
theorem find_any (d : Dv) (T : List Ti) (w : World) (hT : TiersR w w.heap.size d.ta d.tn T) (htn : d.tn ≤ 1000000) :
    Calls Tryz.prog 61 #[docV d] w fun e w' => e = .returned (.agg #[.int .i64 (roleT T 2), .int .i64 (roleT T 3), .int .i64 (roleT T 4)]) ∧ Below w.heap.size w w' := by
  have HRO := Lib.hid fun (W : World) (hW : Below w.heap.size w W) (r : Int) => role_any d.ta d.tn d.tc T r W (hT.on hW) (by omega)
  clear hT
  unfold docV
  obtain ⟨rid, name, len, day, sa, sn, sc, ta, tn, tc, na, nn, nc⟩ := d
  simp only at HRO htn ⊢
  have R2 := Lib.hid fun W hW => HRO.out W hW 2
  have R3 := Lib.hid fun W hW => HRO.out W hW 3
  have R4 := Lib.hid fun W hW => HRO.out W hW 4
  obtain ⟨a2, h2⟩ : ∃ a, roleT T 2 = a := ⟨_, rfl⟩
  obtain ⟨a3, h3⟩ : ∃ a, roleT T 3 = a := ⟨_, rfl⟩
  obtain ⟨a4, h4⟩ : ∃ a, roleT T 4 = a := ⟨_, rfl⟩
  rw [h2] at R2
  rw [h3] at R3
  rw [h4] at R4
  rw [h2, h3, h4]
  clear h2 h3 h4 HRO
  go_enter Tryz.func61, Tryz.ntmps61
  go_wp2_with fail
  obtain ⟨p, hp⟩ : ∃ p, w.heap.size = p := ⟨_, rfl⟩
  obtain ⟨W0, hW0⟩ : ∃ W0, ((w.alloc (.cells #[.int .i64 rid, .string name, .int .i64 len, .int .i64 day, .slice sa sn sc, .slice ta tn tc, .slice na nn nc] 38)).alloc (.cells #[.int .i64 0, .int .i64 0, .int .i64 0] 91)) = W0 := ⟨_, rfl⟩
  have hz0 : W0.heap.size = p + 1 + 1 := by rw [← hW0, ← hp]; simp
  have HB : Hid (Below w.heap.size w W0) := by rw [← hW0]; exact ((Below.refl _ w).alloc (Nat.le_refl _) _).alloc (by simp) _
  have HTH : Hid (W0.there (p + 1) 0 3) := by
    have h := there_new (w.alloc (.cells #[.int .i64 rid, .string name, .int .i64 len, .int .i64 day, .slice sa sn sc, .slice ta tn tc, .slice na nn nc] 38)) #[.int .i64 0, .int .i64 0, .int .i64 0] 91
    rw [hW0] at h
    show W0.there _ _ _
    rw [← hp]
    simpa using h
  have HD : Hid (∀ W, BelowX (p + 1) W0 W → W.rangeAt p 0 [.int .i64 rid, .string name, .int .i64 len, .int .i64 day, .slice sa sn sc, .slice ta tn tc, .slice na nn nc]) := fun W hW j v hv => by
    rw [hW.cell (p := ⟨p, 0 + j, none⟩) (by show p < _; omega) (by show p ≠ p + 1; omega)]
    rw [← hW0, World.cell?_alloc_lt _ _ _ (by rw [← hp]; simp), ← hp, Nat.zero_add, World.cell?_alloc_new w _ _ j, ← hv, ← List.getElem?_toArray]
  have HBX : Hid (∀ W, BelowX (p + 1) W0 W → Below w.heap.size w W) := fun W hW => HB.out.trans (hW.below (by omega) (by omega))
  replace R2 := Lib.hid fun W (hW : BelowX (p + 1) W0 W) => R2.out W (HBX.out W hW)
  replace R3 := Lib.hid fun W (hW : BelowX (p + 1) W0 W) => R3.out W (HBX.out W hW)
  replace R4 := Lib.hid fun W (hW : BelowX (p + 1) W0 W) => R4.out W (HBX.out W hW)
  rw [hW0]
  simp only [hp]
  clear hW0
  refine wp_region_toldX (q := (p + 1)) 10 [ToldX.is (.pointer (some ⟨p, 5, none⟩)), ToldX.is (.slice ta tn tc), ToldX.is (.int .i64 a2), ToldX.is (.pointer (some ⟨p, 5, none⟩)), ToldX.is (.slice ta tn tc), ToldX.is (.int .i64 a3), ToldX.is (.pointer (some ⟨p, 5, none⟩)), ToldX.is (.slice ta tn tc), ToldX.is (.int .i64 a4), ToldX.is (.agg #[.int .i64 a2, .int .i64 a3, .int .i64 a4]), ToldX.put (fun w => (p + 1) < w.heap.size ∧ w.rangeAt (p + 1) 0 [.int .i64 a2, .int .i64 a3, .int .i64 a4]) (fun w w' ⟨h0, h1⟩ hb => ⟨Nat.lt_of_lt_of_le h0 hb.size, range_below hb h0 h1⟩)] (by kernel_rfl) (by kernel_rfl) rfl ?_ ?_
  · refine And.intro (fun w1 vals hB hd a1 ha1 K hK => ?_) ?_
    · clear hd
      subst ha1
      simp only [putAll, Act.put, List.setIfInBounds_toArray, List.set_cons_zero, List.set_cons_succ] at hK ⊢
      obtain ⟨ve, hve⟩ : ∃ f : Nat → Value, f = vals := ⟨_, rfl⟩
      rw [← hve] at hK  ⊢
      clear hve
      refine gwp_none rfl ?_
      go_simp
      exact hK _ _ rfl (.inl (Below.refl _ _))
    refine And.intro (fun w1 vals hB hd a1 ha1 K hK => ?_) ?_
    · have e0 : vals 0 = .pointer (some ⟨p, 5, none⟩) := toldX_at (hd 0 rfl) rfl
      clear hd
      subst ha1
      simp only [putAll, Act.put, List.setIfInBounds_toArray, List.set_cons_zero, List.set_cons_succ] at hK ⊢
      simp only [e0] at hK ⊢
      obtain ⟨ve, hve⟩ : ∃ f : Nat → Value, f = vals := ⟨_, rfl⟩
      rw [← hve] at hK  ⊢
      clear e0 hve
      refine gwp_none rfl ?_
      have k5 : w1.cell? ⟨p, 5, none⟩ = some (.slice ta tn tc) := HD.out w1 hB 5 _ rfl
      go_simp
      exact hK _ _ rfl (.inl (Below.refl _ _))
    refine And.intro (fun w1 vals hB hd a1 ha1 K hK => ?_) ?_
    · have e1 : vals 1 = .slice ta tn tc := toldX_at (hd 1 rfl) rfl
      clear hd
      subst ha1
      simp only [putAll, Act.put, List.setIfInBounds_toArray, List.set_cons_zero, List.set_cons_succ] at hK ⊢
      simp only [e1] at hK ⊢
      obtain ⟨ve, hve⟩ : ∃ f : Nat → Value, f = vals := ⟨_, rfl⟩
      rw [← hve] at hK  ⊢
      clear e1 hve
      refine gwp_none rfl ?_
      go_simp
      refine (R2.out w1 hB).mono ?_
      rintro e w4 ⟨rfl, hb4⟩
      exact hK _ _ rfl (.inl hb4)
    refine And.intro (fun w1 vals hB hd a1 ha1 K hK => ?_) ?_
    · clear hd
      subst ha1
      simp only [putAll, Act.put, List.setIfInBounds_toArray, List.set_cons_zero, List.set_cons_succ] at hK ⊢
      obtain ⟨ve, hve⟩ : ∃ f : Nat → Value, f = vals := ⟨_, rfl⟩
      rw [← hve] at hK  ⊢
      clear hve
      refine gwp_none rfl ?_
      go_simp
      exact hK _ _ rfl (.inl (Below.refl _ _))
    refine And.intro (fun w1 vals hB hd a1 ha1 K hK => ?_) ?_
    · have e3 : vals 3 = .pointer (some ⟨p, 5, none⟩) := toldX_at (hd 3 rfl) rfl
      clear hd
      subst ha1
      simp only [putAll, Act.put, List.setIfInBounds_toArray, List.set_cons_zero, List.set_cons_succ] at hK ⊢
      simp only [e3] at hK ⊢
      obtain ⟨ve, hve⟩ : ∃ f : Nat → Value, f = vals := ⟨_, rfl⟩
      rw [← hve] at hK  ⊢
      clear e3 hve
      refine gwp_none rfl ?_
      have k5 : w1.cell? ⟨p, 5, none⟩ = some (.slice ta tn tc) := HD.out w1 hB 5 _ rfl
      go_simp
      exact hK _ _ rfl (.inl (Below.refl _ _))
    refine And.intro (fun w1 vals hB hd a1 ha1 K hK => ?_) ?_
    · have e4 : vals 4 = .slice ta tn tc := toldX_at (hd 4 rfl) rfl
      clear hd
      subst ha1
      simp only [putAll, Act.put, List.setIfInBounds_toArray, List.set_cons_zero, List.set_cons_succ] at hK ⊢
      simp only [e4] at hK ⊢
      obtain ⟨ve, hve⟩ : ∃ f : Nat → Value, f = vals := ⟨_, rfl⟩
      rw [← hve] at hK  ⊢
      clear e4 hve
      refine gwp_none rfl ?_
      go_simp
      refine (R3.out w1 hB).mono ?_
      rintro e w4 ⟨rfl, hb4⟩
      exact hK _ _ rfl (.inl hb4)
    refine And.intro (fun w1 vals hB hd a1 ha1 K hK => ?_) ?_
    · clear hd
      subst ha1
      simp only [putAll, Act.put, List.setIfInBounds_toArray, List.set_cons_zero, List.set_cons_succ] at hK ⊢
      obtain ⟨ve, hve⟩ : ∃ f : Nat → Value, f = vals := ⟨_, rfl⟩
      rw [← hve] at hK  ⊢
      clear hve
      refine gwp_none rfl ?_
      go_simp
      exact hK _ _ rfl (.inl (Below.refl _ _))
    refine And.intro (fun w1 vals hB hd a1 ha1 K hK => ?_) ?_
    · have e6 : vals 6 = .pointer (some ⟨p, 5, none⟩) := toldX_at (hd 6 rfl) rfl
      clear hd
      subst ha1
      simp only [putAll, Act.put, List.setIfInBounds_toArray, List.set_cons_zero, List.set_cons_succ] at hK ⊢
      simp only [e6] at hK ⊢
      obtain ⟨ve, hve⟩ : ∃ f : Nat → Value, f = vals := ⟨_, rfl⟩
      rw [← hve] at hK  ⊢
      clear e6 hve
      refine gwp_none rfl ?_
      have k5 : w1.cell? ⟨p, 5, none⟩ = some (.slice ta tn tc) := HD.out w1 hB 5 _ rfl
      go_simp
      exact hK _ _ rfl (.inl (Below.refl _ _))
    refine And.intro (fun w1 vals hB hd a1 ha1 K hK => ?_) ?_
    · have e7 : vals 7 = .slice ta tn tc := toldX_at (hd 7 rfl) rfl
      clear hd
      subst ha1
      simp only [putAll, Act.put, List.setIfInBounds_toArray, List.set_cons_zero, List.set_cons_succ] at hK ⊢
      simp only [e7] at hK ⊢
      obtain ⟨ve, hve⟩ : ∃ f : Nat → Value, f = vals := ⟨_, rfl⟩
      rw [← hve] at hK  ⊢
      clear e7 hve
      refine gwp_none rfl ?_
      go_simp
      refine (R4.out w1 hB).mono ?_
      rintro e w4 ⟨rfl, hb4⟩
      exact hK _ _ rfl (.inl hb4)
    refine And.intro (fun w1 vals hB hd a1 ha1 K hK => ?_) ?_
    · have e2 : vals 2 = .int .i64 a2 := toldX_at (hd 2 rfl) rfl
      have e5 : vals 5 = .int .i64 a3 := toldX_at (hd 5 rfl) rfl
      have e8 : vals 8 = .int .i64 a4 := toldX_at (hd 8 rfl) rfl
      clear hd
      subst ha1
      simp only [putAll, Act.put, List.setIfInBounds_toArray, List.set_cons_zero, List.set_cons_succ] at hK ⊢
      simp only [e2, e5, e8] at hK ⊢
      obtain ⟨ve, hve⟩ : ∃ f : Nat → Value, f = vals := ⟨_, rfl⟩
      rw [← hve] at hK  ⊢
      clear e2 e5 e8 hve
      refine gwp_none rfl ?_
      go_simp
      exact hK _ _ rfl (.inl (Below.refl _ _))
    refine And.intro (fun w1 vals hB hd a1 ha1 K hK => ?_) ?_
    · have e9 : vals 9 = .agg #[.int .i64 a2, .int .i64 a3, .int .i64 a4] := toldX_at (hd 9 rfl) rfl
      clear hd
      refine gwp_none rfl ?_
      have hth := hB.keep 3 HTH.out
      have hev1 : a1.eval (.tmp 2) = .pointer (some ⟨p + 1, 0, none⟩) := by rw [ha1]; exact (eval_old (by kernel_rfl)).trans rfl
      have hev2 : a1.eval (.tmp 12) = .agg #[.int .i64 a2, .int .i64 a3, .int .i64 a4] := by rw [ha1]; exact (eval_slot (i := 9) (by kernel_rfl) (by kernel_rfl) rfl).trans e9
      clear ha1
      obtain ⟨wS, hwS⟩ : ∃ wS, w1.setCells (p + 1) 0 (#[.int .i64 a2, .int .i64 a3, .int .i64 a4] : Array Value).toList = wS := ⟨_, rfl⟩
      have hX : BelowX (p + 1) w1 wS := by rw [← hwS]; exact BelowX.set _ _ _
      have hR : wS.rangeAt (p + 1) 0 [.int .i64 a2, .int .i64 a3, .int .i64 a4] := by rw [← hwS]; exact World.rangeAt_setCells_same w1 (p + 1) 0 [.int .i64 a2, .int .i64 a3, .int .i64 a4] hth
      have hSz : p + 1 < wS.heap.size := Nat.lt_of_lt_of_le (there_lt hth (by omega)) hX.size
      refine wp_store_mid 91 (.tmp 2) (.tmp 12) rfl (p + 1) 0 #[.int .i64 a2, .int .i64 a3, .int .i64 a4] hev1 hev2 hth (by kernel_rfl) (by simp [Value.oneCell']) ?_
      rw [hwS]
      exact hK undef wS ⟨hSz, hR⟩ (.inr ⟨rfl, hX⟩)
    exact trivial
  · intro w1 vals hB hd
    have e9 : vals 9 = .agg #[.int .i64 a2, .int .i64 a3, .int .i64 a4] := toldX_at (hd 9 (by decide)) rfl
    have p10 := toldX_at (t := ToldX.put (fun w => (p + 1) < w.heap.size ∧ w.rangeAt (p + 1) 0 [.int .i64 a2, .int .i64 a3, .int .i64 a4]) (fun w w' ⟨h0, h1⟩ hb => ⟨Nat.lt_of_lt_of_le h0 hb.size, range_below hb h0 h1⟩)) (hd 10 (by decide)) rfl
    simp only [ToldX.holds] at p10
    clear hd
    simp only [putAll, Act.put, List.setIfInBounds_toArray, List.set_cons_zero, List.set_cons_succ]
    simp only [e9]
    obtain ⟨ve, hve⟩ : ∃ f : Nat → Value, f = vals := ⟨_, rfl⟩
    rw [← hve]
    clear e9 hve
    obtain ⟨h0, h1⟩ := p10
    have H1 := Lib.hid h1
    have HBE := Lib.hid (HBX.out w1 hB)
    clear h0 h1
    go_wp2
    refine bodyPost_ret (v := .agg #[.int .i64 a2, .int .i64 a3, .int .i64 a4]) ?_ rfl ⟨rfl, ?_⟩
    · exact results_cell1_of rfl _ _ (p + 1) [.int .i64 a2, .int .i64 a3, .int .i64 a4] _ rfl H1.out Tryz.underlying91 rfl (by kernel_rfl)
    · exact HBE.out
end Go.Proofs.YthcabnfcgjnlnaaGreatDoor
/-
  REGIONS THAT DRAW THEIR ORDER, where an operation says something of a later one that binds nothing: the laws of XRegionX again.
-/
namespace Go.Proofs.YthcabnfcgjnlnaaGreatDoor
open Go Go.RowKit
set_option linter.unusedVariables false
variable {P : Program} {ops : Array Oper} {Q : Exit → Act → World → Prop}

/-- Each operation waits for earlier ones alone (whatever else is said of later ones binds nothing). -/
def backW (ops : Array Oper) : Bool := (List.range ops.size).all fun i => match ops[i]? with
  | none => true
  | some o => o.after.all fun e => !Region.binds .any e || decide (e.on < i)
theorem backW_at {i : Nat} {o : Oper} (h : backW ops = true) (ho : ops[i]? = some o) {e : _} (he : e ∈ o.after) (hb : Region.binds .any e = true) : e.on < i := by
  have h1 := List.all_eq_true.1 h i (List.mem_range.2 (Array.getElem?_eq_some_iff.1 ho).1)
  rw [ho] at h1
  have h2 := Array.all_eq_true'.1 h1 e he
  rw [hb] at h2
  simpa using h2
theorem all_listedW {l : Array Bool} (hb : backW ops = true) (hl : l.size = ops.size) (h0 : Region.ready .any ops l = []) : ∀ i, i < ops.size → l.getD i false = true := by
  intro i
  induction i using Nat.strongRecOn with
  | _ i ih =>
    intro hi
    cases hh : l.getD i false with
    | true => rfl
    | false =>
      have hmem : i ∈ Region.ready .any ops l := by
        refine mem_ready.2 ⟨getD_false_true hh (by omega), ops[i], Array.getElem?_eq_getElem hi, fun e he hbe => ?_⟩
        have h2 := backW_at hb (Array.getElem?_eq_getElem hi) he hbe
        exact ih e.on h2 (by omega)
      rw [h0] at hmem
      cases hmem
theorem wp_region_genW {id : Nat} {a0 : Act} {w0 : World} (hm : P.follows .mixedOrders = true) (C : World → Prop) (V : Nat → Value → World → Prop) (hb : (backW ops && (distB ops && dstB ops a0.tmps.size)) = true) (h0 : C w0.drew)
    (hstep : ∀ (i : Nat) (o : Oper) (w : World) (vals : Nat → Value), ops[i]? = some o → C w → (∀ j, (o.after.any fun e => Region.binds .any e && e.on == j) = true → V j (vals j) w) →
      wpOp P ops Q i (fun a' w' => ∃ v, a' = (putAll ops.toList 0 vals a0).put o.dst v ∧ V i (match o.dst with | none => undef | some _ => v) w' ∧ C w' ∧ ∀ j u, j ≠ i → V j u w → V j u w') (putAll ops.toList 0 vals a0) w)
    (hQ : ∀ (w : World) (vals : Nat → Value), C w → (∀ j, j < ops.size → V j (vals j) w) → Q .normal (putAll ops.toList 0 vals a0) w) : (Code.region id ops true).wp P Q a0 w0 := by
  rw [Bool.and_eq_true, Bool.and_eq_true] at hb
  obtain ⟨hb1, hb2, hb3⟩ := hb
  have hrep : ∀ i, (Array.replicate ops.size false).getD i false = false := fun i => by
    simp only [Array.getD]
    split <;> simp
  have hval : ∀ (l : Array Bool) (a : Act) (w : World), EInv ops a0 C V l a w → ∀ j, j < ops.size → l.getD j false = true → V j (valsOf ops a j) w := by
    intro l a w h j hj hl
    have := h.new j ops[j] (Array.getElem?_eq_getElem hj) hl
    unfold valsOf
    rw [Array.getElem?_eq_getElem hj]
    exact this
  refine wp_region_inv hm (EInv ops a0 C V) ⟨by simp, h0, rfl, rfl, fun _ _ => rfl, fun i o _ hl => by rw [hrep] at hl; cases hl⟩ (fun l a w h hr => ?_) ?_
  · have hall := all_listedW hb1 h.len hr
    have := hQ w (valsOf ops a) h.cls (fun j hj => hval l a w h j hj (hall j hj))
    rw [putAll_of h.size h.defers h.old] at this
    exact this
  · intro l a w i h hi
    obtain ⟨hun, o, ho, hr⟩ := mem_ready.1 hi
    have hs := hstep i o w (valsOf ops a) ho h.cls (fun j hj => ?_)
    · rw [putAll_of h.size h.defers h.old] at hs
      refine wpOp_mono ?_ hs
      rintro a' w' ⟨v, rfl, h1, h2, h3⟩
      exact einv_step hb2 hb3 h ho h2 h1 h3
    · obtain ⟨e, he, h2⟩ := Array.any_eq_true'.1 hj
      rw [Bool.and_eq_true, beq_iff_eq] at h2
      have h3 := hr e he h2.1
      have hj2 : e.on < ops.size := by
        have h5 := backW_at hb1 ho he h2.1
        have := (Array.getElem?_eq_some_iff.1 ho).1
        omega
      have := hval l a w h e.on hj2 h3
      rw [← h2.2]
      exact this
theorem wp_region_toldW {id q : Nat} (st : Nat) {a0 : Act} {w0 : World} {l : List Oper} (Vs : List (ToldX q)) (hm : P.follows .mixedOrders = true) (hb : ((backW l.toArray && (distB l.toArray && dstB l.toArray a0.tmps.size)) && guardB l) = true) (hput : putB st Vs 0 = true)
    (hstep : StepsX P Q q st l a0 w0 Vs 0 l)
    (hQ : ∀ (w : World) (vals : Nat → Value), BelowX q w0 w → (∀ j, j < l.length → toldAtX Vs j (vals j) w) → Q .normal (putAll l 0 vals a0) w) : (Code.region id l.toArray true).wp P Q a0 w0 := by
  rw [Bool.and_eq_true] at hb
  have hb' := hb.1
  rw [Bool.and_eq_true, Bool.and_eq_true] at hb'
  refine wp_region_genW (ops := l.toArray) hm (fun w => BelowX q w0 w) (toldAtX Vs) hb.1 (BelowX.of (Below.refl _ _).drew) (fun i o w vals ho hC hd => ?_) (fun w vals hC h => hQ w vals hC fun j hj => h j (by simpa using hj))
  have hol : l[i]? = some o := by simpa using ho
  refine wpOp_of_gwp hb'.2.1 hb'.2.2 hol hb.2 ?_
  refine stepsX_get hstep hol w vals hC (fun j hj => hd j (by rw [← Array.any_toList]; exact hj)) _ fun v w' h1 h2 => ⟨v, rfl, by rw [Nat.zero_add] at h1; exact h1, ?_, ?_⟩
  · rcases h2 with h2 | ⟨_, h2⟩
    · exact hC.trans (BelowX.of h2)
    · exact hC.trans h2
  · intro j u hj hu
    rcases h2 with h2 | ⟨he, h2⟩
    · exact toldAtX_kept Vs j u w w' hu h2
    · exact toldAtX_keptX Vs j (fun t ht => putB_at hput ht (by omega)) u w w' hu h2
end Go.Proofs.YthcabnfcgjnlnaaGreatDoor
