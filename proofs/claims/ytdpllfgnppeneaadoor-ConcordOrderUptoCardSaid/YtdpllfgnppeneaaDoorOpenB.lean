/-
  OPENING arguments of bounded bulk: an inventory, an orthography, a line; what the bound gives.
-/
import Derived.Test.YtdpllfgnppeneaaDoorOpen39
import Derived.Test.YtdpllfgnppeneaaDoorRight39
import Derived.Test.YtdpllfgnppeneaaDoorRows
namespace Go.Proofs.YtdpllfgnppeneaaDoor
open Go.RowKit Go.ChangeShapes Go.WideShapes Go.ChangeAt Go.Deep Go.Joins Ru Lay
set_option linter.unusedVariables false
set_option linter.unusedSimpArgs false

theorem array5 {α : Type} {cs : Array α} (h : cs.size = 5) : ∃ c0 c1 c2 c3 c4, cs = #[c0, c1, c2, c3, c4] := by
  obtain ⟨l⟩ := cs
  match l, h with
  | [c0, c1, c2, c3, c4], _ => exact ⟨c0, c1, c2, c3, c4, rfl⟩
theorem array1 {α : Type} {cs : Array α} (h : cs.size = 1) : ∃ c0, cs = #[c0] := by
  obtain ⟨l⟩ := cs
  match l, h with
  | [c0], _ => exact ⟨c0, rfl⟩
section
variable {H : Type}
theorem bulk_pos (d : DataW H) : 1 ≤ Rows.uptoBulk d := by
  cases d with
  | lit l => cases l <;> simp [Rows.uptoBulk]
  | _ => simp [Rows.uptoBulk]
theorem bulkAll_mem {d : DataW H} : ∀ {l : List (DataW H)}, d ∈ l → Rows.uptoBulk d ≤ Rows.uptoBulkAll l
  | [], h => by cases h
  | e :: r, h => by
    simp only [Rows.uptoBulkAll]
    rcases List.mem_cons.1 h with rfl | h
    · omega
    · have := bulkAll_mem h; omega
theorem bulkAll_len : ∀ l : List (DataW H), l.length ≤ Rows.uptoBulkAll l
  | [] => Nat.zero_le _
  | e :: r => by
    have h1 := bulk_pos e
    have h2 := bulkAll_len r
    simp only [Rows.uptoBulkAll, List.length_cons]
    omega
theorem bulk_slice_at {n i : Nat} {D : Nat → DataW H} {sp : List (DataW H)} (hi : i < n) : Rows.uptoBulk (D i) ≤ Rows.uptoBulk (.slice ((List.range n).map D) sp) := by
  have := bulkAll_mem (List.mem_map_of_mem (f := D) (List.mem_range.2 hi))
  simp only [Rows.uptoBulk]
  omega
theorem bulk_slice_len {n : Nat} {D : Nat → DataW H} {sp : List (DataW H)} : n ≤ Rows.uptoBulk (.slice ((List.range n).map D) sp) := by
  have := bulkAll_len ((List.range n).map D)
  rw [List.length_map, List.length_range] at this
  simp only [Rows.uptoBulk]
  omega
theorem bulk_agg {d : DataW H} {l : List (DataW H)} (h : d ∈ l) : Rows.uptoBulk d ≤ Rows.uptoBulk (.agg l) := by
  have := bulkAll_mem h
  simp only [Rows.uptoBulk]
  omega
theorem bulk_string {s : ByteArray} : s.size ≤ Rows.uptoBulk (.lit (.string s.data.toList) : DataW H) := by
  simp only [Rows.uptoBulk]
  rw [Lib.size_eq]
  omega
end
section
variable {H : Type} {enc : TypeId × Value → H} {w : World} {spare : Nat → Bool} {held : Bool} {fuel : Nat} {v : Value} {x : DataW H × List MemPlace}
theorem open_SRb (hf : DataW.trod enc Tryd.prog w 0 spare held fuel 31 [v] = some x) : ∃ A n c l, v = .slice A n c ∧ SR w w.heap.size A n l ∧ l.length ≤ Rows.uptoBulk x.1 ∧ (∀ s, s ∈ l → s.size ≤ Rows.uptoBulk x.1) := by
  rcases open_slice1 Tryd.underlying31 cellsString hf with ⟨h0, h1⟩ | ⟨a, len, cap, m, n, V, D, Pl, h0, _, hl, hm, hmm, hX, hx⟩
  · injection h0 with h0
    subst h0
    exact ⟨none, 0, 0, [], rfl, Reads.none_, Nat.zero_le _, (fun s hs => by cases hs)⟩
  · injection h0 with h0
    subst h0
    subst hX
    have hlm : len ≤ m := by rw [hmm]; split <;> omega
    obtain ⟨l, hlen, hL⟩ := list_of (α := ByteArray) (n := len) (p := fun i s => w.cell? (a.add i) = some (.string s) ∧ s.size ≤ Rows.uptoBulk (D i) ∧ i < len) (fun i hi => by
      obtain ⟨h1, h2⟩ := hx i (by omega)
      obtain ⟨s, hs, he, hsz⟩ := DataW.trod_string Tryd.underlying9 h2
      injection hs with hs
      have hd : D i = .lit (.string s.data.toList) := congrArg Prod.fst he
      exact ⟨s, by rw [h1, hs], by rw [hd]; exact bulk_string, hi⟩)
    refine ⟨some a, len, cap, l, rfl, ⟨by simpa using hlen, fun hn => ⟨a, rfl, ?_, fun j u hu => ?_⟩⟩, ?_, fun s hs => ?_⟩
    · have := World.block_lt_of_cell? w _ (hx 0 (by omega)).1
      rw [block_of_add] at this
      exact this
    · rw [List.getElem?_map] at hu
      cases hz : l[j]? with
      | none => rw [hz] at hu; cases hu
      | some s => rw [hz] at hu; cases hu; exact (hL j s hz).1
    · rw [hlen]; exact bulk_slice_len
    · obtain ⟨j, hj⟩ := List.getElem?_of_mem hs
      obtain ⟨_, h2, h3⟩ := hL j s hj
      exact Nat.le_trans h2 (bulk_slice_at h3)
theorem open_intsb (hf : DataW.trod enc Tryd.prog w 0 spare held fuel 45 [v] = some x) : ∃ A n c, ∃ l : List Int, v = .slice A n c ∧ Reads w w.heap.size 1 A n (l.map (.int .i64)) ∧ l.length ≤ Rows.uptoBulk x.1 := by
  rcases open_slice1 Tryd.underlying45 cellsInt hf with ⟨h0, _⟩ | ⟨a, len, cap, m, n, V, D, Pl, h0, _, hl, hm, hmm, hX, hx⟩
  · injection h0 with h0
    subst h0
    exact ⟨none, 0, 0, [], rfl, Reads.none_, Nat.zero_le _⟩
  · injection h0 with h0
    subst h0
    subst hX
    have hlm : len ≤ m := by rw [hmm]; split <;> omega
    obtain ⟨l, hlen, hL⟩ := list_of (α := Int) (n := len) (p := fun i s => w.cell? (a.add i) = some (.int .i64 s)) (fun i hi => by
      obtain ⟨h1, h2⟩ := hx i (by omega)
      obtain ⟨s, hs, _, _⟩ := DataW.trod_int Tryd.underlying3 h2
      injection hs with hs
      exact ⟨s, by rw [h1, hs]⟩)
    refine ⟨some a, len, cap, l, rfl, ⟨by simpa using hlen, fun hn => ⟨a, rfl, ?_, fun j u hu => ?_⟩⟩, by rw [hlen]; exact bulk_slice_len⟩
    · have := World.block_lt_of_cell? w _ (hx 0 (by omega)).1
      rw [block_of_add] at this
      exact this
    · rw [List.getElem?_map] at hu
      cases hz : l[j]? with
      | none => rw [hz] at hu; cases hu
      | some s => rw [hz] at hu; cases hu; exact hL j s hz
theorem open_RowsRb (hf : DataW.trod enc Tryd.prog w 0 spare held fuel 26 [v] = some x) : ∃ A n c L, v = .slice A n c ∧ RowsR w w.heap.size A n L ∧ L.length ≤ Rows.uptoBulk x.1 ∧ (∀ l ∈ L, l.length ≤ Rows.uptoBulk x.1 ∧ ∀ s ∈ l, s.size ≤ Rows.uptoBulk x.1) := by
  rcases open_slice1 Tryd.underlying26 cellsStrings hf with ⟨h0, _⟩ | ⟨a, len, cap, m, n, V, D, Pl, h0, _, hl, hm, hmm, hX, hx⟩
  · injection h0 with h0
    subst h0
    exact ⟨none, 0, 0, [], rfl, ⟨[], Reads.none_, rfl, fun i l hl => by simp at hl⟩, Nat.zero_le _, fun l hl => by cases hl⟩
  · injection h0 with h0
    subst h0
    subst hX
    have hlm : len ≤ m := by rw [hmm]; split <;> omega
    obtain ⟨L, hlen, hL⟩ := list_of (α := List ByteArray) (n := len) (p := fun i l => (∃ A' n' c', w.cell? (a.add i) = some (.slice A' n' c') ∧ V i = .slice A' n' c' ∧ SR w w.heap.size A' n' l) ∧ (l.length ≤ Rows.uptoBulk (D i) ∧ ∀ s ∈ l, s.size ≤ Rows.uptoBulk (D i)) ∧ i < len) (fun i hi => by
      obtain ⟨h1, h2⟩ := hx i (by omega)
      obtain ⟨A', n', c', l, hv, hs, b1, b2⟩ := open_SRb h2
      exact ⟨l, ⟨A', n', c', by rw [h1, hv], hv, hs⟩, ⟨b1, b2⟩, hi⟩)
    refine ⟨some a, len, cap, L, rfl, ⟨(List.range len).map V, ⟨by simp, fun hn => ⟨a, rfl, ?_, fun j u hu => ?_⟩⟩, hlen, fun i l hil => ?_⟩, by rw [hlen]; exact bulk_slice_len, fun l hl => ?_⟩
    · have := World.block_lt_of_cell? w _ (hx 0 (by omega)).1
      rw [block_of_add] at this
      exact this
    · have hj := (List.getElem?_eq_some_iff.1 hu).1
      simp at hj
      have e : some (V j) = some u := by rw [← hu]; simp [hj]
      injection e with e
      rw [← e]
      exact (hx j (by omega)).1
    · have hi : i < len := by rw [← hlen]; exact (List.getElem?_eq_some_iff.1 hil).1
      obtain ⟨⟨A', n', c', _, hv, hs⟩, _⟩ := hL i l hil
      exact ⟨A', n', c', by simp [hi, hv], hs⟩
    · obtain ⟨j, hj⟩ := List.getElem?_of_mem hl
      obtain ⟨_, ⟨b1, b2⟩, h3⟩ := hL j l hj
      have h4 := bulk_slice_at (D := D) (sp := (List.range (m - len)).map fun j => D (len + j)) h3
      exact ⟨Nat.le_trans b1 h4, fun s hs => Nat.le_trans (b2 s hs) h4⟩
theorem open_SegsRb (hf : DataW.trod enc Tryd.prog w 0 spare held fuel 22 [v] = some x) : ∃ A n c S, v = .slice A n c ∧ SegsR w w.heap.size A n S ∧ (∀ s ∈ S, s.1.size ≤ Rows.uptoBulk x.1) := by
  rcases open_slice Tryd.underlying22 hf with ⟨h0, _⟩ | ⟨a, len, cap, m, n, D, Pl, h0, _, hl, hm, hmm, hX, hx⟩
  · injection h0 with h0
    subst h0
    exact ⟨none, 0, 0, [], rfl, ⟨rfl, fun h => by omega⟩, fun s hs => by cases hs⟩
  · injection h0 with h0
    subst h0
    subst hX
    have hlm : len ≤ m := by rw [hmm]; split <;> omega
    have hce : Tryd.prog.cellsOf 93 = 2 := by kernel_rfl
    rw [hce] at hx
    obtain ⟨S, hlen, hS⟩ := list_of (α := ByteArray × Int) (n := len) (p := fun i s => (w.cell? (a.add (i * 2)) = some (.string s.1) ∧ w.cell? (a.add (i * 2 + 1)) = some (.int .i64 s.2)) ∧ s.1.size ≤ Rows.uptoBulk (D i) ∧ i < len) (fun i hi => by
      obtain ⟨cs, h1, h2⟩ := hx i (by omega)
      obtain ⟨_, hcl, hcc⟩ := World.cells?_some h1
      obtain ⟨c0, c1, rfl⟩ : ∃ c0 c1, cs = [c0, c1] := by
        match cs, hcl with
        | [c0, c1], _ => exact ⟨c0, c1, rfl⟩
      obtain ⟨y0, y1, n', hxx, _, t0, t1⟩ := trod_struct2 Tryd.underlying93 h2
      simp only [cellsString, cellsInt, List.drop, List.take] at t0 t1
      obtain ⟨s, e0, he, _⟩ := DataW.trod_string Tryd.underlying9 t0
      obtain ⟨k, e1, _, _⟩ := DataW.trod_int Tryd.underlying3 t1
      injection e0 with e0
      injection e1 with e1
      have q0 := hcc 0 (by omega)
      have q1 := hcc 1 (by omega)
      rw [add_of_add] at q0 q1
      have hd : D i = .agg [y0.1, y1.1] := congrArg Prod.fst hxx
      have hy : y0.1 = .lit (.string s.data.toList) := congrArg Prod.fst he
      refine ⟨(s, k), ⟨by simpa [e0] using q0, by simpa [e1] using q1⟩, ?_, hi⟩
      rw [hd]
      refine Nat.le_trans ?_ (bulk_agg (List.mem_cons_self ..))
      rw [hy]
      exact bulk_string)
    refine ⟨some a, len, cap, S, rfl, ⟨hlen, fun hn => ⟨a, rfl, ?_, fun k y hy => (hS k y hy).1⟩⟩, fun s hs => ?_⟩
    · have := World.block_lt_of_cell? w _ (hS 0 S[0] (List.getElem?_eq_getElem (by omega))).1.1
      rw [block_of_add] at this
      exact this
    · obtain ⟨j, hj⟩ := List.getElem?_of_mem hs
      obtain ⟨_, h2, h3⟩ := hS j s hj
      exact Nat.le_trans h2 (bulk_slice_at h3)
theorem open_UnitsRb (hf : DataW.trod enc Tryd.prog w 0 spare held fuel 25 [v] = some x) : ∃ A n c U, v = .slice A n c ∧ UnitsR w w.heap.size A n U ∧ (∀ s ∈ U, s.1.size ≤ Rows.uptoBulk x.1 ∧ s.2.length ≤ Rows.uptoBulk x.1) := by
  rcases open_slice Tryd.underlying25 hf with ⟨h0, _⟩ | ⟨a, len, cap, m, n, D, Pl, h0, _, hl, hm, hmm, hX, hx⟩
  · injection h0 with h0
    subst h0
    exact ⟨none, 0, 0, [], rfl, ⟨rfl, fun h => by omega⟩, fun s hs => by cases hs⟩
  · injection h0 with h0
    subst h0
    subst hX
    have hlm : len ≤ m := by rw [hmm]; split <;> omega
    have hce : Tryd.prog.cellsOf 132 = 2 := by kernel_rfl
    rw [hce] at hx
    obtain ⟨U, hlen, hU⟩ := list_of (α := ByteArray × List Int) (n := len) (p := fun i s => (w.cell? (a.add (i * 2)) = some (.string s.1) ∧ ∃ A' n' c', w.cell? (a.add (i * 2 + 1)) = some (.slice A' n' c') ∧ Reads w w.heap.size 1 A' n' (s.2.map (.int .i64))) ∧ (s.1.size ≤ Rows.uptoBulk (D i) ∧ s.2.length ≤ Rows.uptoBulk (D i)) ∧ i < len) (fun i hi => by
      obtain ⟨cs, h1, h2⟩ := hx i (by omega)
      obtain ⟨_, hcl, hcc⟩ := World.cells?_some h1
      obtain ⟨c0, c1, rfl⟩ : ∃ c0 c1, cs = [c0, c1] := by
        match cs, hcl with
        | [c0, c1], _ => exact ⟨c0, c1, rfl⟩
      obtain ⟨y0, y1, n', hxx, _, t0, t1⟩ := trod_struct2 Tryd.underlying132 h2
      simp only [cellsString, cellsInts, List.drop, List.take] at t0 t1
      obtain ⟨s, e0, he, _⟩ := DataW.trod_string Tryd.underlying9 t0
      obtain ⟨A', n', c', l, e1, hr, hb⟩ := open_intsb t1
      injection e0 with e0
      have q0 := hcc 0 (by omega)
      have q1 := hcc 1 (by omega)
      rw [add_of_add] at q0 q1
      have hd : D i = .agg [y0.1, y1.1] := congrArg Prod.fst hxx
      have hy : y0.1 = .lit (.string s.data.toList) := congrArg Prod.fst he
      refine ⟨(s, l), ⟨by simpa [e0] using q0, A', n', c', by simpa [e1] using q1, hr⟩, ⟨?_, ?_⟩, hi⟩
      · rw [hd]
        refine Nat.le_trans ?_ (bulk_agg (List.mem_cons_self ..))
        rw [hy]
        exact bulk_string
      · rw [hd]
        exact Nat.le_trans hb (bulk_agg (List.mem_cons_of_mem _ (List.mem_cons_self ..))))
    refine ⟨some a, len, cap, U, rfl, ⟨hlen, fun hn => ⟨a, rfl, ?_, fun k y hy => (hU k y hy).1⟩⟩, fun s hs => ?_⟩
    · have := World.block_lt_of_cell? w _ (hU 0 U[0] (List.getElem?_eq_getElem (by omega))).1.1
      rw [block_of_add] at this
      exact this
    · obtain ⟨j, hj⟩ := List.getElem?_of_mem hs
      obtain ⟨_, ⟨b1, b2⟩, h3⟩ := hU j s hj
      have h4 := bulk_slice_at (D := D) (sp := (List.range (m - len)).map fun j => D (len + j)) h3
      exact ⟨Nat.le_trans b1 h4, Nat.le_trans b2 h4⟩
set_option maxRecDepth 100000 in
theorem open_inv {r : Reach} {b0 : Nat} {d : DataW H} {p : List MemPlace} (hv : Value.okWide Tryd.prog w r b0 24 v) (h : DataW.Trod enc Tryd.prog w 0 spare held 24 v d p) :
    ∃ SA sn sc S, v = .agg #[.slice SA sn sc] ∧ SegsR w w.heap.size SA sn S ∧ (∀ s ∈ S, s.1.size ≤ Rows.uptoBulk d) := by
  obtain ⟨cs, rfl, hsz⟩ := okWide_struct Tryd.underlying24 hv
  have hC : Tryd.prog.cellsOf 24 = 1 := by kernel_rfl
  have hC3 : Tryd.prog.cellsOf 22 = 1 := by kernel_rfl
  obtain ⟨c0, rfl⟩ := array1 (hsz.trans hC)
  obtain ⟨fuel, hf⟩ := h
  obtain ⟨xs, n0, _, hx, _, hlen, hs⟩ := DataW.trod_struct Tryd.underlying24 hf
  obtain ⟨y, rfl⟩ : ∃ y, xs = [y] := by
    match xs, hlen with
    | [y], _ => exact ⟨y, rfl⟩
  have s0 : DataW.trod enc Tryd.prog w 0 spare held n0 22 ((List.drop 0 (Value.agg #[c0]).cells.toList).take (Tryd.prog.cellsOf 22)) = some y := hs 0 _ rfl
  rw [hC3] at s0
  simp only [Value.cells, List.drop, List.take] at s0
  obtain ⟨SA, sn, sc, S, e0, hS, hb⟩ := open_SegsRb s0
  have hd : d = .agg [y.1] := by have := congrArg Prod.fst hx; simpa using this
  exact ⟨SA, sn, sc, S, by rw [e0], hS, fun s hs => by rw [hd]; exact Nat.le_trans (hb s hs) (bulk_agg (List.mem_cons_self ..))⟩
set_option maxRecDepth 100000 in
theorem open_ort {r : Reach} {b0 : Nat} {d : DataW H} {p : List MemPlace} (hv : Value.okWide Tryd.prog w r b0 28 v) (h : DataW.Trod enc Tryd.prog w 0 spare held 28 v d p) :
    ∃ UA LA un uc ln lc nm U L, v = .agg #[.string nm, .slice UA un uc, .slice LA ln lc] ∧ UnitsR w w.heap.size UA un U ∧ RowsR w w.heap.size LA ln L ∧ nm.size ≤ Rows.uptoBulk d ∧ (∀ s ∈ U, s.1.size ≤ Rows.uptoBulk d ∧ s.2.length ≤ Rows.uptoBulk d) ∧
      L.length ≤ Rows.uptoBulk d ∧ (∀ l ∈ L, l.length ≤ Rows.uptoBulk d ∧ ∀ s ∈ l, s.size ≤ Rows.uptoBulk d) := by
  obtain ⟨cs, rfl, hsz⟩ := okWide_struct Tryd.underlying28 hv
  have hC : Tryd.prog.cellsOf 28 = 3 := by kernel_rfl
  have hC4 : Tryd.prog.cellsOf 25 = 1 := by kernel_rfl
  have hC5 : Tryd.prog.cellsOf 26 = 1 := by kernel_rfl
  obtain ⟨c0, c1, c2, rfl⟩ := array3 (hsz.trans hC)
  obtain ⟨fuel, hf⟩ := h
  obtain ⟨z0, z1, z2, n2, hx, _, u0, u1, u2⟩ := trod_struct3 Tryd.underlying28 hf
  simp only [cellsString, hC4, hC5, Value.cells, List.drop, List.take] at u0 u1 u2
  obtain ⟨nm, e1, he, hnm⟩ := DataW.trod_string Tryd.underlying9 u0
  obtain ⟨UA, un, uc, U, e2, hU, hub⟩ := open_UnitsRb u1
  obtain ⟨LA, ln, lc, L, e3, hL, hlb, hlc⟩ := open_RowsRb u2
  injection e1 with e1
  have hd : d = .agg [z0.1, z1.1, z2.1] := congrArg Prod.fst hx
  have hy : z0.1 = .lit (.string nm.data.toList) := congrArg Prod.fst he
  have b0 : Rows.uptoBulk z0.1 ≤ Rows.uptoBulk d := by rw [hd]; exact bulk_agg (by simp)
  have b1 : Rows.uptoBulk z1.1 ≤ Rows.uptoBulk d := by rw [hd]; exact bulk_agg (by simp)
  have b2 : Rows.uptoBulk z2.1 ≤ Rows.uptoBulk d := by rw [hd]; exact bulk_agg (by simp)
  refine ⟨UA, LA, un, uc, ln, lc, nm, U, L, by rw [e1, e2, e3], hU, hL, Nat.le_trans (by rw [hy]; exact bulk_string) b0, fun s hs => ⟨Nat.le_trans (hub s hs).1 b1, Nat.le_trans (hub s hs).2 b1⟩, Nat.le_trans hlb b2, fun l hl => ⟨Nat.le_trans (hlc l hl).1 b2, fun s hs => Nat.le_trans ((hlc l hl).2 s hs) b2⟩⟩
set_option maxRecDepth 100000 in
theorem open_hit {r : Reach} {b0 : Nat} {d : DataW H} {p : List MemPlace} (hv : Value.okWide Tryd.prog w r b0 33 v) (h : DataW.Trod enc Tryd.prog w 0 spare held 33 v d p) :
    ∃ x : Hv, v = .agg #[.int .i64 x.rid, .int .i64 x.nid, .slice x.la x.ln x.lc, .string x.key, .slice x.ra x.rn x.rc] ∧ HvR w w.heap.size x := by
  obtain ⟨cs, rfl, hsz⟩ := okWide_struct Tryd.underlying33 hv
  have hce : Tryd.prog.cellsOf 33 = 5 := by kernel_rfl
  have hcr : Tryd.prog.cellsOf 30 = 2 := by kernel_rfl
  have hcl : Tryd.prog.cellsOf 31 = 1 := by kernel_rfl
  have hci : Tryd.prog.cellsOf 3 = 1 := by kernel_rfl
  have hcs : Tryd.prog.cellsOf 9 = 1 := by kernel_rfl
  obtain ⟨c0, c1, c2, c3, c4, rfl⟩ := array5 (hsz.trans hce)
  obtain ⟨fuel, hf⟩ := h
  obtain ⟨y0, y1, y2, y3, n', _, _, t0, t1, t2, t3⟩ := trod_struct4 Tryd.underlying33 hf
  simp only [hcr, hcl, hcs, Value.cells, List.drop, List.take] at t0 t1 t2 t3
  obtain ⟨z0, z1, n2, _, _, r0, r1⟩ := trod_struct2 Tryd.underlying30 t0
  simp only [hci, List.drop, List.take] at r0 r1
  obtain ⟨s0, e0, _, _⟩ := DataW.trod_int Tryd.underlying3 r0
  obtain ⟨s1, e1, _, _⟩ := DataW.trod_int Tryd.underlying3 r1
  obtain ⟨A1, n1, k1, l1, e2, hr1, _, _, hk1, hm1⟩ := open_SR t1
  obtain ⟨s3, e3, _, _⟩ := DataW.trod_string Tryd.underlying9 t2
  obtain ⟨A4, n4, k4, l4, e4, hr4, _, _, hk4, hm4⟩ := open_SR t3
  injection e0 with e0
  injection e1 with e1
  injection e3 with e3
  subst e0 e1 e2 e3 e4
  exact ⟨{ toHt := ⟨s0, s1, l1, s3, l4⟩, la := A1, ln := n1, lc := k1, ra := A4, rn := n4, rc := k4 }, rfl, ⟨hr1, hr4, ⟨hk1, by unfold maxLen at hm1; exact hm1⟩, ⟨hk4, by unfold maxLen at hm4; exact hm4⟩⟩⟩
end
theorem bulk39_of {B : Nat} {S : List (ByteArray × Int)} {nm : ByteArray} {U : List (ByteArray × List Int)} {L : List (List ByteArray)} (hB : B ≤ 1048576) (hS : ∀ s ∈ S, s.1.size ≤ B) (hn : nm.size ≤ B) (hU : ∀ s ∈ U, s.1.size ≤ B ∧ s.2.length ≤ B)
    (hL : L.length ≤ B) (hLL : ∀ l ∈ L, l.length ≤ B ∧ ∀ s ∈ l, s.size ≤ B) : Bulk39 S nm U L ∧ SizedL L := by
  have hrow : ∀ i, i < L.length → L.getD i [] ∈ L := fun i hi => by
    rw [List.getD, List.getElem?_eq_getElem hi]; exact List.getElem_mem _
  refine ⟨⟨by omega, fun i hi => ?_, fun i hi => ?_, fun i hi => ?_, fun i hi => ?_, fun i k hi hk => ?_⟩, by omega, fun l hl => ⟨by have := (hLL l hl).1; omega, fun s hs => by have := (hLL l hl).2 s hs; omega⟩⟩
  · have : S.getD i (⟨#[]⟩, 0) ∈ S := by rw [List.getD, List.getElem?_eq_getElem hi]; exact List.getElem_mem _
    exact Nat.le_trans (hS _ this) hB
  · have : U.getD i (⟨#[]⟩, []) ∈ U := by rw [List.getD, List.getElem?_eq_getElem hi]; exact List.getElem_mem _
    exact Nat.le_trans (hU _ this).1 hB
  · have : U.getD i (⟨#[]⟩, []) ∈ U := by rw [List.getD, List.getElem?_eq_getElem hi]; exact List.getElem_mem _
    exact Nat.le_trans (hU _ this).2 hB
  · exact Nat.le_trans (hLL _ (hrow i hi)).1 hB
  · refine Nat.le_trans ((hLL _ (hrow i hi)).2 (vari L i k) ?_) hB
    unfold vari
    obtain ⟨q, hq⟩ : ∃ q, L.getD i [] = q := ⟨_, rfl⟩
    rw [hq] at hk ⊢
    rw [List.getD, List.getElem?_eq_getElem hk]
    exact List.getElem_mem _
end Go.Proofs.YtdpllfgnppeneaaDoor
