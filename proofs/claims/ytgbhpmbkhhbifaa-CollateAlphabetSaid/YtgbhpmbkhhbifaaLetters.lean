import Derived.Test.YtgbhpmbkhhbifaaFirst
import Derived.Test.YtgbhpmbkhhbifaaOwn
namespace Go.Proofs.Ytgbhpmbkhhbifaa
open Go.RowKit
set_option linter.unusedVariables false
set_option linter.unusedSimpArgs false

def strSize : Value → Nat | .string s => s.size | _ => 0
/-- The two keys, as they lie in memory. -/
def prim (d : List (Nat × Nat × Bool)) : List Value := d.map fun x => .int .i64 x.1
def secd (d : List (Nat × Nat × Bool)) : List Value := d.map fun x => .int .i64 x.2.1
def allL (d : List (Nat × Nat × Bool)) : Bool := d.all fun x => x.2.2

def LetRel (B0 : Nat) (w : World) (L : List (List ByteArray)) (s : ByteArray) (t1 t7 t8 t9 : Value) (wr : World) : Prop :=
  ∃ (r : ByteArray) (d : List (Nat × Nat × Bool)), t1 = .string r ∧ t9 = .bool (allL d) ∧ d ++ Col.letters L r.data.toList = Col.letters L s.data.toList ∧ d.length + r.size ≤ s.size ∧
    wr.ownsRow B0 3 1 t7 d.length (prim d) ∧ wr.ownsRow B0 3 1 t8 d.length (secd d) ∧ Apart t7 t8 ∧ Below B0 w wr

theorem data_pos {r : ByteArray} (h : 0 < r.size) : r.data.toList ≠ [] := by
  intro h0
  have := Lib.size_eq r
  rw [h0, List.length_nil] at this
  omega
theorem size_pos {r : ByteArray} (h : r.toList.isEmpty = false) : 0 < r.size := by
  rw [Lib.toList_data, Lib.size_eq] at *
  cases hl : r.data.toList with
  | nil => rw [hl] at h; simp at h
  | cons x l => simp
theorem extract_rest (r : ByteArray) (m : Nat) : (r.extract m r.size).data.toList = r.data.toList.drop m := by
  rw [Lib.extract_data, List.take_of_length_le (by rw [List.length_drop, Lib.size_eq]; exact Nat.le_refl _)]
theorem head_byte (r : ByteArray) (h : 0 < r.size) : r.data.toList.headD 0 = r[0] := by
  obtain ⟨⟨l⟩⟩ := r
  cases l with
  | nil => exact absurd h (by decide)
  | cons x l => rfl

theorem let_step {B0 : Nat} {w w3 : World} {L : List (List ByteArray)} {s r : ByteArray} {d : List (Nat × Nat × Bool)} {p q m : Nat} {k : Bool} {v7 v8 t9 : Value}
    (hd : d ++ Col.letters L r.data.toList = Col.letters L s.data.toList) (hr : 0 < r.size) (ht : Col.take1 L r.data.toList = (p, q, k, m)) (hlen : d.length + r.size ≤ s.size)
    (h7 : w3.ownsRow B0 3 1 v7 (d.length + 1) (prim d ++ [.int .i64 p])) (h8 : w3.ownsRow B0 3 1 v8 (d.length + 1) (secd d ++ [.int .i64 q])) (hap : Apart v7 v8) (hb : Below B0 w w3)
    (h9 : t9 = .bool (allL (d ++ [(p, q, k)]))) : LetRel B0 w L s (.string (r.extract m r.size)) v7 v8 t9 w3 ∧ strSize (.string (r.extract m r.size)) < strSize (.string r) := by
  have h1 := Col.take1_pos L r.data.toList
  have h2 := Col.take1_le L r.data.toList (data_pos hr)
  rw [ht] at h1 h2
  simp only at h1 h2
  rw [← Lib.size_eq] at h2
  have hsz : (r.extract m r.size).size = r.size - m := by rw [Lib.size_eq, extract_rest, List.length_drop, ← Lib.size_eq]
  refine ⟨⟨r.extract m r.size, d ++ [(p, q, k)], rfl, h9, ?_, ?_, ?_, ?_, hap, hb⟩, ?_⟩
  · rw [extract_rest, ← hd, Col.letters_cons L r.data.toList (data_pos hr), ht]
    simp
  · rw [hsz, List.length_append, List.length_singleton]
    omega
  · simpa [prim] using h7
  · simpa [secd] using h8
  · simp only [strSize, hsz]
    omega

set_option maxHeartbeats 400000 in
theorem letters_any (nm : ByteArray) (UA A : Option Addr) (un uc n c : Nat) (L : List (List ByteArray)) (s : ByteArray) (w : World) (B : Nat)
    (hL : RowsR w B A n L) (hB : B ≤ w.heap.size) (hz : SizedL L) (hs : s.size ≤ 1099511627776) :
    Calls Try.prog 13 #[.agg #[.string nm, .slice UA un uc, .slice A n c], .string s] w fun e w' => ∃ va vb,
      e = .returned (.tuple #[va, vb, .bool (allL (Col.letters L s.data.toList))]) ∧
      w'.ownsRow w.heap.size 3 1 va (Col.letters L s.data.toList).length (prim (Col.letters L s.data.toList)) ∧
      w'.ownsRow w.heap.size 3 1 vb (Col.letters L s.data.toList).length (secd (Col.letters L s.data.toList)) ∧ Below w.heap.size w w' := by
  have hn : n ≤ 140737488355328 := by have := hz.1; rw [hL.len] at this; exact this
  obtain ⟨i0, hi, hz0, hz1, hz2⟩ := info_parts info_int
  go_enter Try.func13, Try.ntmps13
  go_wp2
  go_loopw [1, 7, 8, 9] (fun t1 t7 t8 t9 wr => LetRel (w.heap.size + 1) (w.alloc (.cells #[Value.string nm, Value.slice UA un uc, Value.slice A n c] 28)) L s t1 t7 t8 t9 wr) (fun t1 _ _ _ _ => strSize t1)
  case atStart => exact ⟨s, [], rfl, rfl, rfl, by simp, World.ownsRow_nil _ _ _ _, World.ownsRow_nil _ _ _ _, Apart.nil_left _, Below.refl _ _⟩
  case round =>
    obtain ⟨r, d, rfl, rfl, hd, hlen, h7, h8, hap, hbl⟩ := hrel
    have c0 : wr.cell? ⟨w.heap.size, 0, none⟩ = some (.string nm) := (hbl.cell (by simp)).trans (by rw [World.cell?_alloc_at _ _ _ _ rfl]; rfl)
    have c1 : wr.cell? ⟨w.heap.size, 1, none⟩ = some (.slice UA un uc) := (hbl.cell (by simp)).trans (by rw [World.cell?_alloc_at _ _ _ _ rfl]; rfl)
    have c2 : wr.cell? ⟨w.heap.size, 2, none⟩ = some (.slice A n c) := (hbl.cell (by simp)).trans (by rw [World.cell?_alloc_at _ _ _ _ rfl]; rfl)
    have hsz : w.heap.size + 1 ≤ wr.heap.size := by have := hbl.size; simpa using this
    have hLr : RowsR wr B A n L := (hL.below (((Below.refl B w).alloc hB _).trans (hbl.mono (by omega))))
    have HD := Lib.hid hd; clear hd
    have HZ := Lib.hid hz; clear hz
    by_cases hr : r.toList.isEmpty = true
    · go_wp2
      go_ret3
      have hr0 : r.data.toList = [] := by rw [← Lib.toList_data]; simpa using hr
      have hd := HD.out
      rw [hr0, Col.letters_nil, List.append_nil] at hd
      subst hd
      exact ⟨u7, u8, rfl, own_base h7 (by omega), own_base h8 (by omega), ((Below.refl _ _).alloc (Nat.le_refl _) _).trans (hbl.mono (by omega))⟩
    · have hr' : r.toList.isEmpty = false := by simpa using hr
      clear hr
      obtain ⟨⟨a, b, m, o⟩, hf⟩ : ∃ x, Hid (Col.firstF L r.data.toList = x) := ⟨_, rfl⟩
      have h1 : 0 < r.size := size_pos hr'
      have hlen' : d.length ≤ 1099511627776 := by omega
      have hb0 : (r[0]'h1).toNat < 256 := UInt8.toNat_lt _
      cases o with
      | true =>
        have HT := Lib.hid (Col.take1_true hf.out)
        have hm : m ≤ r.size := by
          have := Col.take1_le L r.data.toList (data_pos h1)
          rw [HT.out, ← Lib.size_eq] at this
          exact this
        go_wp2_with
          (first
          | (go_at_call 29; refine (first_eq nm UA A un uc n c L r _ B hLr (by omega) HZ.out (by omega) hf).mono ?_; rintro e w1 ⟨rfl, hb1⟩; have hs1 := hb1.size; have h71 := own_below h7 hb1; have h81 := own_below h8 hb1)
          | (at_builtin; refine wpList_app1 rfl (.tmp 33) (.tmp 35) _ rfl (w.heap.size + 1) 3 8 _ info_int rfl Try.underlying33 rfl h71 rfl rfl (by omega) (by omega) (by omega) ?_; rintro v7 w2 hown7 hb2 hs2 hk2; obtain ⟨h82, hap2⟩ := hk2 _ _ _ _ _ _ h81 hap.symm; clear hk2)
          | (at_builtin; refine wpList_app1 rfl (.tmp 37) (.tmp 39) _ rfl (w.heap.size + 1) 3 8 _ info_int rfl Try.underlying33 rfl h82 rfl rfl (by omega) (by omega) (by omega) ?_; rintro v8 w3 hown8 hb3 hs3 hk3; obtain ⟨hown7', hap3⟩ := hk3 _ _ _ _ _ _ hown7 hap2.symm; clear hk3))
        exact let_step HD.out h1 HT.out hlen hown7' hown8 hap3 (((hbl.trans (hb1.mono hsz)).trans hb2).trans hb3) (by simp [allL])
      | false =>
        have HT := Lib.hid (Col.take1_false hf.out)
        have c2' : ∀ w1, Below wr.heap.size wr w1 → w1.cell? ⟨w.heap.size, 2, none⟩ = some (.slice A n c) := fun w1 hb1 => (hb1.cell (by simp; omega)).trans c2
        go_wp2_with (go_at_call 29; refine (first_eq nm UA A un uc n c L r _ B hLr (by omega) HZ.out (by omega) hf).mono ?_; rintro e w1 ⟨rfl, hb1⟩; have hs1 := hb1.size; have h71 := own_below h7 hb1; have h81 := own_below h8 hb1)
        have c2'' := c2' w1 hb1
        clear c2'
        go_quiet (fail)
        obtain ⟨w1', hw1', hs1', h71', h81', hb1'⟩ : ∃ w1', Hid (w1' = w1.drewN nq) ∧ w1.heap.size ≤ w1'.heap.size ∧ w1'.ownsRow (w.heap.size + 1) 3 1 u7 d.length (prim d) ∧ w1'.ownsRow (w.heap.size + 1) 3 1 u8 d.length (secd d) ∧ Below w1.heap.size w1 w1' :=
          ⟨w1.drewN nq, rfl, Nat.le_refl _, h71, h81, below_drewN (Below.refl _ _) _⟩
        rw [← hw1'.out]
        go_wp2_with
          (first
          | (go_at_call 29; refine (first_eq nm UA A un uc n c L r _ B hLr (by omega) HZ.out (by omega) hf).mono ?_; rintro e w1 ⟨rfl, hb1⟩; have hs1 := hb1.size; have h71 := own_below h7 hb1; have h81 := own_below h8 hb1)
          | (at_builtin; refine wpList_app1 rfl (.tmp 33) (.tmp 35) _ rfl (w.heap.size + 1) 3 8 _ info_int rfl Try.underlying33 rfl h71' rfl rfl (by omega) (by omega) (by omega) ?_; rintro v7 w2 hown7 hb2 hs2 hk2; obtain ⟨h82, hap2⟩ := hk2 _ _ _ _ _ _ h81' hap.symm; clear hk2)
          | (at_builtin; refine wpList_app1 rfl (.tmp 37) (.tmp 39) _ rfl (w.heap.size + 1) 3 8 _ info_int rfl Try.underlying33 rfl h82 rfl rfl (by omega) (by omega) (by omega) ?_; rintro v8 w3 hown8 hb3 hs3 hk3; obtain ⟨hown7', hap3⟩ := hk3 _ _ _ _ _ _ hown7 hap2.symm; clear hk3))
        have hp : ((n : Int) + ((r[0]'h1).toNat : Int)) = ((L.length + (r.data.toList.headD 0).toNat : Nat) : Int) := by rw [head_byte r h1, hL.len]; omega
        rw [hp] at hown7'
        exact let_step HD.out h1 HT.out hlen hown7' hown8 hap3 ((((hbl.trans (hb1.mono hsz)).trans (hb1'.mono (by omega))).trans hb2).trans hb3) (by simp [allL])
end Go.Proofs.Ytgbhpmbkhhbifaa
