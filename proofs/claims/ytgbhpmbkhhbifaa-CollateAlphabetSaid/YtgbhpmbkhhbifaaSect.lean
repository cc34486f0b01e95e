import Derived.Test.YtgbhpmbkhhbifaaRefLetters
namespace Go.Proofs.Ytgbhpmbkhhbifaa
open Go.RowKit
set_option linter.unusedVariables false
set_option linter.unusedSimpArgs false

set_option maxHeartbeats 400000 in
theorem section_any (nm : ByteArray) (UA A : Option Addr) (un uc n c : Nat) (L : List (List ByteArray)) (s : ByteArray) (w : World) (B : Nat)
    (hL : RowsR w B A n L) (hB : B ≤ w.heap.size) (hz : SizedL L) (hs : s.size ≤ 140737488355328) :
    Calls Try.prog 16 #[.agg #[.string nm, .slice UA un uc, .slice A n c], .string s] w fun e w' => e = .returned (.int .i64 (Col.section_ L s.data.toList)) ∧ Below w.heap.size w w' := by
  have hL1 : RowsR (w.alloc (.cells #[Value.string nm, Value.slice UA un uc, Value.slice A n c] 28)) B A n L := hL.below ((Below.refl B w).alloc hB _)
  have hbe : Below w.heap.size w (w.alloc (.cells #[Value.string nm, Value.slice UA un uc, Value.slice A n c] 28)) := (Below.refl _ w).alloc (Nat.le_refl _) _
  by_cases hr : s.toList.isEmpty = true
  · go_enter Try.func16, Try.ntmps16
    go_wp2
    go_ret
    have hr0 : s.data.toList = [] := by rw [← Lib.toList_data]; simpa using hr
    exact ⟨by rw [hr0]; rfl, hbe⟩
  · have hr' : s.toList.isEmpty = false := by simpa using hr
    clear hr
    obtain ⟨⟨a, b, m, o⟩, hf⟩ : ∃ x, Hid (Col.firstF L s.data.toList = x) := ⟨_, rfl⟩
    have HN := data_pos (size_pos hr')
    go_enter Try.func16, Try.ntmps16
    cases o with
    | true =>
      go_wp2_with (go_at_call 29; refine (first_eq nm UA A un uc n c L s _ B hL1 (by simp; omega) hz hs hf).mono ?_; rintro e w1 ⟨rfl, hb1⟩)
      go_ret
      exact ⟨by rw [Col.section_yes HN hf.out]; rfl, hbe.trans (hb1.mono (by simp))⟩
    | false =>
      go_wp2_with (go_at_call 29; refine (first_eq nm UA A un uc n c L s _ B hL1 (by simp; omega) hz hs hf).mono ?_; rintro e w1 ⟨rfl, hb1⟩)
      go_ret
      exact ⟨by rw [Col.section_no HN hf.out]; rfl, hbe.trans (hb1.mono (by simp))⟩

set_option maxHeartbeats 400000 in
theorem refSection_any (nm : ByteArray) (UA A : Option Addr) (un uc n c : Nat) (L : List (List ByteArray)) (s : ByteArray) (w : World) (B : Nat)
    (hL : RowsR w B A n L) (hB : B ≤ w.heap.size) (hz : SizedL L) (hs : s.size ≤ 1099511627776) :
    Calls Try.prog 17 #[.agg #[.string nm, .slice UA un uc, .slice A n c], .string s] w fun e w' => e = .returned (.int .i64 (Col.section_ L s.data.toList)) ∧ Below w.heap.size w w' := by
  have hn : n ≤ 140737488355328 := by have := hz.1; rw [hL.len] at this; exact this
  have hL1 : RowsR (w.alloc (.cells #[Value.string nm, Value.slice UA un uc, Value.slice A n c] 28)) B A n L := hL.below ((Below.refl B w).alloc hB _)
  have hbe : Below w.heap.size w (w.alloc (.cells #[Value.string nm, Value.slice UA un uc, Value.slice A n c] 28)) := (Below.refl _ w).alloc (Nat.le_refl _) _
  have hc2 : ∀ w1, Below (w.alloc (.cells #[Value.string nm, Value.slice UA un uc, Value.slice A n c] 28)).heap.size (w.alloc (.cells #[Value.string nm, Value.slice UA un uc, Value.slice A n c] 28)) w1 →
      w1.cell? ⟨w.heap.size, 2, none⟩ = some (.slice A n c) := fun w1 hb1 => (hb1.cell (by simp)).trans (by rw [World.cell?_alloc_at _ _ _ _ rfl]; rfl)
  rw [← Col.refSection_eq]
  obtain ⟨d, hd⟩ : ∃ d, Hid (Col.letters L s.data.toList = d) := ⟨_, rfl⟩
  have hlet := refLetters_any nm UA A un uc n c L s (w.alloc (.cells #[Value.string nm, Value.slice UA un uc, Value.slice A n c] 28)) B hL1 (by simp; omega) hz hs
  rw [hd.out] at hlet ⊢
  have HLET := Lib.hid hlet; clear hlet
  have HLl := Lib.hid hL.len
  go_enter Try.func17, Try.ntmps17
  go_wp2_with fail
  refine HLET.out.mono ?_
  rintro e w1 ⟨va, vb, rfl, hva, hvb, hb1⟩
  have hlt := (hva.lt)
  obtain ⟨A', c', rfl, hcc, hcm, hrd⟩ := own_form hva
  obtain ⟨A2, c2, rfl, hcc2, hcm2, hrd2⟩ := own_form hvb
  have hbe1 : Below w.heap.size w w1 := hbe.trans (hb1.mono (by simp))
  have hc2' := hc2 w1 hb1
  clear hc2 hL1 hvb hva hb1
  clear hlt
  cases d with
  | nil =>
    have hl : ((([] : List (Nat × Nat × Bool)).length : Nat) : Int) = 0 := rfl
    go_wp2_with fail
    go_quiet (fail)
    go_wp2_with fail
    go_ret
    exact ⟨rfl, below_drewN hbe1 _⟩
  | cons x t =>
    obtain ⟨p, q, k⟩ := x
    obtain ⟨ad, u, rfl, _, hu, hcu⟩ := hrd.at_ (k := 0) (by simp)
    have hcu' : w1.cell? ad = some (.int .i64 (p : Int)) := by
      simp [prim] at hu
      rw [hu]
      simpa [Addr.add] using hcu
    clear hcu hu hrd hrd2
    obtain ⟨tl, htl⟩ : ∃ tl, tl = t.length := ⟨_, rfl⟩
    rw [List.length_cons, ← htl] at *
    clear htl
    by_cases hp : n ≤ p
    · have hp' : decide (n ≤ p) = true := by simpa using hp
      go_wp2_with fail
      go_quiet (fail)
      go_wp2_with fail
      go_ret
      exact ⟨ret_int (by simp only [Col.refSection]; rw [if_pos (by rw [HLl.out]; exact hp)]), below_drewN hbe1 _⟩
    · have hp' : decide (n ≤ p) = false := by simpa using hp
      go_wp2_with fail
      go_quiet (fail)
      go_wp2_with fail
      go_ret
      exact ⟨ret_int (by simp only [Col.refSection]; rw [if_neg (by rw [HLl.out]; exact hp)]), below_drewN hbe1 _⟩

set_option maxHeartbeats 400000 in
theorem head_any (nm : ByteArray) (UA A : Option Addr) (un uc n c : Nat) (L : List (List ByteArray)) (i : Int) (w : World) (B : Nat)
    (hL : RowsR w B A n L) (hB : B ≤ w.heap.size) (hz : SizedL L) :
    Calls Try.prog 24 #[.agg #[.string nm, .slice UA un uc, .slice A n c], .int .i64 i] w fun e w' => e = .returned (.string (Col.headOf L i)) ∧ Below w.heap.size w w' := by
  have hbe : Below w.heap.size w (w.alloc (.cells #[Value.string nm, Value.slice UA un uc, Value.slice A n c] 28)) := (Below.refl _ w).alloc (Nat.le_refl _) _
  have HL := hL.len
  by_cases hi : 0 ≤ i ∧ i < (n : Int)
  · obtain ⟨k, rfl⟩ : ∃ k : Nat, i = k := ⟨i.toNat, by omega⟩
    have hk : k < n := by omega
    obtain ⟨ad, l, A', n', c', rfl, hab, hl, hc, hSR⟩ := hL.at_ hk
    have hcell : (w.alloc (.cells #[Value.string nm, Value.slice UA un uc, Value.slice (some ad) n c] 28)).cell? (ad.add k) = some (Value.slice A' n' c') := (World.cell?_alloc_lt _ _ _ (by rw [block_of_add]; omega)).trans hc
    rw [Col.headOf_in hl]
    have HL2 := hSR.len
    clear HL hi hc hl
    cases l with
    | nil =>
      have hn0 : n' = 0 := by simpa using HL2.symm
      subst hn0
      clear HL2
      go_enter Try.func24, Try.ntmps24
      go_wp2
      go_ret
      exact ⟨rfl, hbe⟩
    | cons x t =>
      have hn0 : 0 < n' := by rw [← HL2]; simp
      obtain ⟨ad', x', rfl, hab', hx, hcx⟩ := hSR.at_ hn0
      have hxx : x = x' := by simpa using hx
      subst hxx
      have hcell' : (w.alloc (.cells #[Value.string nm, Value.slice UA un uc, Value.slice (some ad) n c] 28)).cell? ad' = some (Value.string x) := (World.cell?_alloc_lt _ _ _ (by omega)).trans (by simpa [Addr.add] using hcx)
      clear HL2 hx hcx
      have hn1 : ((n' : Int) == 0) = false := by simp; omega
      go_enter Try.func24, Try.ntmps24
      go_wp2
      go_ret
      exact ⟨rfl, hbe⟩
  · rw [Col.headOf_out (by rw [HL]; exact hi)]
    clear HL
    by_cases h0 : i < 0
    · go_enter Try.func24, Try.ntmps24
      go_wp2
      go_ret
      exact ⟨rfl, hbe⟩
    · have h1 : (n : Int) ≤ i := by omega
      clear hi
      go_enter Try.func24, Try.ntmps24
      go_wp2
      go_ret
      exact ⟨rfl, hbe⟩

set_option maxHeartbeats 400000 in
theorem refHead_any (nm : ByteArray) (UA A : Option Addr) (un uc n c : Nat) (L : List (List ByteArray)) (i : Int) (w : World) (B : Nat)
    (hL : RowsR w B A n L) (hB : B ≤ w.heap.size) (hz : SizedL L) (hfull : ∀ l, l ∈ L → l ≠ []) :
    Calls Try.prog 25 #[.agg #[.string nm, .slice UA un uc, .slice A n c], .int .i64 i] w fun e w' => e = .returned (.string (Col.headOf L i)) ∧ Below w.heap.size w w' := by
  have hbe : Below w.heap.size w (w.alloc (.cells #[Value.string nm, Value.slice UA un uc, Value.slice A n c] 28)) := (Below.refl _ w).alloc (Nat.le_refl _) _
  have HL := hL.len
  by_cases hi : 0 ≤ i ∧ i < (n : Int)
  · obtain ⟨k, rfl⟩ : ∃ k : Nat, i = k := ⟨i.toNat, by omega⟩
    have hk : k < n := by omega
    obtain ⟨ad, l, A', n', c', rfl, hab, hl, hc, hSR⟩ := hL.at_ hk
    have hcell : (w.alloc (.cells #[Value.string nm, Value.slice UA un uc, Value.slice (some ad) n c] 28)).cell? (ad.add k) = some (Value.slice A' n' c') := (World.cell?_alloc_lt _ _ _ (by rw [block_of_add]; omega)).trans hc
    rw [Col.headOf_in hl]
    have hne := hfull l (List.mem_of_getElem? hl)
    have HL2 := hSR.len
    clear HL hi hc hl hfull
    cases l with
    | nil => exact absurd rfl hne
    | cons x t =>
      have hn0 : 0 < n' := by rw [← HL2]; simp
      obtain ⟨ad', x', rfl, hab', hx, hcx⟩ := hSR.at_ hn0
      have hxx : x = x' := by simpa using hx
      subst hxx
      have hcell' : (w.alloc (.cells #[Value.string nm, Value.slice UA un uc, Value.slice (some ad) n c] 28)).cell? ad' = some (Value.string x) := (World.cell?_alloc_lt _ _ _ (by omega)).trans (by simpa [Addr.add] using hcx)
      clear HL2 hx hcx hne
      go_enter Try.func25, Try.ntmps25
      go_wp2
      go_ret
      exact ⟨rfl, hbe⟩
  · rw [Col.headOf_out (by rw [HL]; exact hi)]
    clear HL
    by_cases h0 : i < 0
    · go_enter Try.func25, Try.ntmps25
      go_wp2
      go_ret
      exact ⟨rfl, hbe⟩
    · have h1 : (n : Int) ≤ i := by omega
      clear hi
      go_enter Try.func25, Try.ntmps25
      go_wp2
      go_ret
      exact ⟨rfl, hbe⟩
end Go.Proofs.Ytgbhpmbkhhbifaa
