import Derived.Test.YtgbhpmbkhhbifaaSortStable
import Derived.Test.YtgbhpmbkhhbifaaRefCompare
import Derived.Lib.SliceRun
import Derived.Shelf.Abstract
namespace Go.Proofs.Ytgbhpmbkhhbifaa
open Go.RowKit Col Srt
set_option linter.unusedVariables false
set_option linter.unusedSimpArgs false

/-- The comparison of strings, as a comparison of byte arrays. -/
def cmpB (L : List (List ByteArray)) (x y : ByteArray) : Int := cmpS L x.data.toList y.data.toList
theorem cmpB_is (L : List (List ByteArray)) : IsCmp (cmpB L) := (cmpS_is L).comap (fun x : ByteArray => x.data.toList)
theorem cmpB_zero {L : List (List ByteArray)} {x y : ByteArray} (h : cmpB L x y = 0) : x = y := by
  have := cmpS_zero h
  cases x with | mk d => cases y with | mk e => cases d with | mk p => cases e with | mk q => simp at this; rw [this]

set_option maxHeartbeats 400000 in
theorem clone_strings (A : Option Addr) (n c : Nat) (l : List ByteArray) (w : World) (h : SR w w.heap.size A n l) (hn : n ≤ 1099511627776) :
    Calls Try.prog 35 #[.slice A n c] w fun e w' => ∃ v, e = .returned v ∧ w'.ownsRow w.heap.size 9 1 v n (l.map .string) ∧ Below w.heap.size w w' := by
  obtain ⟨i0, hi, hz0, hz1, hz2⟩ := info_parts info_string
  have he := fun (w : World) (a : Option Addr) (n c : Nat) => Lib.run_eql_slice_nil (P := Try.prog) w 41 9 a n c 0 0 Try.underlying41
  cases A with
  | none =>
    have h0 : n = 0 := by
      rcases Nat.eq_zero_or_pos n with e | e
      · exact e
      · obtain ⟨ad, hc, _⟩ := h.2 e; cases hc
    subst h0
    have hl : l = [] := List.eq_nil_of_length_eq_zero h.len
    subst hl
    go_enter Try.func35, Try.ntmps35
    go_wp2
    go_ret
    exact ⟨_, rfl, World.ownsRow_nil _ _ _ _, Below.refl _ _⟩
  | some ad =>
    have hcells : ∀ j u, (l.map Value.string)[j]? = some u → (w.alloc (.cells #[] 9)).cell? (ad.add j) = some u := fun j u hu => by
      have hj := (List.getElem?_eq_some_iff.1 hu).1
      have hl := h.1
      rcases Nat.eq_zero_or_pos n with e | e
      · rw [e] at hl; omega
      · obtain ⟨ad', hc, hb, hh⟩ := h.2 e
        injection hc with hc
        subst hc
        rw [World.cell?_alloc_lt _ _ _ (by rw [block_of_add]; exact hb)]
        exact hh j u hu
    have HCELL := Lib.hid hcells; clear hcells
    have HL := Lib.hid h.1; clear h
    have hown := Lib.hid (World.ownsRow_made (base := w.heap.size) (e := 9) (size := 1) w #[] 0 (Nat.le_refl _) (by unfold maxLen; omega) (by simp))
    go_enter Try.func35, Try.ntmps35
    go_wp2_with (at_builtin; refine wpList_append_own _ rfl (.tmp 5) (.tmp 6) _ rfl w.heap.size 9 i0 _ 1 16 Try.underlying41 hi hz0 hz1 hz2 rfl (by decide) _ 0 [] rfl hown.out ad n c (l.map .string) rfl HL.out HCELL.out (by simp [Value.oneCell']) (by unfold maxLen; omega) (by omega) (by simp) ?_; intro v' w1 hown1 hg _)
    simp only [Nat.zero_add, List.nil_append] at hown1
    go_wp2
    go_ret
    exact ⟨v', rfl, hown1, ((Below.refl _ w).alloc (Nat.le_refl _) _).grown hg (by simp) (fun k e => by cases e; exact Nat.le_refl _)⟩

/-- The orthography lies in a box. -/
def BoxO (w : World) (b : Nat) (nm : ByteArray) (UA : Option Addr) (un uc : Nat) (A : Option Addr) (n c : Nat) : Prop :=
  w.cell? ⟨b, 0, none⟩ = some (.string nm) ∧ w.cell? ⟨b, 1, none⟩ = some (.slice UA un uc) ∧ w.cell? ⟨b, 2, none⟩ = some (.slice A n c)
set_option maxHeartbeats 400000 in
theorem closure_any (nm : ByteArray) (UA A : Option Addr) (un uc n c b : Nat) (L : List (List ByteArray)) (x y : ByteArray) (w : World) (B : Nat)
    (hbox : BoxO w b nm UA un uc A n c) (hL : RowsR w B A n L) (hB : B ≤ w.heap.size) (hz : SizedL L) (hs : x.size ≤ 1099511627776) (ht : y.size ≤ 1099511627776) :
    Calls Try.prog 37 #[.string x, .string y, .pointer (some ⟨b, 0, none⟩)] w fun e w' => e = .returned (.int .i64 (cmpB L x y)) ∧ Below w.heap.size w w' := by
  have hc := Lib.hid (compare_any nm UA A un uc n c L x y w B hL hB hz hs ht)
  obtain ⟨k0, k1, k2⟩ := hbox
  clear hL
  go_enter Try.func37, Try.ntmps37
  go_wp2_with fail
  refine hc.out.mono ?_
  rintro e w1 ⟨rfl, hb⟩
  go_wp2
  go_ret
  exact ⟨rfl, hb⟩
theorem enters_closure : ∀ args w, (callFunc 37 args).run Try.prog w = .ok (.enter 37 args) w := enters_of Try.func37 (by kernel_rfl) rfl

set_option maxHeartbeats 400000 in
theorem ins_none (f : Value) (A : Option Addr) (n c : Nat) (w : World) :
    Calls Try.prog 51 #[.slice A n c, .int .i64 0, .int .i64 0, f] w fun e w' => e = .returned (.tuple #[]) ∧ w = w' := by
  go_enter Try.func51, Try.ntmps51
  go_wp2
  refine wp_loop_rounds 1 ?_
  rw [rounds_succ]
  go_wp2
  go_end0
  exact ⟨rfl, rfl⟩
set_option maxHeartbeats 400000 in
theorem stable_none (f : Value) (A : Option Addr) (c : Nat) (w : World) :
    Calls Try.prog 46 #[.slice A 0 c, .int .i64 0, f] w fun e w' => e = .returned (.tuple #[]) ∧ w = w' := by
  go_enter Try.func46, Try.ntmps46
  go_wp2
  refine wp_loop_rounds 1 ?_
  rw [rounds_succ]
  go_wp2_with fail
  refine (ins_none _ _ _ _ _).mono ?_
  rintro e w1 ⟨rfl, rfl⟩
  go_wp2
  refine wp_loop_rounds 1 ?_
  rw [rounds_succ]
  go_wp2
  go_end0
  exact ⟨rfl, rfl⟩
set_option maxHeartbeats 400000 in
theorem ssf_none (f : Value) (A : Option Addr) (c : Nat) (w : World) :
    Calls Try.prog 36 #[.slice A 0 c, f] w fun e w' => e = .returned (.tuple #[]) ∧ w = w' := by
  go_enter Try.func36, Try.ntmps36
  go_wp2_with fail
  refine (stable_none _ _ _ _).mono ?_
  rintro e w1 ⟨rfl, rfl⟩
  go_wp2
  go_end0
  exact ⟨rfl, rfl⟩
set_option maxHeartbeats 400000 in
theorem ssf_any (c : ByteArray → ByteArray → Int) (hc : IsCmp c) (Q : ByteArray → Prop) (g : Nat) (cb : Array Value) (blk off cap n : Nat) (d0 : Nat → Tag ByteArray) (w : World)
    (eg : ∀ args w, (callFunc g args).run Try.prog w = .ok (.enter g args) w) (hcmp : CmpOKS g cb c Q w blk off n) (hQ : ∀ j, j < n → Q (d0 j).1) (S : SS encS w blk off n d0 w)
    (hsz : n ≤ 140737488355328) (h0 : ∀ k, (d0 k).2 = k) :
    Calls Try.prog 36 #[.slice (some ⟨blk, off, none⟩) n cap, .func (.func g) #[] cb] w fun e w' => e = .returned (.tuple #[]) ∧
      ∃ d', SS encS w blk off n d' w' ∧ PermOn 0 n d0 d' ∧ SortedOn c d' 0 n := by
  have hc' := Lib.hid (stable_any c hc Q g cb blk off cap n d0 w w eg hcmp hQ S hsz h0)
  clear hcmp hQ S h0
  go_enter Try.func36, Try.ntmps36
  go_wp2_with fail
  refine hc'.out.mono ?_
  rintro e w1 ⟨rfl, h⟩
  have H := Lib.hid h; clear h
  go_wp2
  go_end0
  exact ⟨rfl, H.out⟩

theorem own_cells {w : World} {base e n c g : Nat} {xs : List Value} (h : w.ownsRow base e 1 (.slice (some ⟨g, 0, none⟩) n c) n xs) :
    (∀ j u, xs[j]? = some u → w.cell? ⟨g, 0 + j, none⟩ = some u) ∧ (∀ j, j < n → w.frozen? ⟨g, 0 + j, none⟩ = false) ∧ g < w.heap.size ∧ base ≤ g ∧ ∃ cur e' fr, w.heap[g]? = some (.cells cur e' fr) := by
  have hlt := h.lt g rfl
  rcases h.2 with ⟨h1, _⟩ | ⟨g', cap, cur, hv, hg, hh, hn, hm, hs, ht⟩
  · cases h1
  · injection hv with hv1 hv2 hv3
    injection hv1 with hv1
    injection hv1 with hv1
    subst hv1
    refine ⟨fun j u hu => ?_, fun j hj => ?_, hlt.2, hg, cur, e, _, hh⟩
    · rw [← ht, List.getElem?_take] at hu
      split at hu
      · simp [World.cell?, hh] at hu ⊢
        exact hu
      · cases hu
    · simp [World.frozen?, hh]

set_option maxHeartbeats 1000000 in
theorem sort_any (nm : ByteArray) (UA A LA : Option Addr) (un uc n c ln lc : Nat) (L : List (List ByteArray)) (l : List ByteArray) (w : World) (B : Nat)
    (hL : RowsR w B A n L) (hB : B ≤ w.heap.size) (hz : SizedL L) (hl : SR w w.heap.size LA ln l) (hln : ln ≤ 1099511627776) (hs : ∀ s, s ∈ l → s.size ≤ 1099511627776) :
    Calls Try.prog 22 #[.agg #[.string nm, .slice UA un uc, .slice A n c], .slice LA ln lc] w fun e w' => ∃ v ys, e = .returned v ∧ w'.ownsRow w.heap.size 9 1 v ln (ys.map .string) ∧
      StableOf (cmpB L) l ys ∧ Below w.heap.size w w' := by
  have hbe : Below w.heap.size w (w.alloc (.cells #[Value.string nm, Value.slice UA un uc, Value.slice A n c] 28)) := (Below.refl _ w).alloc (Nat.le_refl _) _
  have hcl := Lib.hid (clone_strings LA ln lc l (w.alloc (.cells #[Value.string nm, Value.slice UA un uc, Value.slice A n c] 28)) (Reads.on hl hbe) hln)
  have hll : l.length = ln := hl.len
  have HLL := Lib.hid hll; clear hll
  have HS := Lib.hid hs; clear hs
  have HRL := Lib.hid hL; clear hL
  clear hl
  go_enter Try.func22, Try.ntmps22
  go_wp2_with fail
  refine hcl.out.mono ?_
  rintro e w1 ⟨v, rfl, hown, hb1⟩
  clear hcl
  have HB1 : Hid (Below (w.heap.size + 1) (w.alloc (.cells #[Value.string nm, Value.slice UA un uc, Value.slice A n c] 28)) w1) := hb1.mono (by simp)
  have HBW : Hid (Below w.heap.size w w1) := hbe.trans (hb1.mono (by simp))
  clear hb1
  rcases Nat.eq_zero_or_pos ln with e0 | e0
  · subst e0
    have hl0 : l = [] := List.eq_nil_of_length_eq_zero HLL.out
    obtain ⟨A', c', rfl, _, _, _⟩ := own_form hown
    have HOWN := Lib.hid hown; clear hown
    go_wp2_with fail
    refine (ssf_none _ _ _ _).mono ?_
    rintro e w2 ⟨rfl, rfl⟩
    go_wp2
    go_ret
    refine ⟨_, [], rfl, ?_, ?_, HBW.out⟩
    · have := HOWN.out
      rw [hl0] at this
      exact own_base this (by simp)
    · rw [hl0]; exact ⟨[], by simp, List.Pairwise.nil, rfl⟩
  · obtain ⟨g, cap, hv⟩ : ∃ g cap, v = .slice (some ⟨g, 0, none⟩) ln cap := by
      rcases hown.2 with ⟨_, h2⟩ | ⟨g, cap, cur, hv, _⟩
      · omega
      · exact ⟨g, cap, hv⟩
    subst hv
    have hoc := Lib.hid (own_cells hown)
    have HOWN := Lib.hid hown; clear hown
    have HSS : Hid (SS encS w1 g 0 ln (tagged l) w1) := SS.start hoc.out.2.2.1 (fun j hj => by
        refine hoc.out.1 j _ ?_
        have hj' : j < l.length := by rw [HLL.out]; exact hj
        rw [List.getElem?_map, List.getElem?_eq_getElem hj']
        simp [tagged, encS, List.getD, hj']) hoc.out.2.1 hoc.out.2.2.2.2
    have hg1 : w.heap.size + 1 ≤ g := by have := hoc.out.2.2.2.1; simpa using this
    have HCMP : Hid (CmpOKS 37 #[.pointer (some ⟨w.heap.size, 0, none⟩)] (cmpB L) (fun s => s.size ≤ 1099511627776) w1 g 0 ln) := fun W d hW x y hx hy p => by
      have hb : Below (w.heap.size + 1) (w.alloc (.cells #[Value.string nm, Value.slice UA un uc, Value.slice A n c] 28)) p.at_ :=
        (HB1.out.trans (hW.belowBase hg1)).trans (p.bel.mono (Nat.le_trans (Nat.le_trans (by have := HB1.out.size; simpa using this) hW.size) (Nat.le_refl _)))
      refine closure_any nm UA A un uc n c w.heap.size L x y p.at_ B ⟨?_, ?_, ?_⟩ ?_ ?_ hz hx hy
      · exact (hb.cell (by simp)).trans (by rw [World.cell?_alloc_at _ _ _ _ rfl]; rfl)
      · exact (hb.cell (by simp)).trans (by rw [World.cell?_alloc_at _ _ _ _ rfl]; rfl)
      · exact (hb.cell (by simp)).trans (by rw [World.cell?_alloc_at _ _ _ _ rfl]; rfl)
      · exact (HRL.out.below ((Below.refl B w).alloc hB _)).below (hb.mono (by omega))
      · have := hb.size; simp at this; omega
    have hssf := Lib.hid (fun cap => ssf_any (cmpB L) (cmpB_is L) (fun s => s.size ≤ 1099511627776) 37 #[.pointer (some ⟨w.heap.size, 0, none⟩)] g 0 cap ln (tagged l) w1 enters_closure HCMP.out
      (fun j hj => by
        have hj' : j < l.length := by rw [HLL.out]; exact hj
        show ((l.getD j default)).size ≤ _
        rw [List.getD, List.getElem?_eq_getElem hj']
        exact HS.out _ (List.getElem_mem hj')) HSS.out (by omega) (fun _ => rfl))
    clear HSS HCMP hoc
    go_wp2_with fail
    refine (hssf.out cap).mono ?_
    rintro e w2 ⟨rfl, hd⟩
    have HD := Lib.hid hd; clear hd
    go_wp2
    go_ret
    obtain ⟨d', h1, h2, h3⟩ := HD.out
    refine ⟨_, (listOf d' ln).map (·.1), rfl, ?_, ?_, ?_⟩
    · refine own_base (base := w.heap.size + 1) ?_ (by omega)
      refine h1.owned (by simpa using HOWN.out) _ (by simp [listOf]) (fun j hj => ?_)
      simp [listOf, encS, hj]
    · have := stableOf_of (c := cmpB L) (xs := l) (d := d') (by rw [HLL.out]; exact h2) (by rw [HLL.out]; exact h3)
      rw [HLL.out] at this
      exact this
    · exact HBW.out.trans (h1.belowBase (by omega))
end Go.Proofs.Ytgbhpmbkhhbifaa
