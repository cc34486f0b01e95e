import Derived.Test.YtgbhpmbkhhbifaaLetters
namespace Go.Proofs.Ytgbhpmbkhhbifaa
open Go.RowKit
set_option linter.unusedVariables false
set_option linter.unusedSimpArgs false

/-- How the reference's three numbers stand to the program's four. -/
def RefAcc (o : Bool) (a b : Nat) (x y : Int) : Prop := (o = true → x = a ∧ y = b) ∧ (o = false → x = -1 ∧ y = -1)

def RefRel (B0 : Nat) (w : World) (L : List (List ByteArray)) (s : ByteArray) (t7 t8 t9 t10 : Value) (wr : World) : Prop :=
  ∃ (at_ : Nat) (d : List (Nat × Nat × Bool)), at_ ≤ s.size ∧ t10 = .int .i64 at_ ∧ t9 = .bool (allL d) ∧ d ++ Col.letters L (s.data.toList.drop at_) = Col.letters L s.data.toList ∧ d.length ≤ at_ ∧
    wr.ownsRow B0 3 1 t7 d.length (prim d) ∧ wr.ownsRow B0 3 1 t8 d.length (secd d) ∧ Apart t7 t8 ∧ Below B0 w wr

theorem head_at (s : ByteArray) (k : Nat) (h : k < s.size) : (s.data.toList.drop k).headD 0 = s[k] := by
  obtain ⟨⟨l⟩⟩ := s
  have h' : k < l.length := h
  show (l.drop k).headD 0 = l[k]
  rw [List.drop_eq_getElem_cons h']
  rfl

theorem ref_step {B0 : Nat} {w w3 : World} {L : List (List ByteArray)} {s : ByteArray} {d : List (Nat × Nat × Bool)} {p q m at_ : Nat} {k : Bool} {v7 v8 t9 : Value}
    (hd : d ++ Col.letters L (s.data.toList.drop at_) = Col.letters L s.data.toList) (hr : at_ < s.size) (ht : Col.take1 L (s.data.toList.drop at_) = (p, q, k, m)) (hlen : d.length ≤ at_)
    (h7 : w3.ownsRow B0 3 1 v7 (d.length + 1) (prim d ++ [.int .i64 p])) (h8 : w3.ownsRow B0 3 1 v8 (d.length + 1) (secd d ++ [.int .i64 q])) (hap : Apart v7 v8) (hb : Below B0 w w3)
    (h9 : t9 = .bool (allL (d ++ [(p, q, k)]))) (e : Int) (he : e = at_ + m) : RefRel B0 w L s v7 v8 t9 (.int .i64 e) w3 ∧ s.size - (intOf (.int .i64 e)).toNat < s.size - (intOf (.int .i64 at_)).toNat := by
  have hne : s.data.toList.drop at_ ≠ [] := by
    intro h0
    have := congrArg List.length h0
    rw [List.length_drop, ← Lib.size_eq] at this
    simp at this
    omega
  have h1 := Col.take1_pos L (s.data.toList.drop at_)
  have h2 := Col.take1_le L (s.data.toList.drop at_) hne
  rw [ht] at h1 h2
  rw [List.length_drop, ← Lib.size_eq] at h2
  simp only at h1 h2
  subst he
  refine ⟨⟨at_ + m, d ++ [(p, q, k)], by omega, by go_num, h9, ?_, ?_, ?_, ?_, hap, hb⟩, ?_⟩
  · rw [← hd, Col.letters_cons L (s.data.toList.drop at_) hne, ht]
    simp
  · rw [List.length_append, List.length_singleton]
    omega
  · simpa [prim] using h7
  · simpa [secd] using h8
  · simp only [intOf]
    omega

set_option maxRecDepth 100000 in
set_option maxHeartbeats 1000000 in
theorem refLetters_any (nm : ByteArray) (UA A : Option Addr) (un uc n c : Nat) (L : List (List ByteArray)) (s : ByteArray) (w : World) (B : Nat)
    (hL : RowsR w B A n L) (hB : B ≤ w.heap.size) (hz : SizedL L) (hs : s.size ≤ 1099511627776) :
    Calls Try.prog 14 #[.agg #[.string nm, .slice UA un uc, .slice A n c], .string s] w fun e w' => ∃ va vb,
      e = .returned (.tuple #[va, vb, .bool (allL (Col.letters L s.data.toList))]) ∧
      w'.ownsRow w.heap.size 3 1 va (Col.letters L s.data.toList).length (prim (Col.letters L s.data.toList)) ∧
      w'.ownsRow w.heap.size 3 1 vb (Col.letters L s.data.toList).length (secd (Col.letters L s.data.toList)) ∧ Below w.heap.size w w' := by
  have hn : n ≤ 140737488355328 := by have := hz.1; rw [hL.len] at this; exact this
  go_enter Try.func14, Try.ntmps14
  go_wp2
  go_loopw [7, 8, 9, 10] (fun t7 t8 t9 t10 wr => RefRel (w.heap.size + 1) (w.alloc (.cells #[Value.string nm, Value.slice UA un uc, Value.slice A n c] 28)) L s t7 t8 t9 t10 wr) (fun _ _ _ t10 _ => s.size - (intOf t10).toNat)
  case atStart => exact ⟨0, [], Nat.zero_le _, rfl, rfl, rfl, by simp, World.ownsRow_nil _ _ _ _, World.ownsRow_nil _ _ _ _, Apart.nil_left _, Below.refl _ _⟩
  case round =>
    obtain ⟨at_, d, hat, rfl, rfl, hd, hlen, h7, h8, hap, hbl⟩ := hrel
    have c0 : wr.cell? ⟨w.heap.size, 0, none⟩ = some (.string nm) := (hbl.cell (by simp)).trans (by rw [World.cell?_alloc_at _ _ _ _ rfl]; rfl)
    have c1 : wr.cell? ⟨w.heap.size, 1, none⟩ = some (.slice UA un uc) := (hbl.cell (by simp)).trans (by rw [World.cell?_alloc_at _ _ _ _ rfl]; rfl)
    have c2 : wr.cell? ⟨w.heap.size, 2, none⟩ = some (.slice A n c) := (hbl.cell (by simp)).trans (by rw [World.cell?_alloc_at _ _ _ _ rfl]; rfl)
    have hsz : w.heap.size + 1 ≤ wr.heap.size := by have := hbl.size; simpa using this
    have hLr : RowsR wr B A n L := (hL.below (((Below.refl B w).alloc hB _).trans (hbl.mono (by omega))))
    have HD := Lib.hid hd; clear hd
    have HZ := Lib.hid hz; clear hz
    have hes : (s.extract at_ s.size).size ≤ 9223372036854775807 := by rw [Lib.size_eq, extract_rest, List.length_drop, ← Lib.size_eq]; omega
    by_cases hr : at_ < s.size
    · have hd1 : d.length ≤ 1099511627776 := by omega
      go_wp2
      go_loop [11, 12, 13, 24] (fun t11 t12 t13 t24 => ∃ (k a b m : Nat) (o : Bool) (x y : Int), k ≤ n ∧ t24 = .int .i64 k ∧ Hid (Col.outerF (s.data.toList.drop at_) L k = (a, b, m, o)) ∧ t11 = .int .i64 x ∧ t12 = .int .i64 y ∧ t13 = .int .i64 m ∧ RefAcc o a b x y) (fun _ _ _ t24 => n - (intOf t24).toNat)
      case atStart => exact ⟨0, 0, 0, 0, false, -1, -1, Nat.zero_le _, rfl, rfl, rfl, rfl, rfl, ⟨(fun h => by cases h), fun _ => ⟨rfl, rfl⟩⟩⟩
      case round =>
        obtain ⟨k, a, b, m, o, x, y, hk, rfl, hacc, rfl, rfl, rfl, hxy⟩ := hrel
        by_cases hlt : k < n
        · obtain ⟨ad, l, A', n', c', rfl, hab, hl, hc, hSR⟩ := hLr.at_ hlt
          have hn' : n' ≤ 140737488355328 := by have := (HZ.out.2 l (List.mem_of_getElem? hl)).1; rw [hSR.len] at this; exact this
          have hsz' : ∀ x, x ∈ l → x.size ≤ 140737488355328 := (HZ.out.2 l (List.mem_of_getElem? hl)).2
          have HL := Lib.hid hl; clear hl
          have HSZ := Lib.hid hsz'; clear hsz'
          go_wp2
          go_loop [11, 12, 13, 33] (fun t11 t12 t13 t33 => ∃ (k' a b m : Nat) (o : Bool) (x y : Int), k' ≤ n' ∧ t33 = .int .i64 k' ∧ Hid (Col.innerF (s.data.toList.drop at_) l k (Col.outerF (s.data.toList.drop at_) L k) k' = (a, b, m, o)) ∧ t11 = .int .i64 x ∧ t12 = .int .i64 y ∧ t13 = .int .i64 m ∧ RefAcc o a b x y) (fun _ _ _ t33 => n' - (intOf t33).toNat)
          case atStart => exact ⟨0, a, b, m, o, x, y, Nat.zero_le _, rfl, hacc.out, rfl, rfl, rfl, hxy⟩
          case round =>
            clear hacc hxy
            obtain ⟨k', a, b, m, o, x, y, hk', rfl, hacc, rfl, rfl, rfl, hxy⟩ := hrel
            by_cases hlt' : k' < n'
            · obtain ⟨ad', v, rfl, hab', hv, hc'⟩ := hSR.at_ hlt'
              have hvs : v.size ≤ 140737488355328 := HSZ.out v (List.mem_of_getElem? hv)
              have HV := Lib.hid hv; clear hv
              by_cases hm : m < v.size
              · go_wp2_with (go_at_call 30; refine (begins_any _ _ _ hes (by omega)).mono ?_; rintro e w' ⟨rfl, rfl⟩)
                · have hp : preS v (s.extract at_ s.size) = true := by assumption
                  unfold preS at hp; rw [extract_rest] at hp
                  go_round
                  case rel => exact ⟨k' + 1, k, k', v.size, true, k, k', by omega, by go_num, Col.inner_hit hacc.out HV.out hm hp, rfl, rfl, rfl, ⟨fun _ => ⟨rfl, rfl⟩, (fun h => by cases h)⟩⟩
                  case measure => simp [intOf]; omega
                · have hp : preS v (s.extract at_ s.size) = false := by assumption
                  unfold preS at hp; rw [extract_rest] at hp
                  go_round
                  case rel => exact ⟨k' + 1, a, b, m, o, x, y, by omega, by go_num, Col.inner_miss hacc.out HV.out (fun _ => hp), rfl, rfl, rfl, hxy⟩
                  case measure => simp [intOf]; omega
              · go_wp2
                go_round
                case rel => exact ⟨k' + 1, a, b, m, o, x, y, by omega, by go_num, Col.inner_miss hacc.out HV.out (fun h => absurd h hm), rfl, rfl, rfl, hxy⟩
                case measure => simp [intOf]; omega
            · go_wp2
              obtain rfl : k' = n' := by omega
              have HLL := Lib.hid hSR.len
              go_round
              case rel => exact ⟨k + 1, a, b, m, o, x, y, by omega, by go_num, Col.outer_next HL.out (by rw [HLL.out]; exact hacc.out), rfl, rfl, rfl, hxy⟩
              case measure => simp [intOf]; omega
        · have hkn : k = n := by omega
          have hf : Hid (Col.firstF L (s.data.toList.drop at_) = (a, b, m, o)) := by show Col.firstF L _ = _; unfold Col.firstF; rw [hLr.len, ← hkn]; exact hacc.out
          have hne : s.data.toList.drop at_ ≠ [] := by
            intro h0
            have := congrArg List.length h0
            rw [List.length_drop, ← Lib.size_eq] at this
            simp at this
            omega
          clear hacc
          have hb0 : (s[at_]'hr).toNat < 256 := UInt8.toNat_lt _
          cases o with
          | true =>
            obtain ⟨rfl, rfl⟩ := hxy.1 rfl
            have HT := Lib.hid (Col.take1_true hf.out)
            have hm : m ≤ s.size - at_ := by
              have := Col.take1_le L _ hne
              rw [HT.out, List.length_drop, ← Lib.size_eq] at this
              exact this
            go_wp2_with
              (first
              | (at_builtin; refine wpList_app1 rfl (.tmp 71) (.tmp 73) _ rfl (w.heap.size + 1) 3 8 _ info_int rfl Try.underlying33 rfl h7 rfl rfl (by omega) (by omega) (by omega) ?_; rintro v7 w2 hown7 hb2 hs2 hk2; obtain ⟨h82, hap2⟩ := hk2 _ _ _ _ _ _ h8 hap.symm; clear hk2)
              | (at_builtin; refine wpList_app1 rfl (.tmp 75) (.tmp 77) _ rfl (w.heap.size + 1) 3 8 _ info_int rfl Try.underlying33 rfl h82 rfl rfl (by omega) (by omega) (by omega) ?_; rintro v8 w3 hown8 hb3 hs3 hk3; obtain ⟨hown7', hap3⟩ := hk3 _ _ _ _ _ _ hown7 hap2.symm; clear hk3))
            exact ref_step HD.out hr HT.out hlen hown7' hown8 hap3 ((hbl.trans hb2).trans hb3) (by simp [allL]) _ rfl
          | false =>
            obtain ⟨rfl, rfl⟩ := hxy.2 rfl
            have HT := Lib.hid (Col.take1_false hf.out)
            go_wp2_with fail
            go_quiet (fail)
            obtain ⟨w1', hw1', hs1', h71', h81', hb1'⟩ : ∃ w1', Hid (w1' = wr.drewN nq) ∧ wr.heap.size ≤ w1'.heap.size ∧ w1'.ownsRow (w.heap.size + 1) 3 1 u7 d.length (prim d) ∧ w1'.ownsRow (w.heap.size + 1) 3 1 u8 d.length (secd d) ∧ Below wr.heap.size wr w1' :=
              ⟨wr.drewN nq, rfl, Nat.le_refl _, h7, h8, below_drewN (Below.refl _ _) _⟩
            rw [← hw1'.out]
            clear h7 h8
            have h7 := h71'; have h8 := h81'; clear h71' h81'
            go_wp2_with
              (first
              | (at_builtin; refine wpList_app1 rfl (.tmp 71) (.tmp 73) _ rfl (w.heap.size + 1) 3 8 _ info_int rfl Try.underlying33 rfl h7 rfl rfl (by omega) (by omega) (by omega) ?_; rintro v7 w2 hown7 hb2 hs2 hk2; obtain ⟨h82, hap2⟩ := hk2 _ _ _ _ _ _ h8 hap.symm; clear hk2)
              | (at_builtin; refine wpList_app1 rfl (.tmp 75) (.tmp 77) _ rfl (w.heap.size + 1) 3 8 _ info_int rfl Try.underlying33 rfl h82 rfl rfl (by omega) (by omega) (by omega) ?_; rintro v8 w3 hown8 hb3 hs3 hk3; obtain ⟨hown7', hap3⟩ := hk3 _ _ _ _ _ _ hown7 hap2.symm; clear hk3))
            have hp : ((n : Int) + ((s[at_]'hr).toNat : Int)) = ((L.length + ((s.data.toList.drop at_).headD 0).toNat : Nat) : Int) := by rw [head_at s at_ hr, hL.len]; omega
            rw [hp] at hown7'
            exact ref_step HD.out hr HT.out hlen hown7' hown8 hap3 (((hbl.trans (hb1'.mono hsz)).trans hb2).trans hb3) (by simp [allL]) _ rfl
    · go_wp2
      go_ret3
      obtain rfl : at_ = s.size := by omega
      have hd := HD.out
      rw [Lib.size_eq, List.drop_length, Col.letters_nil, List.append_nil] at hd
      subst hd
      exact ⟨u7, u8, rfl, own_base h7 (by omega), own_base h8 (by omega), ((Below.refl _ _).alloc (Nat.le_refl _) _).trans (hbl.mono (by omega))⟩
end Go.Proofs.Ytgbhpmbkhhbifaa
