import Derived.Test.YtacfeabdeaikhaaDoorPoints
namespace Go.Proofs.YtacfeabdeaikhaaDoor
open Go.RowKit
set_option linter.unusedVariables false
set_option linter.unusedSimpArgs false

theorem scalar_le {p : Nat} (h : Ru.scalarB (p : Int) = true) : p ≤ 1114111 := by
  unfold Ru.scalarB at h
  rw [Bool.and_eq_true, Bool.and_eq_true] at h
  have := of_decide_eq_true h.1.2
  omega
/-- What 'Points' hands back. -/
def PointsPost (w : World) (o : Option (List Nat)) (e : Ending) (w' : World) : Prop :=
  (o = none → e = .returned (.tuple #[.slice none 0 0, .bool false])) ∧
  (∀ d, o = some d → ∃ v, e = .returned (.tuple #[v, .bool true]) ∧ w'.ownsRow w.heap.size 3 1 v d.length (d.map fun (p : Nat) => Value.int .i64 (p : Int))) ∧ Below w.heap.size w w'

set_option maxHeartbeats 1000000 in
set_option maxRecDepth 100000 in
theorem points02_any (s : ByteArray) (w : World) (hs : s.size ≤ 1099511627776) :
    Calls Tryd.prog 33 #[.string s] w (PointsPost w (Ru.points s.data.toList)) := by
  obtain ⟨i0, hi, hz0, hz1, hz2⟩ := info_parts info_int
  go_enter Tryd.func33, Tryd.ntmps33
  go_wp2_with fail
  go_loopw [4, 5, 6, 7] (fun v4 v5 _ _ wr => ∃ (at_ : Nat) (d : List Nat), at_ ≤ s.size ∧ v5 = .int .i64 at_ ∧ d.length ≤ at_ ∧ wr.ownsRow w.heap.size 3 1 v4 d.length (d.map fun (p : Nat) => Value.int .i64 (p : Int)) ∧
    Hid (Ru.points s.data.toList = (Ru.points (s.data.toList.drop at_)).map (d ++ ·)) ∧ Hid (Below w.heap.size w wr)) (fun _ v5 _ _ _ => s.size - (intOf v5).toNat)
  case atStart => exact ⟨0, [], Nat.zero_le _, rfl, Nat.le_refl _, World.ownsRow_nil _ _ _ _, (show _ = _ by cases h : Ru.points s.data.toList <;> simp [h]), Below.refl _ _⟩
  case round =>
    obtain ⟨at_, d, hat, rfl, hda, hown, HD, HB⟩ := hrel
    have hszw := HB.out.size
    by_cases hr : at_ < s.size
    · have hne : s.data.toList.drop at_ ≠ [] := by
        intro h0
        have := congrArg List.length h0
        rw [List.length_drop, ← Lib.size_eq] at this
        simp at this
        omega
      have HF := Lib.hid (first02_any s at_ wr hr hs)
      obtain ⟨o, ho⟩ : ∃ o, Hid (Ru.firstL (s.data.toList.drop at_) = o) := ⟨_, rfl⟩
      rw [ho.out] at HF
      have HOWN := Lib.hid hown; clear hown
      cases o with
      | none =>
        have HP : Hid (Ru.points s.data.toList = none) := by
          show _ = _
          rw [HD.out, Ru.points_none hne ho.out]
          rfl
        go_wp2_with fail
        refine HF.out.mono ?_
        rintro e w1 ⟨rfl, hb1⟩
        have HB1 := Lib.hid hb1; clear hb1
        unfold firstV
        go_wp2
        go_ret2
        refine ⟨fun _ => rfl, (fun d hd => by rw [HP.out] at hd; cases hd), HB.out.trans (HB1.out.mono hszw)⟩
      | some pn =>
        obtain ⟨p, n⟩ := pn
        obtain ⟨f1, f2, f3, f4, _⟩ := Ru.firstL_some ho.out
        rw [List.length_drop, ← Lib.size_eq] at f3
        have hp1 : p ≤ 1114111 := scalar_le f4
        clear f4
        have HP : Hid (Ru.points s.data.toList = (Ru.points (s.data.toList.drop (at_ + n))).map ((d ++ [p]) ++ ·)) := by
          show _ = _
          rw [HD.out, Ru.points_some ho.out, List.drop_drop, Option.map_map]
          congr 1
          funext x
          simp
        have hn0 : ((n : Int) == 0) = false := beq_eq_false_iff_ne.2 (by omega)
        go_wp2_with fail
        refine HF.out.mono ?_
        rintro e w1 ⟨rfl, hb1⟩
        have HB1 := Lib.hid hb1; clear hb1
        have HOWN1 := Lib.hid (own_below HOWN.out HB1.out)
        have hszw1 : w.heap.size ≤ w1.heap.size := Nat.le_trans hszw HB1.out.size
        have HBB : Hid (Below w.heap.size w w1) := HB.out.trans (HB1.out.mono hszw)
        clear HOWN HB1
        unfold firstV
        go_wp2_with (at_builtin; refine wpList_app1 rfl (.tmp 20) (.tmp 22) _ rfl w.heap.size 3 8 _ info_int rfl Tryd.underlying29 rfl HOWN1.out rfl rfl (by omega) (by omega) (by omega) ?_; rintro v7 w2 hown7 hb2 hs2 hk2; clear hk2)
        have HB2 := Lib.hid hb2; clear hb2
        go_roundw
        case rel => exact ⟨at_ + n, d ++ [p], by omega, by go_num, by simp; omega, by simpa using hown7, HP, HBB.out.trans HB2.out⟩
        case measure => simp [intOf]; omega
    · have hat' : at_ = s.size := by omega
      have HP : Hid (Ru.points s.data.toList = some d) := by
        show _ = _
        rw [HD.out, hat', Lib.size_eq, List.drop_length, Ru.points_nil]
        simp
      clear hat'
      go_wp2
      go_ret2
      refine ⟨(fun h => by rw [HP.out] at h; cases h), fun d' hd => ?_, HB.out⟩
      rw [HP.out] at hd
      cases hd
      exact ⟨_, rfl, hown⟩
end Go.Proofs.YtacfeabdeaikhaaDoor
