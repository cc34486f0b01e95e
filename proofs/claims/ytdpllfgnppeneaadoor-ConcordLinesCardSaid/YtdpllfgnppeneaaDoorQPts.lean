import Derived.Test.YtdpllfgnppeneaaDoorG05
import Derived.Test.YtdpllfgnppeneaaDoorQOf
import Derived.Outline
namespace Go.Proofs.YtdpllfgnppeneaaDoor
open Go.RowKit Go.Shelf Ru
attribute [local go_sem] Oper.semAt_some
set_option linter.unusedVariables false
set_option linter.unusedSimpArgs false

def Tabs (w : World) : Prop := Lib.Utf8Tabs (Tryd.laysValid_ren.g 3) (Tryd.laysValid_ren.g 4) w
theorem Tabs.on {w w' : World} (h : Tabs w) (hb : Below w.heap.size w w') : Tabs w' := Utf8Tabs_below h hb
theorem valid_any (s : ByteArray) (w : World) (hs : s.size ≤ 9223372036854775807) (hT : Tabs w) :
    Calls Tryd.prog 85 #[.string s] w fun e w' => e = .returned (.bool (points s.data.toList).isSome) ∧ Below w.heap.size w w' :=
  mono_eq (Any.utf8_ValidString Tryd.laysValid s w hs hT) (by rw [validD_points])

set_option maxRecDepth 100000 in
set_option maxHeartbeats 2000000 in
theorem points_any (s : ByteArray) (w : World) (hs : s.size ≤ 1099511627776) (hT : Tabs w) :
    Calls Tryd.prog 52 #[.string s] w (PointsPost w (Ru.points s.data.toList)) := by
  have HV := Lib.hid (valid_any s w (by omega) hT)
  obtain ⟨o, ho⟩ : ∃ o, Hid (points s.data.toList = o) := ⟨_, rfl⟩
  rw [ho.out] at HV ⊢
  cases o with
  | none =>
    go_enter Tryd.func52, Tryd.ntmps52
    go_wp2_with fail
    refine HV.out.mono ?_
    rintro e w1 ⟨rfl, hb1⟩
    go_wp2
    go_ret2
    exact ⟨fun _ => rfl, (fun d h => by cases h), hb1⟩
  | some d =>
    refine (callsIn_wide (n := 4)).1 ?_
    refine callsIn_of_wp_marks Tryd.func52 rfl trivial ?_ rfl
    simp only [Tryd.ntmps52, List.size_toArray, List.length_cons, List.length_nil, Nat.reduceAdd, Nat.reduceSub, Array.replicate_succ, Array.replicate_zero, List.push_toArray, List.append_toArray, List.nil_append, List.cons_append]
    gi_wp2_with (first
      | (refine ⟨trivial, ?_⟩; gi_at_call 85; refine (callsIn_wide.2 HV.out).mono ?_; rintro e w1 ⟨rfl, hb1⟩; have hsz1 := hb1.size)
      | (refine ⟨trivial, ?_⟩; gi_at_call 86; refine (callsIn_wide.2 (scalars_any s _)).mono ?_; rintro e w2 ⟨rfl, rfl⟩)
      | (gi_at_call 85; refine (callsIn_wide.2 HV.out).mono ?_; rintro e w1 ⟨rfl, hb1⟩; have hsz1 := hb1.size)
      | (gi_at_call 86; refine (callsIn_wide.2 (scalars_any s _)).mono ?_; rintro e w2 ⟨rfl, rfl⟩))
    have HT := Lib.hid hT; clear hT
    obtain ⟨i0, hi, hz0, hz1, hz2⟩ := info_parts info_int
    have hbox0 := Boxed.new w1 45 (.slice none 0 0)
    have hbox1 := hbox0.alloc (.cells #[.string s] 9)
    have hcs : ((w1.alloc (.cells #[.slice none 0 0] 45)).alloc (.cells #[.string s] 9)).cell? ⟨w1.heap.size + 1, 0, none⟩ = some (.string s) := by
      rw [World.cell?_alloc_at _ _ _ _ (by simp)]
      rfl
    have hb2 : Below w.heap.size w ((w1.alloc (.cells #[.slice none 0 0] 45)).alloc (.cells #[.string s] 9)) := (hb1.alloc hsz1 _).alloc (by simp; omega) _
    have hz2' : ((w1.alloc (.cells #[.slice none 0 0] 45)).alloc (.cells #[.string s] 9)).heap.size = w1.heap.size + 2 := by simp
    obtain ⟨W2, hW2⟩ : ∃ W2, W2 = (w1.alloc (.cells #[.slice none 0 0] 45)).alloc (.cells #[.string s] 9) := ⟨_, rfl⟩
    rw [← hW2] at hbox1 hcs hb2 hz2' ⊢
    clear hW2 hbox0
    obtain ⟨B, hB⟩ : ∃ B, w1.heap.size = B := ⟨_, rfl⟩
    rw [hB] at hbox1 hcs hz2' hsz1 ⊢
    clear hB hb1
    have hBz : B < W2.heap.size := by omega
    refine wpIn_range_next rfl (by omega) (gf := 109) (lb := #[.pointer (some ⟨B + 1, 0, none⟩)]) rfl trivial (enters_of Tryd.func109 (by kernel_rfl) rfl)
      (scalars_next Fence.wide _ trivial rfl (by omega) (B + 1) s d (by omega) ho.out W2 (by omega) hcs) (Below.refl _ _) (fun _ => rfl)
      (fun pre W => (∃ v, Boxed W B 45 v ∧ W.ownsRow w.heap.size 3 1 v pre.length (pre.map fun x => Value.int .i64 (x.2 : Int)) ∧ True) ∧ Below w.heap.size w W)
      (OwnFrom.and (Own.from (holdsRow_own w.heap.size B 45 3 1 (fun pre : List (Nat × Nat) => pre.length) (fun pre => pre.map fun x => Value.int .i64 (x.2 : Int)) (fun _ _ => True)) _) (ownFrom_below (Nat.le_refl _) (by omega)))
      ⟨⟨_, hbox1, World.ownsRow_nil _ _ _ _, trivial⟩, hb2⟩
      (fun x => { tmps := #[.string s, undef, .slice none 0 0, .bool false, .pointer (some ⟨B, 0, none⟩), undef, .int .i64 (x.2 : Int), .string s, .bool true, .bool false, .string s, .func (.func 109) #[] #[.pointer (some ⟨B + 1, 0, none⟩)], .int .i64 (x.1 : Int), .int .i64 (x.2 : Int), undef, undef, undef, undef, undef], defers := [] })
      ?assign ?body ?done
    case assign =>
      intro l x W K hK
      unfold encX
      gi_wp2
      exact hK
    case body =>
      rintro l pre x W ⟨⟨v, hbx, hrow, _⟩, hbw⟩ ⟨rest, hnx⟩
      have hlen : pre.length < d.length := by
        have h1 := congrArg List.length hnx
        rw [ixs_length, List.length_append] at h1
        simp at h1
        omega
      have hdl : d.length ≤ s.size := by
        have := points_length _ _ _ (Nat.le_refl _) ho.out
        rwa [← Lib.size_eq] at this
      have hcx := hbx.cell
      have hfx := hbx.frozen
      have hszw := hbw.size
      clear hnx
      gi_wp2_with (gi_at_builtin; refine wpListIn_append_own _ rfl _ _ 45 rfl w.heap.size 3 i0 (.int .i64 0) 1 8 Tryd.underlying45 hi hz0 hz1 hz2 rfl (by decide) _ _ _ rfl (hrow.alloc _) ⟨W.heap.size, 0, none⟩ 1 1 [.int .i64 (x.2 : Int)] rfl rfl (cell_one_new _ _ _) (by simp [Value.oneCell']) (by unfold maxLen; omega) (by omega) (by simp; omega) ?_
                   intro v' w3 hown' hgrow _
                   obtain ⟨g', cap', rfl⟩ := ownsRow_succ hown'
                   obtain ⟨hv1, hv2, hr2, hk2, hbb2⟩ := hbx.appended (by decide) hrow hszw (by omega) hown' hgrow
                   have hcx3 := hv1.cell
                   have hfx3 := hv1.frozen
                   clear hcx hfx)
      refine ⟨hk2, ⟨hk2.size, fun k o h1 h2 => hk2.same k o h1 (Obj.not_cells_of_walk h2)⟩, ⟨_, hv2, ?_, trivial⟩, hbw.trans hbb2⟩
      rw [List.length_append, List.map_append]
      exact hr2
    case done =>
      rintro D xs W hD rfl ⟨⟨v, hbx, hrow, _⟩, hbw⟩ hK
      have hcx := hbx.cell
      gi_wp2
      refine ⟨by simp, .inl ⟨_, _, rfl, run_takeDeferred hK, ?_⟩⟩
      refine ⟨_, results_tmp2 rfl _ _ _, ?_⟩
      have hfin := ownsRow_putObj hrow (.deferred none) hK rfl
      have hbf := hbw.trans (belowK_b (w := w) (Nat.le_refl _) W D _ (.deferred none) (by omega) hK rfl rfl)
      refine ⟨(fun h => by cases h), fun d' hd' => ?_, hbf⟩
      cases hd'
      refine ⟨v, rfl, ?_⟩
      rw [ixs_length] at hfin
      have e1 : (ixs 0 d).map (fun x => Value.int .i64 (x.2 : Int)) = d.map fun (p : Nat) => Value.int .i64 (p : Int) := by
        conv => rhs; rw [← ixs_snd d 0]
        rw [List.map_map]
        rfl
      rw [e1] at hfin
      exact hfin
end Go.Proofs.YtdpllfgnppeneaaDoor
