import Derived.Test.YtdpllfgnppeneaaDoorQPts
import Derived.Test.YtdpllfgnppeneaaDoorG05
import Derived.Test.YtdpllfgnppeneaaDoorG03
namespace Go.Proofs.YtdpllfgnppeneaaDoor
open Go.RowKit Go.Shelf Ru
attribute [local go_sem] Oper.semAt_some
set_option linter.unusedVariables false
set_option linter.unusedSimpArgs false

/-- What the loop has collected, as the world holds it. -/
def CluI (w1 : World) (B : Nat) (d : List Nat) (pre : List (Nat × Nat)) (W : World) : Prop :=
  ∃ (v : Value) (done : List (List Nat)) (c : List Nat) (f : Nat), Boxed W B 31 v ∧ W.ownsRow B 9 1 v done.length (strV done) ∧ Boxed W (B + 1) 3 (.int .i64 (f : Int)) ∧ RelP d pre done c f ∧ Below B w1 W
theorem cluI_own (w1 : World) (B n : Nat) (d : List Nat) (hn : B ≤ n) : OwnFrom n (CluI w1 B d) := by
  rintro pre X Y row ⟨v, done, c, f, h1, h2, h3, h4, h5⟩ hg hrow
  have hx : ∀ {k : Nat} {t : TypeId} {u : Value}, Boxed X k t u → some k ≠ row := by
    intro k t u hv e'
    obtain ⟨_, o, ho, hc⟩ := hrow k e'.symm
    rw [show X.heap[k]? = _ from hv] at ho; cases ho; cases hc
  refine ⟨v, done, c, f, h1.kept hg (hx h1), h2.kept hg ?_, h3.kept hg (hx h3), h4, h5.grown hg ?_ fun r e => ?_⟩
  · rcases h2.2 with ⟨rfl, _⟩ | ⟨g, cap, cur, rfl, _, hgb, _⟩
    · exact .inl rfl
    · refine .inr fun e' => ?_
      obtain ⟨_, o, ho, hc⟩ := hrow g (by simpa [Value.ownBlock] using e'.symm)
      rw [hgb] at ho; cases ho; cases hc
  · have := h1.lt
    omega
  · exact Nat.le_trans hn (hrow r e).1

theorem cell_new1 {w w1 : World} {v : Value} {t : TypeId} (hb1 : Below (w.alloc (.cells #[v] t)).heap.size (w.alloc (.cells #[v] t)) w1) : w1.cell? ⟨w.heap.size, 0, none⟩ = some v := by
  rw [hb1.cell (by simp), World.cell?_alloc_at _ _ _ _ rfl]
  rfl
theorem size_new1 {w w1 : World} {v : Value} {t : TypeId} (hb1 : Below (w.alloc (.cells #[v] t)).heap.size (w.alloc (.cells #[v] t)) w1) : w.heap.size + 1 ≤ w1.heap.size := by
  have := hb1.size
  simpa using this
theorem cell_new2 {w w1 : World} {v : Value} {t : TypeId} (hb1 : Below (w.alloc (.cells #[v] t)).heap.size (w.alloc (.cells #[v] t)) w1) (o p : Obj) : ((w1.alloc o).alloc p).cell? ⟨w.heap.size, 0, none⟩ = some v := by
  have := size_new1 hb1
  rw [World.cell?_alloc_lt _ _ _ (by simp; omega), World.cell?_alloc_lt _ _ _ (by show w.heap.size < w1.heap.size; omega)]
  exact cell_new1 hb1
theorem below_new1 {w w1 : World} {v : Value} {t : TypeId} (hb1 : Below (w.alloc (.cells #[v] t)).heap.size (w.alloc (.cells #[v] t)) w1) : Below w.heap.size w w1 := (below_new w _).trans (hb1.mono (by simp))

set_option maxRecDepth 100000 in
set_option maxHeartbeats 4000000 in
theorem clusters_any (s : ByteArray) (w : World) (hs : s.size ≤ 1099511627) (hT : Tabs w) :
    Calls Tryd.prog 53 #[.string s] w fun e w' => ∃ v, e = .returned v ∧ w'.ownsRow w.heap.size 9 1 v (clusB s.data.toList).length ((clusB s.data.toList).map .string) ∧ Below w.heap.size w w' := by
  have HV := Lib.hid fun W (hW : Below w.heap.size w W) => valid_any s W (by omega) (hT.on hW)
  obtain ⟨o, ho⟩ : ∃ o, Hid (points s.data.toList = o) := ⟨_, rfl⟩
  rw [ho.out] at HV
  cases o with
  | none =>
    have HRES : Hid (clusB s.data.toList = []) := by
      show _ = _
      unfold clusB
      rw [ho.out]
    rw [HRES.out]
    go_enter Tryd.func53, Tryd.ntmps53
    go_wp2_with fail
    refine (HV.out _ (below_new _ _)).mono ?_
    rintro e w1 ⟨rfl, hb1⟩
    go_wp2
    go_ret
    exact ⟨_, rfl, World.ownsRow_nil _ _ _ _, (below_new w _).trans (hb1.mono (by simp))⟩
  | some d =>
    have HRES : Hid (clusB s.data.toList = (clus d).map strC) := by
      show _ = _
      unfold clusB
      rw [ho.out]
    have HE : Hid (encS d = s.data.toList) := encS_points ho.out
    have hdl : d.length ≤ 1099511627 := by
      have := points_length _ _ _ (Nat.le_refl _) ho.out
      rw [← Lib.size_eq] at this
      omega
    rw [HRES.out]
    refine (callsIn_wide (n := 4)).1 ?_
    refine callsIn_of_wp_marks Tryd.func53 rfl trivial ?_ rfl
    simp only [Tryd.ntmps53, List.size_toArray, List.length_cons, List.length_nil, Nat.reduceAdd, Nat.reduceSub, Array.replicate_succ, Array.replicate_zero, List.push_toArray, List.append_toArray, List.nil_append, List.cons_append]
    gi_wp2_with (first
      | (refine ⟨trivial, ?_⟩; gi_at_call 86; refine (callsIn_wide.2 (scalars_any s _)).mono ?_; rintro e w2 ⟨rfl, rfl⟩)
      | (refine ⟨trivial, ?_⟩; gi_at_call 85; refine (callsIn_wide.2 (HV.out _ (below_new _ _))).mono ?_; rintro e w1 ⟨rfl, hb1⟩; have hbs := cell_new1 hb1; have hbs2 := cell_new2 hb1 (.cells #[.slice none 0 0] 31) (.cells #[.int .i64 0] 3); have hsz1 := size_new1 hb1))
    have hb1' := below_new1 hb1
    have hbox0 := (Boxed.new w1 31 (.slice none 0 0)).alloc (.cells #[.int .i64 0] 3)
    have hbox1 := Boxed.new (w1.alloc (.cells #[.slice none 0 0] 31)) 3 (.int .i64 0)
    rw [World.size_alloc] at hbox1
    have hbox0 := hbox0.alloc (.cells #[.string s] 9)
    have hbox1 := hbox1.alloc (.cells #[.string s] 9)
    have hcs : (((w1.alloc (.cells #[.slice none 0 0] 31)).alloc (.cells #[.int .i64 0] 3)).alloc (.cells #[.string s] 9)).cell? ⟨w1.heap.size + 1 + 1, 0, none⟩ = some (.string s) := by
      rw [World.cell?_alloc_at _ _ _ _ (by simp)]
      rfl
    have hb2 : Below w1.heap.size w1 (((w1.alloc (.cells #[.slice none 0 0] 31)).alloc (.cells #[.int .i64 0] 3)).alloc (.cells #[.string s] 9)) := (((Below.refl _ _).alloc (Nat.le_refl _) _).alloc (by simp) _).alloc (by simp; omega) _
    have hz2 : (((w1.alloc (.cells #[.slice none 0 0] 31)).alloc (.cells #[.int .i64 0] 3)).alloc (.cells #[.string s] 9)).heap.size = w1.heap.size + 3 := by simp
    obtain ⟨W2, hW2⟩ : ∃ W2, W2 = (((w1.alloc (.cells #[.slice none 0 0] 31)).alloc (.cells #[.int .i64 0] 3)).alloc (.cells #[.string s] 9)) := ⟨_, rfl⟩
    rw [← hW2] at hbox0 hbox1 hcs hb2 hz2 ⊢
    clear hW2 hbs2 hb1
    obtain ⟨B, hB⟩ : ∃ B, w1.heap.size = B := ⟨_, rfl⟩
    rw [hB] at hbox0 hbox1 hcs hb2 hz2 hsz1 ⊢
    obtain ⟨p0, hp0⟩ : ∃ p0, w.heap.size = p0 := ⟨_, rfl⟩
    have HB1 : Hid (Below w.heap.size w w1) := hb1'
    have HP0 := Lib.hid hp0
    have HBz := Lib.hid hB
    rw [hp0] at hbs hsz1
    simp only [hp0]
    clear hb1' hp0 hB
    refine wpIn_range_next rfl (by omega) (gf := 109) (lb := #[.pointer (some ⟨B + 1 + 1, 0, none⟩)]) rfl trivial (enters_of Tryd.func109 (by kernel_rfl) rfl)
      (scalars_next Fence.wide _ trivial rfl (by omega) (B + 1 + 1) s d (by omega) ho.out W2 (by omega) hcs) (Below.refl _ _) (fun _ => rfl)
      (CluI w1 B d) (cluI_own w1 B _ d (by omega)) ⟨_, [], [], 0, hbox0, World.ownsRow_nil _ _ _ _, hbox1, RelP.start d, hb2⟩
      (fun x => { tmps := #[.string s, .pointer (some ⟨p0, 0, none⟩), .slice none 0 0, .pointer (some ⟨B, 0, none⟩), .pointer (some ⟨B + 1, 0, none⟩), .int .i64 (x.1 : Int), .int .i64 (x.2 : Int), .string s, .bool true, .bool false, .string s, .func (.func 109) #[] #[.pointer (some ⟨B + 1 + 1, 0, none⟩)], .int .i64 (x.1 : Int), .int .i64 (x.2 : Int), undef, undef, undef, undef, undef, undef, undef, undef, undef, undef, undef, undef, undef, undef, undef, undef, undef, undef, undef, undef, undef, undef, undef, undef, undef, undef], defers := [] })
      ?assign ?body ?done
    case assign =>
      intro l x W K hK
      unfold encX
      gi_wp2
      exact hK
    case body =>
      rintro l pre x W ⟨v, done, c, f, hbx, hrow, hbf, hrel, hbw⟩ hnx
      by_cases hp : pre = []
      · subst hp
        obtain ⟨hx0, hf0, rfl, hrel2⟩ := hrel.first hnx
        have hd0 : decide ((0 : Int) < (x.1 : Int)) = false := decide_eq_false (by omega)
        subst hf0
        have hni : ¬ (0 : Int) < (x.1 : Int) := by omega
        gi_wp2_with (first | (exfalso; omega) | refine ⟨trivial, ?_⟩)
        exact ⟨KeepsOthers.refl _, KeepsWalks.refl _, v, [], [x.2], 0, hbx, hrow, hbf, hrel2, hbw⟩
      · obtain ⟨hx1, hx2, hx3, hx4, hx5⟩ := hrel.slice HE.out hnx hp
        have hd0 : decide ((0 : Int) < (x.1 : Int)) = true := decide_eq_true (by omega)
        obtain ⟨mp, hmp⟩ : ∃ b, Hid (mk x.2 = b) := ⟨_, rfl⟩
        have HMK : Hid (∀ W, Calls Tryd.prog 87 #[.int .i64 (x.2 : Int)] W fun e w' => e = .returned (.bool mp) ∧ W = w') := fun W => mono_eq (mark_any x.2 W) (by rw [← hmp.out]; rfl)
        cases mp with
        | true =>
          have hrel2 := hrel.mark hnx hp hmp.out
          have HREL2 := Lib.hid hrel2
          clear hrel2 hrel
          gi_wp2_with (refine ⟨trivial, ?_⟩; gi_at_call 87; refine (CallsIn.inRound _ (callsIn_wide.2 (HMK.out _))).mono ?_; rintro e w2 ⟨rfl, rfl⟩)
          exact ⟨KeepsOthers.refl _, KeepsWalks.refl _, v, done, c ++ [x.2], f, hbx, hrow, hbf, HREL2.out, hbw⟩
        | false =>
          have HREL2 := Lib.hid (hrel.base hnx hp hmp.out)
          clear hrel
          gi_wp2_with (refine ⟨trivial, ?_⟩; gi_at_call 87; refine (CallsIn.inRound _ (callsIn_wide.2 (HMK.out _))).mono ?_; rintro e w2 ⟨rfl, rfl⟩)
          have hS0 : Below B w1 W.drew ∧ Boxed W.drew (B + 1) 3 (.int .i64 (f : Int)) := ⟨hbw.drew, hbf⟩
          have hbx0 : Boxed W.drew B 31 v := hbx
          have hrow0 : W.drew.ownsRow B 9 1 v done.length (strV done) := hrow
          have hko : KeepsOthers W W.drew := ⟨Nat.le_refl _, fun _ _ h _ => h⟩
          have hkw : KeepsWalks W W.drew := ⟨Nat.le_refl _, fun _ _ h _ => h⟩
          refine wpIn_region_calm (fun W => Below B w1 W ∧ Boxed W (B + 1) 3 (.int .i64 (f : Int))) (by kernel_rfl) (by kernel_rfl) (fun _ _ h => h) ?_
          have hcx0 := hbx0.cell
          have hszw : B ≤ W.drew.heap.size := Nat.le_of_lt hbx0.lt
          obtain ⟨W0, hW0⟩ : ∃ W0, W0 = W.drew := ⟨_, rfl⟩
          rw [← hW0] at hS0 hbx0 hrow0 hko hkw hcx0 hszw ⊢
          clear hW0
          have hcxa := (hbx0.alloc (.cells #[.string (strC c)] 9)).cell
          have hSa : Below B w1 (W0.alloc (.cells #[.string (strC c)] 9)) ∧ Boxed (W0.alloc (.cells #[.string (strC c)] 9)) (B + 1) 3 (.int .i64 (f : Int)) := ⟨hS0.1.trans ((Below.refl B W0).alloc hszw _), hS0.2.alloc _⟩
          have hHeld : (fun W => Below B w1 W ∧ Boxed W (B + 1) 3 (.int .i64 (f : Int))) W0 := hS0
          refine wpAnyH_take (i := 1) (oi := { dst := some 22, op := Go.Op.load 9 (Go.Operand.tmp 1), type := 9, pos := "runes.go:70", after := #[], guard := none }) (v := ?_) rfl (by kernel_rfl) (by kernel_rfl) (by kernel_rfl) (fun _ _ _ h => h) (Or.inl ⟨by rfl, ?_⟩) (by assumption) ?_
          rotate_left
          · (intro w hSw; (try dsimp only at hSw); have hc := (hSw.1.cell (p := ⟨p0, 0, none⟩) (by show p0 < B; omega)).trans hbs; go_simp; try with_reducible rfl)
          rotate_left
          try simp only [Act.put, List.setIfInBounds_toArray, List.set_cons_zero, List.set_cons_succ]
          refine wpAnyH_take (i := 2) (oi := { dst := some 23, op := Go.Op.load 3 (Go.Operand.tmp 4), type := 3, pos := "runes.go:70", after := #[], guard := none }) (v := ?_) rfl (by kernel_rfl) (by kernel_rfl) (by kernel_rfl) (fun _ _ _ h => h) (Or.inl ⟨by rfl, ?_⟩) (by assumption) ?_
          rotate_left
          · (intro w hSw; (try dsimp only at hSw); have hc := hSw.2.cell; go_simp; try with_reducible rfl)
          rotate_left
          try simp only [Act.put, List.setIfInBounds_toArray, List.set_cons_zero, List.set_cons_succ]
          refine wpAnyH_take (i := 3) (oi := { dst := some 24, op := Go.Op.move (Go.Operand.tmp 5), type := 3, pos := "runes.go:70", after := #[], guard := none }) (v := ?_) rfl (by kernel_rfl) (by kernel_rfl) (by kernel_rfl) (fun _ _ _ h => h) (Or.inl ⟨by rfl, ?_⟩) (by assumption) ?_
          rotate_left
          · (intro w hSw; (try dsimp only at hSw); go_simp; try with_reducible rfl)
          rotate_left
          try simp only [Act.put, List.setIfInBounds_toArray, List.set_cons_zero, List.set_cons_succ]
          refine wpAnyH_take (i := 4) (oi := { dst := some 25, op := Go.Op.slice 9 (Go.Operand.tmp 22) (some (Go.Operand.tmp 23)) (some (Go.Operand.tmp 24)) none, type := 9, pos := "runes.go:70", after := #[{ on := 1, ground := Go.Ground.data }, { on := 2, ground := Go.Ground.data }, { on := 3, ground := Go.Ground.data }], guard := none }) (v := ?_) rfl (by kernel_rfl) (by kernel_rfl) (by kernel_rfl) (fun _ _ _ h => h) (Or.inl ⟨by rfl, ?_⟩) (by assumption) ?_
          rotate_left
          · (intro w hSw; (try dsimp only at hSw); go_simp; try with_reducible rfl)
          rotate_left
          try simp only [Act.put, List.setIfInBounds_toArray, List.set_cons_zero, List.set_cons_succ]
          refine wpAnyH_ready (rs := [0, 5]) (by kernel_rfl) (by simp) ?_
          refine AllReadyH.cons (o := { dst := some 21, op := Go.Op.load 31 (Go.Operand.tmp 3), type := 31, pos := "runes.go:70", after := #[], guard := none }) rfl (fun K hK => ?_) ?_
          · go_simp
            refine hK.out _ _ ?_ (fun hHeld => ?_)
            · (try dsimp only); (first | exact hS0 | exact hSa | exact hS3 | exact hS7)
            clear hK K
            try simp only [Act.put, List.setIfInBounds_toArray, List.set_cons_zero, List.set_cons_succ]
            refine wpAnyH_ready (rs := [5]) (by kernel_rfl) (by simp) ?_
            refine AllReadyH.cons (o := { dst := some 26, op := Go.Op.buildSlice 31 1 #[(0, Go.Operand.tmp 25)], type := 31, pos := "runes.go:70", after := #[{ on := 4, ground := Go.Ground.data }], guard := none }) rfl (fun K hK => ?_) AllReadyH.nil
            go_simp
            refine hK.out _ _ ?_ (fun hHeld => ?_)
            · (try dsimp only); (first | exact hS0 | exact hSa | exact hS3 | exact hS7)
            clear hK K
            try simp only [Act.put, List.setIfInBounds_toArray, List.set_cons_zero, List.set_cons_succ]
            refine wpAnyH_ready (rs := [6]) (by kernel_rfl) (by simp) ?_
            refine AllReadyH.cons (o := { dst := some 27, op := Go.Op.call { callee := Go.Callee.builtin Go.Builtin.append, args := #[Go.Operand.tmp 21, Go.Operand.tmp 26], argTypes := #[31, 31] }, type := 31, pos := "runes.go:70", after := #[{ on := 0, ground := Go.Ground.data }, { on := 5, ground := Go.Ground.data }], guard := none }) rfl (fun K hK => ?_) AllReadyH.nil
            have hrowa := hrow0.alloc (.cells #[.string (strC c)] 9)
            refine step_app rfl (.tmp 21) (.tmp 26) 31 rfl B 9 16 (.string .empty) info_string rfl Tryd.underlying31 rfl hrowa rfl (reads_one rfl) (by simp [Value.oneCell']) (by omega) (by omega) (by simp; omega) ?_
            intro v' w3 hown' hgrow _
            obtain ⟨g', cap', rfl⟩ := ownsRow_succ hown'
            obtain ⟨hv1, hv2, hr2, hk2, hbb2⟩ := hbx0.appended (by decide) hrow0 hszw (Nat.le_refl _) hown' hgrow
            have hcx3 := hv1.cell
            have hfx3 := hv1.frozen
            have hf3 := (hS0.2.alloc (.cells #[.string (strC c)] 9)).kept hgrow ((hS0.2).not_row (by decide) hrow0)
            have hS3 : Below B w1 w3 ∧ Boxed w3 (B + 1) 3 (.int .i64 (f : Int)) := ⟨(hS0.1.trans ((Below.refl B W0).alloc hszw _)).grown hgrow (by simp; omega) fun k hk => (hrow0.lt k hk).1, hf3⟩
            have hS7 : Below B w1 (w3.setCell ⟨B, 0, none⟩ (.slice (some ⟨g', 0, none⟩) (done.length + 1) cap')) ∧ Boxed (w3.setCell ⟨B, 0, none⟩ (.slice (some ⟨g', 0, none⟩) (done.length + 1) cap')) (B + 1) 3 (.int .i64 (f : Int)) := ⟨hS0.1.trans hbb2, hf3.kept (grownBy_setCell' w3 B _) (by simp)⟩
            refine hK.out _ _ ?_ (fun hHeld => ?_)
            · (try dsimp only); (first | exact hS0 | exact hSa | exact hS3 | exact hS7)
            clear hK K
            try simp only [Act.put, List.setIfInBounds_toArray, List.set_cons_zero, List.set_cons_succ]
            refine wpAnyH_ready (rs := [7]) (by kernel_rfl) (by simp) ?_
            refine AllReadyH.cons (o := { dst := none, op := Go.Op.store 31 (Go.Operand.tmp 3) (Go.Operand.tmp 27), type := 0, pos := "runes.go:70", after := #[{ on := 6, ground := Go.Ground.data }, { on := 6, ground := Go.Ground.chain }, { on := 0, ground := Go.Ground.phase }, { on := 1, ground := Go.Ground.phase }, { on := 2, ground := Go.Ground.phase }, { on := 3, ground := Go.Ground.phase }, { on := 4, ground := Go.Ground.phase }, { on := 5, ground := Go.Ground.phase }, { on := 6, ground := Go.Ground.phase }], guard := none }) rfl (fun K hK => ?_) AllReadyH.nil
            go_simp
            refine hK.out _ _ ?_ (fun hHeld => ?_)
            · (try dsimp only); (first | exact hS0 | exact hSa | exact hS3 | exact hS7)
            clear hK K
            try simp only [Act.put, List.setIfInBounds_toArray, List.set_cons_zero, List.set_cons_succ]
            refine wpAnyH_done (by kernel_rfl) ?_ _
            refine NoPanic.normal ?_
            have hcf4 := hS7.2.cell
            have hff4 := hS7.2.frozen
            gi_wp2
            have hK5 := (hko.trans hk2).trans (KeepsOthers.setCell (w3.setCell ⟨B, 0, none⟩ (.slice (some ⟨g', 0, none⟩) (done.length + 1) cap')) ⟨B + 1, 0, none⟩ (.int .i64 (x.1 : Int)))
            have hr5 := hr2.kept (grownBy_setCell' (w3.setCell ⟨B, 0, none⟩ (.slice (some ⟨g', 0, none⟩) (done.length + 1) cap')) (B + 1) (.int .i64 (x.1 : Int))) (.inr (hS7.2.not_row (by decide) hr2).symm)
            refine ⟨hK5, ⟨hK5.size, fun k o h1 h2 => hK5.same k o h1 (Obj.not_cells_of_walk h2)⟩, _, done ++ [c], [x.2], x.1, hv2.kept (grownBy_setCell' _ (B + 1) _) (by simp), ?_, hS7.2.set _, HREL2.out, hS7.1.setCell (p := ⟨B + 1, 0, none⟩) (by show B ≤ B + 1; omega) _⟩
            rw [List.length_append]
            unfold strV at hr5 ⊢
            rw [List.map_append]
            exact hr5
          refine AllReadyH.cons (o := { dst := some 26, op := Go.Op.buildSlice 31 1 #[(0, Go.Operand.tmp 25)], type := 31, pos := "runes.go:70", after := #[{ on := 4, ground := Go.Ground.data }], guard := none }) rfl (fun K hK => ?_) AllReadyH.nil
          go_simp
          refine hK.out _ _ ?_ (fun hHeld => ?_)
          · (try dsimp only); (first | exact hS0 | exact hSa | exact hS3 | exact hS7)
          clear hK K
          try simp only [Act.put, List.setIfInBounds_toArray, List.set_cons_zero, List.set_cons_succ]
          refine wpAnyH_ready (rs := [0]) (by kernel_rfl) (by simp) ?_
          refine AllReadyH.cons (o := { dst := some 21, op := Go.Op.load 31 (Go.Operand.tmp 3), type := 31, pos := "runes.go:70", after := #[], guard := none }) rfl (fun K hK => ?_) AllReadyH.nil
          go_simp
          refine hK.out _ _ ?_ (fun hHeld => ?_)
          · (try dsimp only); (first | exact hS0 | exact hSa | exact hS3 | exact hS7)
          clear hK K
          try simp only [Act.put, List.setIfInBounds_toArray, List.set_cons_zero, List.set_cons_succ]
          refine wpAnyH_ready (rs := [6]) (by kernel_rfl) (by simp) ?_
          refine AllReadyH.cons (o := { dst := some 27, op := Go.Op.call { callee := Go.Callee.builtin Go.Builtin.append, args := #[Go.Operand.tmp 21, Go.Operand.tmp 26], argTypes := #[31, 31] }, type := 31, pos := "runes.go:70", after := #[{ on := 0, ground := Go.Ground.data }, { on := 5, ground := Go.Ground.data }], guard := none }) rfl (fun K hK => ?_) AllReadyH.nil
          have hrowa := hrow0.alloc (.cells #[.string (strC c)] 9)
          refine step_app rfl (.tmp 21) (.tmp 26) 31 rfl B 9 16 (.string .empty) info_string rfl Tryd.underlying31 rfl hrowa rfl (reads_one rfl) (by simp [Value.oneCell']) (by omega) (by omega) (by simp; omega) ?_
          intro v' w3 hown' hgrow _
          obtain ⟨g', cap', rfl⟩ := ownsRow_succ hown'
          obtain ⟨hv1, hv2, hr2, hk2, hbb2⟩ := hbx0.appended (by decide) hrow0 hszw (Nat.le_refl _) hown' hgrow
          have hcx3 := hv1.cell
          have hfx3 := hv1.frozen
          have hf3 := (hS0.2.alloc (.cells #[.string (strC c)] 9)).kept hgrow ((hS0.2).not_row (by decide) hrow0)
          have hS3 : Below B w1 w3 ∧ Boxed w3 (B + 1) 3 (.int .i64 (f : Int)) := ⟨(hS0.1.trans ((Below.refl B W0).alloc hszw _)).grown hgrow (by simp; omega) fun k hk => (hrow0.lt k hk).1, hf3⟩
          have hS7 : Below B w1 (w3.setCell ⟨B, 0, none⟩ (.slice (some ⟨g', 0, none⟩) (done.length + 1) cap')) ∧ Boxed (w3.setCell ⟨B, 0, none⟩ (.slice (some ⟨g', 0, none⟩) (done.length + 1) cap')) (B + 1) 3 (.int .i64 (f : Int)) := ⟨hS0.1.trans hbb2, hf3.kept (grownBy_setCell' w3 B _) (by simp)⟩
          refine hK.out _ _ ?_ (fun hHeld => ?_)
          · (try dsimp only); (first | exact hS0 | exact hSa | exact hS3 | exact hS7)
          clear hK K
          try simp only [Act.put, List.setIfInBounds_toArray, List.set_cons_zero, List.set_cons_succ]
          refine wpAnyH_ready (rs := [7]) (by kernel_rfl) (by simp) ?_
          refine AllReadyH.cons (o := { dst := none, op := Go.Op.store 31 (Go.Operand.tmp 3) (Go.Operand.tmp 27), type := 0, pos := "runes.go:70", after := #[{ on := 6, ground := Go.Ground.data }, { on := 6, ground := Go.Ground.chain }, { on := 0, ground := Go.Ground.phase }, { on := 1, ground := Go.Ground.phase }, { on := 2, ground := Go.Ground.phase }, { on := 3, ground := Go.Ground.phase }, { on := 4, ground := Go.Ground.phase }, { on := 5, ground := Go.Ground.phase }, { on := 6, ground := Go.Ground.phase }], guard := none }) rfl (fun K hK => ?_) AllReadyH.nil
          go_simp
          refine hK.out _ _ ?_ (fun hHeld => ?_)
          · (try dsimp only); (first | exact hS0 | exact hSa | exact hS3 | exact hS7)
          clear hK K
          try simp only [Act.put, List.setIfInBounds_toArray, List.set_cons_zero, List.set_cons_succ]
          refine wpAnyH_done (by kernel_rfl) ?_ _
          refine NoPanic.normal ?_
          have hcf4 := hS7.2.cell
          have hff4 := hS7.2.frozen
          gi_wp2
          have hK5 := (hko.trans hk2).trans (KeepsOthers.setCell (w3.setCell ⟨B, 0, none⟩ (.slice (some ⟨g', 0, none⟩) (done.length + 1) cap')) ⟨B + 1, 0, none⟩ (.int .i64 (x.1 : Int)))
          have hr5 := hr2.kept (grownBy_setCell' (w3.setCell ⟨B, 0, none⟩ (.slice (some ⟨g', 0, none⟩) (done.length + 1) cap')) (B + 1) (.int .i64 (x.1 : Int))) (.inr (hS7.2.not_row (by decide) hr2).symm)
          refine ⟨hK5, ⟨hK5.size, fun k o h1 h2 => hK5.same k o h1 (Obj.not_cells_of_walk h2)⟩, _, done ++ [c], [x.2], x.1, hv2.kept (grownBy_setCell' _ (B + 1) _) (by simp), ?_, hS7.2.set _, HREL2.out, hS7.1.setCell (p := ⟨B + 1, 0, none⟩) (by show B ≤ B + 1; omega) _⟩
          rw [List.length_append]
          unfold strV at hr5 ⊢
          rw [List.map_append]
          exact hr5
    case done =>
      rintro D xs W hD rfl ⟨v, done, c, f, hbx, hrow, hbf, hrel, hbw⟩ hK
      have hcs3 : W.cell? ⟨p0, 0, none⟩ = some (.string s) := (hbw.cell (p := ⟨p0, 0, none⟩) (by show p0 < B; omega)).trans hbs
      have hcf := hbf.cell
      have hcx := hbx.cell
      have hszB : w.heap.size ≤ B := by rw [HP0.out]; omega
      rcases hrel.fin HE.out with ⟨h1, h2, rfl, h4⟩ | ⟨h1, h2, h3, h4⟩
      · have hni : ¬ (f : Int) < (s.size : Int) := by omega
        have hni' : decide ((f : Int) < (s.size : Int)) = false := decide_eq_false hni
        gi_wp2_with (exfalso; omega)
        refine ⟨by simp, .inl ⟨_, _, rfl, run_takeDeferred hK, ?_⟩⟩
        refine ⟨_, results_tmp rfl _ _ _, ?_⟩
        have hfin := ownsRow_putObj hrow (.deferred none) hK rfl
        exact ⟨v, rfl, own_base hfin hszB, (HB1.out.trans (hbw.mono hszB)).trans (belowK_b (w := w) (Nat.le_refl _) W D _ (.deferred none) (by omega) hK rfl rfl)⟩
      · have hlt : (f : Int) < (s.size : Int) := by omega
        have hlt' : decide ((f : Int) < (s.size : Int)) = true := decide_eq_true hlt
        gi_wp2_with (exfalso; omega)
        have hle : f ≤ s.size := Nat.le_of_lt h1
        refine wpIn_wide.2 ?_
        have hS0 : Below B w1 W.drew ∧ Boxed W.drew (B + 1) 3 (.int .i64 (f : Int)) := ⟨hbw.drew, hbf⟩
        have hbx0 : Boxed W.drew B 31 v := hbx
        have hrow0 : W.drew.ownsRow B 9 1 v done.length (strV done) := hrow
        have hko : KeepsOthers W W.drew := ⟨Nat.le_refl _, fun _ _ h _ => h⟩
        have hkw : KeepsWalks W W.drew := ⟨Nat.le_refl _, fun _ _ h _ => h⟩
        refine wp_region_noPanic ?_
        refine wp_region_held_drew (S := (fun W => Below B w1 W ∧ Boxed W (B + 1) 3 (.int .i64 (f : Int)))) (by kernel_rfl) hS0 (fun hHeld0 => ?_)
        clear hHeld0
        have hcx0 := hbx0.cell
        have hszw : B ≤ W.drew.heap.size := Nat.le_of_lt hbx0.lt
        obtain ⟨W0, hW0⟩ : ∃ W0, W0 = W.drew := ⟨_, rfl⟩
        rw [← hW0] at hS0 hbx0 hrow0 hko hkw hcx0 hszw ⊢
        clear hW0
        have hcxa := (hbx0.alloc (.cells #[.string (strC c)] 9)).cell
        have hSa : Below B w1 (W0.alloc (.cells #[.string (strC c)] 9)) ∧ Boxed (W0.alloc (.cells #[.string (strC c)] 9)) (B + 1) 3 (.int .i64 (f : Int)) := ⟨hS0.1.trans ((Below.refl B W0).alloc hszw _), hS0.2.alloc _⟩
        have hHeld : (fun W => Below B w1 W ∧ Boxed W (B + 1) 3 (.int .i64 (f : Int))) W0 := hS0
        refine wpAnyH_take (i := 1) (oi := { dst := some 34, op := Go.Op.load 9 (Go.Operand.tmp 1), type := 9, pos := "runes.go:75", after := #[], guard := none }) (v := ?_) rfl (by kernel_rfl) (by kernel_rfl) (by kernel_rfl) (fun _ _ _ h => h) (Or.inl ⟨by rfl, ?_⟩) (by assumption) ?_
        rotate_left
        · (intro w hSw; (try dsimp only at hSw); have hc := (hSw.1.cell (p := ⟨p0, 0, none⟩) (by show p0 < B; omega)).trans hbs; go_simp; try with_reducible rfl)
        rotate_left
        try simp only [Act.put, List.setIfInBounds_toArray, List.set_cons_zero, List.set_cons_succ]
        refine wpAnyH_take (i := 2) (oi := { dst := some 35, op := Go.Op.load 3 (Go.Operand.tmp 4), type := 3, pos := "runes.go:75", after := #[], guard := none }) (v := ?_) rfl (by kernel_rfl) (by kernel_rfl) (by kernel_rfl) (fun _ _ _ h => h) (Or.inl ⟨by rfl, ?_⟩) (by assumption) ?_
        rotate_left
        · (intro w hSw; (try dsimp only at hSw); have hc := hSw.2.cell; go_simp; try with_reducible rfl)
        rotate_left
        try simp only [Act.put, List.setIfInBounds_toArray, List.set_cons_zero, List.set_cons_succ]
        refine wpAnyH_take (i := 3) (oi := { dst := some 36, op := Go.Op.slice 9 (Go.Operand.tmp 34) (some (Go.Operand.tmp 35)) none none, type := 9, pos := "runes.go:75", after := #[{ on := 1, ground := Go.Ground.data }, { on := 2, ground := Go.Ground.data }], guard := none }) (v := ?_) rfl (by kernel_rfl) (by kernel_rfl) (by kernel_rfl) (fun _ _ _ h => h) (Or.inl ⟨by rfl, ?_⟩) (by assumption) ?_
        rotate_left
        · (intro w hSw; (try dsimp only at hSw); go_simp; try with_reducible rfl)
        rotate_left
        try simp only [Act.put, List.setIfInBounds_toArray, List.set_cons_zero, List.set_cons_succ]
        refine wpAnyH_ready (rs := [0, 4]) (by kernel_rfl) (by simp) ?_
        refine AllReadyH.cons (o := { dst := some 33, op := Go.Op.load 31 (Go.Operand.tmp 3), type := 31, pos := "runes.go:75", after := #[], guard := none }) rfl (fun K hK => ?_) ?_
        · go_simp
          refine hK.out _ _ ?_ (fun hHeld => ?_)
          · (try dsimp only); (first | exact hS0 | exact hSa | exact hS3 | exact hS7)
          clear hK K
          try simp only [Act.put, List.setIfInBounds_toArray, List.set_cons_zero, List.set_cons_succ]
          refine wpAnyH_ready (rs := [4]) (by kernel_rfl) (by simp) ?_
          refine AllReadyH.cons (o := { dst := some 37, op := Go.Op.buildSlice 31 1 #[(0, Go.Operand.tmp 36)], type := 31, pos := "runes.go:75", after := #[{ on := 3, ground := Go.Ground.data }], guard := none }) rfl (fun K hK => ?_) AllReadyH.nil
          go_simp
          refine hK.out _ _ ?_ (fun hHeld => ?_)
          · (try dsimp only); (first | exact hS0 | exact hSa | exact hS3 | exact hS7)
          clear hK K
          try simp only [Act.put, List.setIfInBounds_toArray, List.set_cons_zero, List.set_cons_succ]
          refine wpAnyH_ready (rs := [5]) (by kernel_rfl) (by simp) ?_
          refine AllReadyH.cons (o := { dst := some 38, op := Go.Op.call { callee := Go.Callee.builtin Go.Builtin.append, args := #[Go.Operand.tmp 33, Go.Operand.tmp 37], argTypes := #[31, 31] }, type := 31, pos := "runes.go:75", after := #[{ on := 0, ground := Go.Ground.data }, { on := 4, ground := Go.Ground.data }], guard := none }) rfl (fun K hK => ?_) AllReadyH.nil
          have hrowa := hrow0.alloc (.cells #[.string (strC c)] 9)
          refine step_app rfl (.tmp 33) (.tmp 37) 31 rfl B 9 16 (.string .empty) info_string rfl Tryd.underlying31 rfl hrowa rfl (reads_one rfl) (by simp [Value.oneCell']) (by omega) (by omega) (by simp; omega) ?_
          intro v' w3 hown' hgrow _
          obtain ⟨g', cap', rfl⟩ := ownsRow_succ hown'
          obtain ⟨hv1, hv2, hr2, hk2, hbb2⟩ := hbx0.appended (by decide) hrow0 hszw (Nat.le_refl _) hown' hgrow
          have hcx3 := hv1.cell
          have hfx3 := hv1.frozen
          have hf3 := (hS0.2.alloc (.cells #[.string (strC c)] 9)).kept hgrow ((hS0.2).not_row (by decide) hrow0)
          have hS3 : Below B w1 w3 ∧ Boxed w3 (B + 1) 3 (.int .i64 (f : Int)) := ⟨(hS0.1.trans ((Below.refl B W0).alloc hszw _)).grown hgrow (by simp; omega) fun k hk => (hrow0.lt k hk).1, hf3⟩
          have hS7 : Below B w1 (w3.setCell ⟨B, 0, none⟩ (.slice (some ⟨g', 0, none⟩) (done.length + 1) cap')) ∧ Boxed (w3.setCell ⟨B, 0, none⟩ (.slice (some ⟨g', 0, none⟩) (done.length + 1) cap')) (B + 1) 3 (.int .i64 (f : Int)) := ⟨hS0.1.trans hbb2, hf3.kept (grownBy_setCell' w3 B _) (by simp)⟩
          refine hK.out _ _ ?_ (fun hHeld => ?_)
          · (try dsimp only); (first | exact hS0 | exact hSa | exact hS3 | exact hS7)
          clear hK K
          try simp only [Act.put, List.setIfInBounds_toArray, List.set_cons_zero, List.set_cons_succ]
          refine wpAnyH_ready (rs := [6]) (by kernel_rfl) (by simp) ?_
          refine AllReadyH.cons (o := { dst := none, op := Go.Op.store 31 (Go.Operand.tmp 3) (Go.Operand.tmp 38), type := 0, pos := "runes.go:75", after := #[{ on := 5, ground := Go.Ground.data }, { on := 5, ground := Go.Ground.chain }, { on := 0, ground := Go.Ground.phase }, { on := 1, ground := Go.Ground.phase }, { on := 2, ground := Go.Ground.phase }, { on := 3, ground := Go.Ground.phase }, { on := 4, ground := Go.Ground.phase }, { on := 5, ground := Go.Ground.phase }], guard := none }) rfl (fun K hK => ?_) AllReadyH.nil
          go_simp
          refine hK.out _ _ ?_ (fun hHeld => ?_)
          · (try dsimp only); (first | exact hS0 | exact hSa | exact hS3 | exact hS7)
          clear hK K
          try simp only [Act.put, List.setIfInBounds_toArray, List.set_cons_zero, List.set_cons_succ]
          refine wpAnyH_done (by kernel_rfl) ?_ _
          refine NoPanic.normal ?_
          have hK7 : (w3.setCell ⟨B, 0, none⟩ (.slice (some ⟨g', 0, none⟩) (done.length + 1) cap')).heap[D]? = some (Obj.deferred (some [])) := (hko.trans hk2).same _ _ hK rfl
          have hcx7 := hv2.cell
          gi_wp2
          refine ⟨by simp, .inl ⟨_, _, rfl, run_takeDeferred hK7, ?_⟩⟩
          refine ⟨_, results_tmp rfl _ _ _, ?_⟩
          have hfin := ownsRow_putObj hr2 (.deferred none) hK7 rfl
          exact ⟨_, rfl, own_base hfin hszB, (HB1.out.trans (hS7.1.mono hszB)).trans (belowK_b (w := w) (Nat.le_refl _) _ D _ (.deferred none) (by have := hbw.size; omega) hK7 rfl rfl)⟩
        refine AllReadyH.cons (o := { dst := some 37, op := Go.Op.buildSlice 31 1 #[(0, Go.Operand.tmp 36)], type := 31, pos := "runes.go:75", after := #[{ on := 3, ground := Go.Ground.data }], guard := none }) rfl (fun K hK => ?_) AllReadyH.nil
        go_simp
        refine hK.out _ _ ?_ (fun hHeld => ?_)
        · (try dsimp only); (first | exact hS0 | exact hSa | exact hS3 | exact hS7)
        clear hK K
        try simp only [Act.put, List.setIfInBounds_toArray, List.set_cons_zero, List.set_cons_succ]
        refine wpAnyH_ready (rs := [0]) (by kernel_rfl) (by simp) ?_
        refine AllReadyH.cons (o := { dst := some 33, op := Go.Op.load 31 (Go.Operand.tmp 3), type := 31, pos := "runes.go:75", after := #[], guard := none }) rfl (fun K hK => ?_) AllReadyH.nil
        go_simp
        refine hK.out _ _ ?_ (fun hHeld => ?_)
        · (try dsimp only); (first | exact hS0 | exact hSa | exact hS3 | exact hS7)
        clear hK K
        try simp only [Act.put, List.setIfInBounds_toArray, List.set_cons_zero, List.set_cons_succ]
        refine wpAnyH_ready (rs := [5]) (by kernel_rfl) (by simp) ?_
        refine AllReadyH.cons (o := { dst := some 38, op := Go.Op.call { callee := Go.Callee.builtin Go.Builtin.append, args := #[Go.Operand.tmp 33, Go.Operand.tmp 37], argTypes := #[31, 31] }, type := 31, pos := "runes.go:75", after := #[{ on := 0, ground := Go.Ground.data }, { on := 4, ground := Go.Ground.data }], guard := none }) rfl (fun K hK => ?_) AllReadyH.nil
        have hrowa := hrow0.alloc (.cells #[.string (strC c)] 9)
        refine step_app rfl (.tmp 33) (.tmp 37) 31 rfl B 9 16 (.string .empty) info_string rfl Tryd.underlying31 rfl hrowa rfl (reads_one rfl) (by simp [Value.oneCell']) (by omega) (by omega) (by simp; omega) ?_
        intro v' w3 hown' hgrow _
        obtain ⟨g', cap', rfl⟩ := ownsRow_succ hown'
        obtain ⟨hv1, hv2, hr2, hk2, hbb2⟩ := hbx0.appended (by decide) hrow0 hszw (Nat.le_refl _) hown' hgrow
        have hcx3 := hv1.cell
        have hfx3 := hv1.frozen
        have hf3 := (hS0.2.alloc (.cells #[.string (strC c)] 9)).kept hgrow ((hS0.2).not_row (by decide) hrow0)
        have hS3 : Below B w1 w3 ∧ Boxed w3 (B + 1) 3 (.int .i64 (f : Int)) := ⟨(hS0.1.trans ((Below.refl B W0).alloc hszw _)).grown hgrow (by simp; omega) fun k hk => (hrow0.lt k hk).1, hf3⟩
        have hS7 : Below B w1 (w3.setCell ⟨B, 0, none⟩ (.slice (some ⟨g', 0, none⟩) (done.length + 1) cap')) ∧ Boxed (w3.setCell ⟨B, 0, none⟩ (.slice (some ⟨g', 0, none⟩) (done.length + 1) cap')) (B + 1) 3 (.int .i64 (f : Int)) := ⟨hS0.1.trans hbb2, hf3.kept (grownBy_setCell' w3 B _) (by simp)⟩
        refine hK.out _ _ ?_ (fun hHeld => ?_)
        · (try dsimp only); (first | exact hS0 | exact hSa | exact hS3 | exact hS7)
        clear hK K
        try simp only [Act.put, List.setIfInBounds_toArray, List.set_cons_zero, List.set_cons_succ]
        refine wpAnyH_ready (rs := [6]) (by kernel_rfl) (by simp) ?_
        refine AllReadyH.cons (o := { dst := none, op := Go.Op.store 31 (Go.Operand.tmp 3) (Go.Operand.tmp 38), type := 0, pos := "runes.go:75", after := #[{ on := 5, ground := Go.Ground.data }, { on := 5, ground := Go.Ground.chain }, { on := 0, ground := Go.Ground.phase }, { on := 1, ground := Go.Ground.phase }, { on := 2, ground := Go.Ground.phase }, { on := 3, ground := Go.Ground.phase }, { on := 4, ground := Go.Ground.phase }, { on := 5, ground := Go.Ground.phase }], guard := none }) rfl (fun K hK => ?_) AllReadyH.nil
        go_simp
        refine hK.out _ _ ?_ (fun hHeld => ?_)
        · (try dsimp only); (first | exact hS0 | exact hSa | exact hS3 | exact hS7)
        clear hK K
        try simp only [Act.put, List.setIfInBounds_toArray, List.set_cons_zero, List.set_cons_succ]
        refine wpAnyH_done (by kernel_rfl) ?_ _
        refine NoPanic.normal ?_
        have hK7 : (w3.setCell ⟨B, 0, none⟩ (.slice (some ⟨g', 0, none⟩) (done.length + 1) cap')).heap[D]? = some (Obj.deferred (some [])) := (hko.trans hk2).same _ _ hK rfl
        have hcx7 := hv2.cell
        gi_wp2
        refine ⟨by simp, .inl ⟨_, _, rfl, run_takeDeferred hK7, ?_⟩⟩
        refine ⟨_, results_tmp rfl _ _ _, ?_⟩
        have hfin := ownsRow_putObj hr2 (.deferred none) hK7 rfl
        exact ⟨_, rfl, own_base hfin hszB, (HB1.out.trans (hS7.1.mono hszB)).trans (belowK_b (w := w) (Nat.le_refl _) _ D _ (.deferred none) (by have := hbw.size; omega) hK7 rfl rfl)⟩
end Go.Proofs.YtdpllfgnppeneaaDoor
