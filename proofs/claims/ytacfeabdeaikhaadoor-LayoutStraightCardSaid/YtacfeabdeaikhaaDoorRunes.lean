import Derived.Test.YtacfeabdeaikhaaDoorBase
import Derived.Test.YtacfeabdeaikhaaDoorOwn
import Derived.Test.YtacfeabdeaikhaaDoorPlainRunes
import Derived.Laws.IdiomStrings
import Derived.Outline
namespace Go.Proofs.YtacfeabdeaikhaaDoor
open Go.RowKit
set_option linter.unusedVariables false
set_option linter.unusedSimpArgs false

set_option maxHeartbeats 400000 in
theorem scalar_any (p : Int) (w : World) : Calls Tryd.prog 58 #[.int .i64 p] w fun e w' => e = .returned (.bool (Ru.scalarB p)) ∧ w = w' := by
  by_cases h1 : 0 ≤ p
  · by_cases h2 : p ≤ 1114111
    · by_cases h3 : p < 55296
      · go_enter Tryd.func58, Tryd.ntmps58
        go_wp2
        go_ret
        exact ⟨ret_bool (by simp [Ru.scalarB, h1, h2, h3]), rfl⟩
      · by_cases h4 : 57343 < p
        · go_enter Tryd.func58, Tryd.ntmps58
          go_wp2
          go_ret
          exact ⟨ret_bool (by simp [Ru.scalarB, h1, h2, h3, h4]), rfl⟩
        · go_enter Tryd.func58, Tryd.ntmps58
          go_wp2
          go_ret
          exact ⟨ret_bool (by simp [Ru.scalarB, h1, h2, h3, h4]), rfl⟩
    · go_enter Tryd.func58, Tryd.ntmps58
      go_wp2
      go_ret
      exact ⟨ret_bool (by simp [Ru.scalarB]; omega), rfl⟩
  · go_enter Tryd.func58, Tryd.ntmps58
    go_wp2
    go_ret
    exact ⟨ret_bool (by simp [Ru.scalarB]; omega), rfl⟩

/-- 'string([]byte{..})': the new block's bytes. -/
theorem conv_bytes (w : World) (vs : List Int) (hv : ∀ v ∈ vs, 0 ≤ v ∧ v < 256) :
    (convert 47 9 (.slice (some ⟨w.heap.size, 0, none⟩) vs.length vs.length)).run Tryd.prog (w.alloc (.cells (vs.map (.int .u8)).toArray 5)) =
      .ok (.string ⟨(vs.map fun v => UInt8.ofNat v.toNat).toArray⟩) (w.alloc (.cells (vs.map (.int .u8)).toArray 5)) := by
  have := run_convert_bytes_back (P := Tryd.prog) (w.alloc (.cells (vs.map (.int .u8)).toArray 5)) 47 9 5 ⟨w.heap.size, 0, none⟩ vs.length (vs.map fun v => UInt8.ofNat v.toNat)
    Tryd.underlying47 Tryd.underlying5 Tryd.underlying9 (fun j hj => by
      have e1 : (⟨w.heap.size, 0, none⟩ : Addr).add j = ⟨w.heap.size, j, none⟩ := by
        unfold Addr.add
        split
        · rename_i h; simp [h]
        · simp
      rw [e1, World.cell?_alloc_at _ _ _ _ rfl]
      simp at hj ⊢
      have := hv vs[j] (List.getElem_mem _)
      rw [show max vs[j] 0 % 256 = vs[j] by omega]
      exact List.getElem?_eq_getElem hj)
  simpa using this
def strL (l : List UInt8) : ByteArray := ⟨l.toArray⟩
set_option maxRecDepth 1000000 in
set_option maxHeartbeats 800000 in
theorem encoded_any (p : Nat) (w : World) (h : p ≤ 1114111) :
    Calls Tryd.prog 42 #[.int .i64 p] w fun e w' => e = .returned (.string (strL (Ru.encL p))) ∧ Below w.heap.size w w' := by
  have hr := Ru.encI_range (p := p) (by omega) (by omega)
  by_cases h1 : p < 128
  · have e : Ru.encI p = [(p : Int)] := by unfold Ru.encI; rw [if_pos (by omega)]
    rw [e] at hr
    have hcv := conv_bytes w _ hr
    have E := Lib.hid e; clear e hr
    simp only [List.map_cons, List.map_nil, List.length_cons, List.length_nil, Nat.zero_add] at hcv
    go_enter Tryd.func42, Tryd.ntmps42
    go_wp2
    go_ret
    exact ⟨by unfold strL Ru.encL; rw [E.out]; rfl, below_new _ _⟩
  · by_cases h2 : p < 2048
    · have e : Ru.encI p = [192 + (p : Int) / 64, 128 + (p : Int) % 64] := by unfold Ru.encI; rw [if_neg (by omega), if_pos (by omega)]
      rw [e] at hr
      have hcv := conv_bytes w _ hr
      have E := Lib.hid e; clear e hr
      simp only [List.map_cons, List.map_nil, List.length_cons, List.length_nil, Nat.zero_add, Nat.reduceAdd] at hcv
      go_enter Tryd.func42, Tryd.ntmps42
      go_wp2
      go_ret
      exact ⟨by unfold strL Ru.encL; rw [E.out]; rfl, below_new _ _⟩
    · by_cases h3 : p < 65536
      · have e : Ru.encI p = [224 + (p : Int) / 4096, 128 + (p : Int) / 64 % 64, 128 + (p : Int) % 64] := by unfold Ru.encI; rw [if_neg (by omega), if_neg (by omega), if_pos (by omega)]
        rw [e] at hr
        have hcv := conv_bytes w _ hr
        have E := Lib.hid e; clear e hr
        simp only [List.map_cons, List.map_nil, List.length_cons, List.length_nil, Nat.zero_add, Nat.reduceAdd] at hcv
        go_enter Tryd.func42, Tryd.ntmps42
        go_wp2
        go_ret
        exact ⟨by unfold strL Ru.encL; rw [E.out]; rfl, below_new _ _⟩
      · have e : Ru.encI p = [240 + (p : Int) / 262144, 128 + (p : Int) / 4096 % 64, 128 + (p : Int) / 64 % 64, 128 + (p : Int) % 64] := by unfold Ru.encI; rw [if_neg (by omega), if_neg (by omega), if_neg (by omega)]
        rw [e] at hr
        have hcv := conv_bytes w _ hr
        have E := Lib.hid e; clear e hr
        simp only [List.map_cons, List.map_nil, List.length_cons, List.length_nil, Nat.zero_add, Nat.reduceAdd] at hcv
        go_enter Tryd.func42, Tryd.ntmps42
        go_wp2
        go_ret
        exact ⟨by unfold strL Ru.encL; rw [E.out]; rfl, below_new _ _⟩
end Go.Proofs.YtacfeabdeaikhaaDoor
