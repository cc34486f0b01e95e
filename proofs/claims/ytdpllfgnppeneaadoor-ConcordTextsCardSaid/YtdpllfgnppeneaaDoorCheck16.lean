import Derived.Test.YtdpllfgnppeneaaDoorLabel
namespace Go.Proofs.YtdpllfgnppeneaaDoor
open Go.RowKit
set_option linter.unusedVariables false
set_option linter.unusedSimpArgs false

/-- A slice of segments reads as S. -/
def SegsR (w : World) (B : Nat) (A : Option Addr) (n : Nat) (S : List (ByteArray × Int)) : Prop :=
  S.length = n ∧ (0 < n → ∃ ad, A = some ad ∧ ad.block < B ∧ ∀ k x, S[k]? = some x → w.cell? (ad.add (k * 2)) = some (.string x.1) ∧ w.cell? (ad.add (k * 2 + 1)) = some (.int .i64 x.2))
theorem SegsR.below {w w' : World} {B : Nat} {A : Option Addr} {n : Nat} {S : List (ByteArray × Int)} (h : SegsR w B A n S) (hb : Below B w w') : SegsR w' B A n S :=
  ⟨h.1, fun hn => by
    obtain ⟨ad, e, hlt, hc⟩ := h.2 hn
    refine ⟨ad, e, hlt, fun k x hx => ?_⟩
    obtain ⟨h1, h2⟩ := hc k x hx
    exact ⟨(hb.cell (by rw [block_of_add]; exact hlt)).trans h1, (hb.cell (by rw [block_of_add]; exact hlt)).trans h2⟩⟩
theorem SegsR.more {w : World} {B B' : Nat} {A : Option Addr} {n : Nat} {S : List (ByteArray × Int)} (h : SegsR w B A n S) (hB : B ≤ B') : SegsR w B' A n S :=
  ⟨h.1, fun hn => by
    obtain ⟨ad, e, hlt, hc⟩ := h.2 hn
    exact ⟨ad, e, by omega, hc⟩⟩
def segName (S : List (ByteArray × Int)) (i : Nat) : ByteArray := (S.getD i (⟨#[]⟩, 0)).1
def segFeat (S : List (ByteArray × Int)) (i : Nat) : Int := (S.getD i (⟨#[]⟩, 0)).2
theorem field_at {w : World} {p : Addr} {i : Nat} {v : Value} (hi : 0 < i) (h : w.cell? (p.add i) = some v) : w.cell? ⟨p.block, p.off + i, none⟩ = some v := by
  unfold Addr.add at h
  rw [if_neg (by omega)] at h
  exact h
theorem SegsR.at_ {w : World} {B : Nat} {A : Option Addr} {n k : Nat} {S : List (ByteArray × Int)} (h : SegsR w B A n S) (hk : k < n) :
    ∃ ad, A = some ad ∧ ad.block < B ∧ w.cell? (ad.add (k * 2)) = some (.string (segName S k)) ∧ w.cell? ⟨(ad.add (k * 2)).block, (ad.add (k * 2)).off + 1, none⟩ = some (.int .i64 (segFeat S k)) ∧ w.cell? (ad.add (k * 2 + 1)) = some (.int .i64 (segFeat S k)) := by
  obtain ⟨ad, e, hlt, hc⟩ := h.2 (by omega)
  have hl : k < S.length := by rw [h.1]; exact hk
  obtain ⟨h1, h2⟩ := hc k S[k] (List.getElem?_eq_getElem hl)
  refine ⟨ad, e, hlt, ?_, ?_, ?_⟩
  · rw [h1]; simp [segName, List.getD, hl]
  · refine field_at (by omega) ?_
    rw [add_of_add, h2]; simp [segFeat, List.getD, hl]
  · rw [h2]; simp [segFeat, List.getD, hl]
/-- One segment is right. -/
def okSeg (S : List (ByteArray × Int)) (i : Nat) : Bool :=
  Ok.labelB (segName S i).data.toList && (Ok.allTo (fun k => !decide (segName S k = segName S i)) i && (decide (0 ≤ segFeat S i) && decide (segFeat S i < 65536)))
def ok16 (S : List (ByteArray × Int)) : Bool := decide (S.length ≤ 60) && Ok.allTo (okSeg S) S.length
/-- An error number: 0 if it is right. -/
def CkPost (w : World) (ok : Bool) (e : Ending) (w' : World) : Prop := ∃ r : Int, e = .returned (.int .i64 r) ∧ (r = 0 ↔ ok = true) ∧ Below w.heap.size w w'
theorem ckNo {w w' : World} {ok : Bool} {r : Int} (hr : r ≠ 0) (ho : ok = false) (hb : Below w.heap.size w w') : CkPost w ok (.returned (.int .i64 r)) w' := ⟨r, rfl, ⟨fun h => absurd h hr, fun h => by rw [ho] at h; cases h⟩, hb⟩
theorem ckYes {w w' : World} {ok : Bool} (ho : ok = true) (hb : Below w.heap.size w w') : CkPost w ok (.returned (.int .i64 0)) w' := ⟨0, rfl, ⟨fun _ => ho, fun _ => rfl⟩, hb⟩
theorem str_ne {x s : ByteArray} (h : x ≠ s) : (x.toList == s.toList) = false := by
  rw [Lib.toList_data, Lib.toList_data]
  refine beq_eq_false_iff_ne.2 fun e => h ?_
  cases x with | mk d => cases s with | mk e' => cases d with | mk p => cases e' with | mk q => simp at e; rw [e]
theorem str_eq {x s : ByteArray} (h : x = s) : (x.toList == s.toList) = true := by subst h; exact beq_self_eq_true _

set_option maxHeartbeats 4000000 in
theorem check16_any (A : Option Addr) (n c : Nat) (S : List (ByteArray × Int)) (w : World) (B : Nat) (h : SegsR w B A n S) (hB : B ≤ w.heap.size) (hs : ∀ i, i < n → (segName S i).size ≤ 1099511627776) :
    Calls Tryd.prog 29 #[.agg #[.slice A n c]] w (CkPost w (ok16 S)) := by
  have hbe : Below w.heap.size w (w.alloc (.cells #[.slice A n c] 24)) := below_new _ _
  have HBE := Lib.hid hbe; clear hbe
  have HLEN := Lib.hid h.1
  by_cases hn : n ≤ 60
  · have hnd : decide ((60 : Int) < (n : Int)) = false := decide_eq_false (by omega)
    have H0 := Lib.hid (h.below ((Below.refl B w).alloc hB (.cells #[.slice A n c] 24)))
    have HS := Lib.hid hs; clear hs
    clear h
    go_enter Tryd.func29, Tryd.ntmps29
    go_wp2_with fail
    go_loopw [3, 4, 12] (fun _ _ v wr => ∃ k : Nat, k ≤ n ∧ v = .int .i64 k ∧ wr.cell? ⟨w.heap.size, 0, none⟩ = some (.slice A n c) ∧ Hid (Below (w.heap.size + 1) (w.alloc (.cells #[.slice A n c] 24)) wr) ∧ Hid (Ok.allTo (okSeg S) k = true)) (fun _ _ v _ => n - (intOf v).toNat)
    case atStart => exact ⟨0, Nat.zero_le _, rfl, by rw [World.cell?_alloc_at _ _ _ _ rfl]; rfl, Below.refl _ _, rfl⟩
    case round =>
      obtain ⟨k, hk, rfl, hc, HB, HA⟩ := hrel
      have hszr : w.heap.size + 1 ≤ wr.heap.size := by have := HB.out.size; simpa using this
      have HOUT : Hid (Below w.heap.size w wr) := HBE.out.trans (HB.out.mono (by omega))
      have HR := Lib.hid (H0.out.below (HB.out.mono (by omega)))
      by_cases hlt : k < n
      · obtain ⟨ad, hA, hab, hc0, hc1, hc2⟩ := HR.out.at_ hlt
        subst hA
        have HNO : Hid (okSeg S k = false → ok16 S = false) := fun h => by
          unfold ok16
          rw [Ok.allTo_false (by rw [HLEN.out]; exact hlt) h]
          simp
        have HL := Lib.hid (label10_any (segName S k) wr (HS.out k hlt))
        obtain ⟨lb, hlb⟩ : ∃ lb, Hid (Ok.labelB (segName S k).data.toList = lb) := ⟨_, rfl⟩
        rw [hlb.out] at HL
        cases lb with
        | false =>
          have HRES := Lib.hid (HNO.out (by unfold okSeg; rw [hlb.out]; rfl))
          go_wp2_with fail
          refine HL.out.mono ?_
          rintro e w1 ⟨rfl, hb1⟩
          have HB1 := Lib.hid hb1; clear hb1
          go_wp2
          go_ret
          exact ckNo (by decide) HRES.out (HOUT.out.trans (HB1.out.mono (by omega)))
        | true =>
          go_wp2_with fail
          refine HL.out.mono ?_
          rintro e w1 ⟨rfl, hb1⟩
          have hc' : w1.cell? ⟨w.heap.size, 0, none⟩ = some (.slice (some ad) n c) := (hb1.cell (by show w.heap.size < _; omega)).trans hc
          have HB1 : Hid (Below (w.heap.size + 1) (w.alloc (.cells #[.slice (some ad) n c] 24)) w1) := HB.out.trans (hb1.mono (by omega))
          clear hb1 hc hc0 hc1 hc2 HB HR HOUT HL
          go_wp2_with fail
          go_loopw [4] (fun v wq => ∃ j : Nat, j ≤ k ∧ v = .int .i64 j ∧ wq.cell? ⟨w.heap.size, 0, none⟩ = some (.slice (some ad) n c) ∧ Hid (Below (w.heap.size + 1) (w.alloc (.cells #[.slice (some ad) n c] 24)) wq) ∧ Hid (Ok.allTo (fun q => !decide (segName S q = segName S k)) j = true)) (fun v _ => k - (intOf v).toNat)
          case atStart => exact ⟨0, Nat.zero_le _, rfl, hc', HB1, rfl⟩
          case round =>
            clear hc' HB1
            obtain ⟨j, hj, rfl, hc, HB, HJ⟩ := hrel
            have hszr : w.heap.size + 1 ≤ wr.heap.size := by have := HB.out.size; simpa using this
            have HOUT : Hid (Below w.heap.size w wr) := HBE.out.trans (HB.out.mono (by omega))
            have HR := Lib.hid (H0.out.below (HB.out.mono (by omega)))
            obtain ⟨ad', hA, hab, hc0, hc1, hc2⟩ := HR.out.at_ hlt
            obtain rfl : ad = ad' := by injection hA
            clear hA
            by_cases hjk : j < k
            · obtain ⟨ad', hA, _, hd0, _, _⟩ := HR.out.at_ (k := j) (by omega)
              obtain rfl : ad = ad' := by injection hA
              clear hA
              have hjn : (j : Int) < (n : Int) := by omega
              have hkn : (k : Int) < (n : Int) := by omega
              by_cases heq : segName S j = segName S k
              · have hbe := str_eq heq
                have HRES := Lib.hid (HNO.out (by unfold okSeg; rw [Ok.allTo_false hjk (by simp [heq])]; simp))
                clear heq
                go_wp2_with fail
                go_quiet (fail)
                go_wp2
                go_ret
                exact ckNo (by decide) HRES.out (below_drewN HOUT.out _)
              · have hbe := str_ne heq
                have HN := Lib.hid (Ok.allTo_next HJ.out (by simp [heq] : (!decide (segName S j = segName S k)) = true))
                clear heq
                go_wp2_with fail
                go_quiet (fail)
                go_wp2
                go_roundw
                case rel => exact ⟨j + 1, by omega, by go_num, hc, below_drewN HB.out _, HN⟩
                case measure => simp [intOf]; omega
            · obtain rfl : k = j := by omega
              obtain ⟨f, hf⟩ : ∃ f, Hid (segFeat S k = f) := ⟨_, rfl⟩
              rw [hf.out] at hc1 hc2
              have hokseg : okSeg S k = (decide (0 ≤ f) && decide (f < 65536)) := by unfold okSeg; rw [hlb.out, HJ.out, hf.out]; rfl
              have HOKS := Lib.hid hokseg; clear hokseg
              by_cases g1 : f < 0
              · have HRES := Lib.hid (HNO.out (by rw [HOKS.out]; simp; omega))
                go_wp2
                go_ret
                exact ckNo (by decide) HRES.out HOUT.out
              · by_cases g2 : 65536 ≤ f
                · have HRES := Lib.hid (HNO.out (by rw [HOKS.out]; simp; omega))
                  go_wp2
                  go_ret
                  exact ckNo (by decide) HRES.out HOUT.out
                · have HN := Lib.hid (Ok.allTo_next HA.out (by rw [HOKS.out]; simp; omega))
                  go_wp2
                  go_roundw
                  case rel => exact ⟨k + 1, by omega, by go_num, hc, HB, HN⟩
                  case measure => simp [intOf]; omega
      · obtain rfl : n = k := by omega
        have HRES : Hid (ok16 S = true) := by
          show _ = _
          unfold ok16
          rw [HLEN.out, HA.out]
          simp; omega
        go_wp2
        go_ret
        exact ckYes HRES.out HOUT.out
  · have hnd : decide ((60 : Int) < (n : Int)) = true := decide_eq_true (by omega)
    have HRES : Hid (ok16 S = false) := by
      show _ = _
      unfold ok16
      rw [HLEN.out]
      simp; omega
    clear h hs
    go_enter Tryd.func29, Tryd.ntmps29
    go_wp2
    go_ret
    exact ckNo (by decide) HRES.out HBE.out
end Go.Proofs.YtdpllfgnppeneaaDoor
