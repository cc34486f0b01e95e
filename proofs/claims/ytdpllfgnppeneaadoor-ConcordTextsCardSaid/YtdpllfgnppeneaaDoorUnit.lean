import Derived.Test.YtdpllfgnppeneaaDoorCheck16
namespace Go.Proofs.YtdpllfgnppeneaaDoor
open Go.RowKit
set_option linter.unusedVariables false
set_option linter.unusedSimpArgs false

/-- A slice of units reads as U. -/
def UnitsR (w : World) (B : Nat) (A : Option Addr) (n : Nat) (U : List (ByteArray × List Int)) : Prop :=
  U.length = n ∧ (0 < n → ∃ ad, A = some ad ∧ ad.block < B ∧ ∀ k x, U[k]? = some x → w.cell? (ad.add (k * 2)) = some (.string x.1) ∧
    ∃ A' n' c', w.cell? (ad.add (k * 2 + 1)) = some (.slice A' n' c') ∧ Reads w B 1 A' n' (x.2.map (.int .i64)))
theorem UnitsR.below {w w' : World} {B : Nat} {A : Option Addr} {n : Nat} {U : List (ByteArray × List Int)} (h : UnitsR w B A n U) (hb : Below B w w') : UnitsR w' B A n U :=
  ⟨h.1, fun hn => by
    obtain ⟨ad, e, hlt, hc⟩ := h.2 hn
    refine ⟨ad, e, hlt, fun k x hx => ?_⟩
    obtain ⟨h1, A', n', c', h2, h3⟩ := hc k x hx
    exact ⟨(hb.cell (by rw [block_of_add]; exact hlt)).trans h1, A', n', c', (hb.cell (by rw [block_of_add]; exact hlt)).trans h2, h3.below hb⟩⟩
theorem UnitsR.more {w : World} {B B' : Nat} {A : Option Addr} {n : Nat} {U : List (ByteArray × List Int)} (h : UnitsR w B A n U) (hB : B ≤ B') : UnitsR w B' A n U :=
  ⟨h.1, fun hn => by
    obtain ⟨ad, e, hlt, hc⟩ := h.2 hn
    refine ⟨ad, e, by omega, fun k x hx => ?_⟩
    obtain ⟨h1, A', n', c', h2, h3⟩ := hc k x hx
    exact ⟨h1, A', n', c', h2, h3.more hB⟩⟩
def graph (U : List (ByteArray × List Int)) (i : Nat) : ByteArray := (U.getD i (⟨#[]⟩, [])).1
def usegs (U : List (ByteArray × List Int)) (i : Nat) : List Int := (U.getD i (⟨#[]⟩, [])).2
theorem UnitsR.at_ {w : World} {B : Nat} {A : Option Addr} {n k : Nat} {U : List (ByteArray × List Int)} (h : UnitsR w B A n U) (hk : k < n) :
    ∃ ad A' n' c', A = some ad ∧ ad.block < B ∧ w.cell? (ad.add (k * 2)) = some (.string (graph U k)) ∧ w.cell? ⟨(ad.add (k * 2)).block, (ad.add (k * 2)).off + 1, none⟩ = some (.slice A' n' c') ∧
      w.cell? (ad.add (k * 2 + 1)) = some (.slice A' n' c') ∧ w.cell? ((ad.add (k * 2)).add 1) = some (.slice A' n' c') ∧ Reads w B 1 A' n' ((usegs U k).map (.int .i64)) := by
  obtain ⟨ad, e, hlt, hc⟩ := h.2 (by omega)
  have hl : k < U.length := by rw [h.1]; exact hk
  obtain ⟨h1, A', n', c', h2, h3⟩ := hc k U[k] (List.getElem?_eq_getElem hl)
  have g1 : graph U k = U[k].1 := by simp [graph, List.getD, hl]
  have g2 : usegs U k = U[k].2 := by simp [usegs, List.getD, hl]
  have h4 : w.cell? ((ad.add (k * 2)).add 1) = some (.slice A' n' c') := by rw [add_of_add]; exact h2
  exact ⟨ad, A', n', c', e, hlt, by rw [g1]; exact h1, field_at (by omega) h4, h2, h4, by rw [g2]; exact h3⟩
/-- One unit is right, of an inventory with ns segments. -/
def okUnit (ns : Nat) (U : List (ByteArray × List Int)) (i : Nat) : Bool :=
  Ok.label17B (graph U i).data.toList && (Ok.allTo (fun k => !decide (graph U k = graph U i)) i &&
    ((decide (1 ≤ (usegs U i).length) && decide ((usegs U i).length ≤ 3)) && Ok.allTo (fun k => decide (1 ≤ (usegs U i).getD k 0) && decide ((usegs U i).getD k 0 ≤ (ns : Int))) (usegs U i).length))

/-- The three boxes of 'unit'. -/
structure UBox (w wr : World) (SA : Option Addr) (sn sc : Nat) (ad : Addr) (n c : Nat) (g : ByteArray) (A' : Option Addr) (n' c' : Nat) : Prop where
  inv : wr.cell? ⟨w.heap.size, 0, none⟩ = some (.slice SA sn sc)
  units : wr.cell? ⟨w.heap.size + 1, 1, none⟩ = some (.slice (some ad) n c)
  graph : wr.cell? ⟨w.heap.size + 1 + 1, 0, none⟩ = some (.string g)
  segs : wr.cell? ⟨w.heap.size + 1 + 1, 1, none⟩ = some (.slice A' n' c')
theorem UBox.on {w wr w' : World} {SA : Option Addr} {sn sc : Nat} {ad : Addr} {n c : Nat} {g : ByteArray} {A' : Option Addr} {n' c' : Nat} (h : UBox w wr SA sn sc ad n c g A' n' c') (hb : Below (w.heap.size + 1 + 1 + 1) wr w') : UBox w w' SA sn sc ad n c g A' n' c' :=
  ⟨(hb.cell (by show w.heap.size < _; omega)).trans h.inv, (hb.cell (by show w.heap.size + 1 < _; omega)).trans h.units, (hb.cell (by show w.heap.size + 1 + 1 < _; omega)).trans h.graph, (hb.cell (by show w.heap.size + 1 + 1 < _; omega)).trans h.segs⟩
theorem UBox.drewN {w wr : World} {SA : Option Addr} {sn sc : Nat} {ad : Addr} {n c : Nat} {g : ByteArray} {A' : Option Addr} {n' c' : Nat} (h : UBox w wr SA sn sc ad n c g A' n' c') (k : Nat) : UBox w (wr.drewN k) SA sn sc ad n c g A' n' c' := ⟨h.inv, h.units, h.graph, h.segs⟩
set_option maxHeartbeats 4000000 in
theorem unit17_any (SA UA LA : Option Addr) (sn sc n c ln lc i : Nat) (nm : ByteArray) (U : List (ByteArray × List Int)) (w : World) (B : Nat) (h : UnitsR w B UA n U) (hB : B ≤ w.heap.size) (hi : i < n)
    (hs : ∀ i, i < n → (graph U i).size ≤ 1099511627776) (hn : n ≤ 140737488355328) (hsn : sn ≤ 140737488355328) (hls : ∀ i, i < n → (usegs U i).length ≤ 140737488355328) :
    Calls Tryd.prog 56 #[.agg #[.slice SA sn sc], .agg #[.string nm, .slice UA n c, .slice LA ln lc], .int .i64 i] w (CkPost w (okUnit sn U i)) := by
  obtain ⟨ad, A', n', c', rfl, hab, hc0, hc1, hc2, hc3, hrd⟩ := h.at_ hi
  have hn' : n' = (usegs U i).length := by have := hrd.1; simpa using this.symm
  have hl0 := hls i hi
  have b1 : (ad.add (i * 2)).block < w.heap.size := by rw [block_of_add]; omega
  have b2 : (ad.add (i * 2 + 1)).block < w.heap.size := by rw [block_of_add]; omega
  have k0 : ∀ o1 o2, ((w.alloc o1).alloc o2).cell? (ad.add (i * 2)) = some (.string (graph U i)) := fun o1 o2 => by
    rw [World.cell?_alloc_lt _ _ _ (by simp; omega), World.cell?_alloc_lt _ _ _ b1]; exact hc0
  have k1 : ∀ o1 o2, ((w.alloc o1).alloc o2).cell? ⟨(ad.add (i * 2)).block, (ad.add (i * 2)).off + 1, none⟩ = some (.slice A' n' c') := fun o1 o2 => by
    rw [World.cell?_alloc_lt _ _ _ (by simp; omega), World.cell?_alloc_lt _ _ _ (by exact b1)]; exact hc1
  have k2 : ∀ o1 o2, ((w.alloc o1).alloc o2).cell? ((ad.add (i * 2)).add 1) = some (.slice A' n' c') := fun o1 o2 => by
    rw [World.cell?_alloc_lt _ _ _ (by rw [block_of_add]; simp; omega), World.cell?_alloc_lt _ _ _ (by rw [block_of_add]; exact b1)]; exact hc3
  have hiz : (i : Int) < (n : Int) := by omega
  have H := Lib.hid h; clear h
  have HRD := Lib.hid hrd; clear hrd
  have HS := Lib.hid hs; clear hs
  have HN' := Lib.hid hn'; clear hn'
  clear hc0 hc1 hc2 hc3 hls
  go_enter Tryd.func56, Tryd.ntmps56
  go_wp2_with fail
  obtain ⟨W3, hW3⟩ : ∃ W3, ((w.alloc (.cells #[.slice SA sn sc] 24)).alloc (.cells #[.string nm, .slice (some ad) n c, .slice LA ln lc] 28)).alloc (.cells #[.string (graph U i), .slice A' n' c'] 132) = W3 := ⟨_, rfl⟩
  have HB3 : Hid (Below w.heap.size w W3) := by rw [← hW3]; exact (((Below.refl _ w).alloc (Nat.le_refl _) _).alloc (by simp) _).alloc (by simp; omega) _
  have hz3 : Hid (W3.heap.size = w.heap.size + 1 + 1 + 1) := by rw [← hW3]; simp [Hid]
  have HX : Hid (UBox w W3 SA sn sc ad n c (graph U i) A' n' c') := by
    rw [← hW3]
    refine ⟨?_, ?_, ?_, ?_⟩
    · rw [World.cell?_alloc_lt _ _ _ (by simp; omega), World.cell?_alloc_lt _ _ _ (by simp), World.cell?_alloc_at _ _ _ _ rfl]; rfl
    · rw [World.cell?_alloc_lt _ _ _ (by simp), World.cell?_alloc_at _ _ _ _ (by simp)]; rfl
    · rw [World.cell?_alloc_at _ _ _ _ (by simp)]; rfl
    · rw [World.cell?_alloc_at _ _ _ _ (by simp)]; rfl
  rw [hW3]
  clear hW3 k0 k1 k2
  have HL := Lib.hid (label17_any (graph U i) W3 (HS.out i hi))
  obtain ⟨lb, hlb⟩ : ∃ lb, Hid (Ok.label17B (graph U i).data.toList = lb) := ⟨_, rfl⟩
  rw [hlb.out] at HL
  refine HL.out.mono ?_
  rintro e w1 ⟨rfl, hb1⟩
  have HB1 : Hid (Below w.heap.size w w1) := HB3.out.trans (hb1.mono HB3.out.size)
  have HX1 : Hid (UBox w w1 SA sn sc ad n c (graph U i) A' n' c') := HX.out.on (by rw [hz3.out] at hb1; exact hb1)
  clear HL hb1 HB3 hz3 HX
  cases lb with
  | false =>
    have HRES : Hid (okUnit sn U i = false) := by
      show _ = _
      unfold okUnit
      rw [hlb.out]
      rfl
    go_wp2
    go_ret
    exact ckNo (by decide) HRES.out HB1.out
  | true =>
    go_wp2_with fail
    go_loopw [8] (fun v wr => ∃ k : Nat, k ≤ i ∧ v = .int .i64 k ∧ Hid (Below w.heap.size w wr) ∧ Hid (UBox w wr SA sn sc ad n c (graph U i) A' n' c') ∧ Hid (Ok.allTo (fun k => !decide (graph U k = graph U i)) k = true)) (fun v _ => i - (intOf v).toNat)
    case atStart => exact ⟨0, Nat.zero_le _, rfl, HB1, HX1, rfl⟩
    case round =>
      clear HB1 HX1
      obtain ⟨k, hk, rfl, HB, HX, HA⟩ := hrel
      obtain ⟨x0, x1, x2, x3⟩ := HX.out
      have HU := Lib.hid (H.out.below (HB.out.mono hB))
      by_cases hlt : k < i
      · obtain ⟨ad', A'', n'', c'', hA, _, hd0, _, _, _, _⟩ := HU.out.at_ (k := k) (by omega)
        obtain rfl : ad = ad' := by injection hA
        clear hA
        have hkn : (k : Int) < (n : Int) := by omega
        by_cases heq : graph U k = graph U i
        · have hbe := str_eq heq
          have HRES : Hid (okUnit sn U i = false) := by
            show _ = _
            unfold okUnit
            rw [Ok.allTo_false hlt (by simp [heq])]
            simp
          clear heq
          go_wp2_with fail
          go_quiet (fail)
          go_wp2
          go_ret
          exact ckNo (by decide) HRES.out (below_drewN HB.out _)
        · have hbe := str_ne heq
          have HN := Lib.hid (Ok.allTo_next HA.out (by simp [heq] : (!decide (graph U k = graph U i)) = true))
          clear heq
          go_wp2_with fail
          go_quiet (fail)
          go_wp2
          go_roundw
          case rel => exact ⟨k + 1, by omega, by go_num, below_drewN HB.out _, HX.out.drewN _, HN⟩
          case measure => simp [intOf]; omega
      · obtain rfl : i = k := by omega
        have HO1 : Hid (okUnit sn U i = ((decide (1 ≤ n') && decide (n' ≤ 3)) && Ok.allTo (fun k => decide (1 ≤ (usegs U i).getD k 0) && decide ((usegs U i).getD k 0 ≤ (sn : Int))) n')) := by
          show _ = _
          unfold okUnit
          rw [hlb.out, HA.out, HN'.out]
          rfl
        by_cases g1 : n' < 1
        · have HRES : Hid (okUnit sn U i = false) := by show _ = _; rw [HO1.out]; simp; omega
          go_wp2
          go_ret
          exact ckNo (by decide) HRES.out HB.out
        · by_cases g2 : 3 < n'
          · have HRES : Hid (okUnit sn U i = false) := by
              show _ = _
              rw [HO1.out, decide_eq_false (by omega : ¬ n' ≤ 3)]
              simp
            go_wp2
            go_ret
            exact ckNo (by decide) HRES.out HB.out
          · have HO2 : Hid (okUnit sn U i = Ok.allTo (fun k => decide (1 ≤ (usegs U i).getD k 0) && decide ((usegs U i).getD k 0 ≤ (sn : Int))) n') := by
              show _ = _
              rw [HO1.out, decide_eq_true (by omega : 1 ≤ n'), decide_eq_true (by omega : n' ≤ 3)]
              simp
            go_wp2_with fail
            clear x0 x1 x2 x3
            go_loopw [9] (fun v wr => ∃ k : Nat, k ≤ n' ∧ v = .int .i64 k ∧ Hid (Below w.heap.size w wr) ∧ Hid (UBox w wr SA sn sc ad n c (graph U i) A' n' c') ∧ Hid (Ok.allTo (fun k => decide (1 ≤ (usegs U i).getD k 0) && decide ((usegs U i).getD k 0 ≤ (sn : Int))) k = true)) (fun v _ => n' - (intOf v).toNat)
            case atStart => exact ⟨0, Nat.zero_le _, rfl, HB, HX, rfl⟩
            case round =>
              clear HB HX HU
              obtain ⟨k, hk, rfl, HB, HX, HA2⟩ := hrel
              obtain ⟨x0, x1, x2, x3⟩ := HX.out
              by_cases hlt : k < n'
              · obtain ⟨bd, x, rfl, hbb, hx, hcx⟩ := ints_at (HRD.out.below (HB.out.mono hB)) hlt
                have hgx : Hid ((usegs U i).getD k 0 = x) := by show _ = _; rw [List.getD, hx]; rfl
                clear hx
                have hkn : (k : Int) < (n' : Int) := by omega
                by_cases f1 : x < 1
                · have HRES : Hid (okUnit sn U i = false) := by
                    show _ = _
                    rw [HO2.out, Ok.allTo_false hlt (by simp only [hgx.out]; simp; omega)]
                  have f1d : decide (x < 1) = true := decide_eq_true f1
                  go_wp2_with fail
                  go_quiet (fail)
                  go_wp2
                  go_ret
                  exact ckNo (by decide) HRES.out (below_drewN HB.out _)
                · have f1d : decide (x < 1) = false := decide_eq_false f1
                  by_cases f2 : (sn : Int) < x
                  · have HRES : Hid (okUnit sn U i = false) := by
                      show _ = _
                      rw [HO2.out, Ok.allTo_false hlt (by simp only [hgx.out]; simp; omega)]
                    have f2d : decide ((sn : Int) < x) = true := decide_eq_true f2
                    go_wp2_with fail
                    go_quiet (fail)
                    go_wp2
                    go_ret
                    exact ckNo (by decide) HRES.out (below_drewN HB.out _)
                  · have f2d : decide ((sn : Int) < x) = false := decide_eq_false f2
                    have HN := Lib.hid (Ok.allTo_next HA2.out (by simp only [hgx.out]; simp; omega))
                    go_wp2_with fail
                    go_quiet (fail)
                    go_wp2
                    go_roundw
                    case rel => exact ⟨k + 1, by omega, by go_num, below_drewN HB.out _, HX.out.drewN _, HN⟩
                    case measure => simp [intOf]; omega
              · obtain rfl : n' = k := by omega
                have HRES : Hid (okUnit sn U i = true) := by show _ = _; rw [HO2.out, HA2.out]
                go_wp2
                go_ret
                exact ckYes HRES.out HB.out
end Go.Proofs.YtdpllfgnppeneaaDoor
