import Derived.Test.YthcabnfcgjnlnaaGreatDoorB03
import Derived.Lib.MinMax
import Derived.Deep.RegionWith
import Derived.Deep.DrawnRows
import Derived.Deep.LoopGhost
import Derived.Laws.StructEq
import Derived.Lib.Join
import Derived.Laws.ResultCell
import Derived.Deep.MidRow
import Derived.Deep.Upon
set_option linter.unusedVariables false
set_option linter.unusedSimpArgs false
namespace Go.Proofs.YthcabnfcgjnlnaaGreatDoor
section
open Go.RowKit Ru Lay
def RowsC (w : World) (B : Nat) (A : Option Addr) (n : Nat) (L : List (List ByteArray)) : Prop :=
 ∃ xs, Reads w B 1 A n xs /\ L.length = n /\ ∀ (i : Nat) (l : List ByteArray), L[i]? = some l -> ∃ A' n' c', xs[i]? = some (Value.slice A' n' c') /\ SR w B A' n' l /\ n' <= c' /\ c' <= 9223372036854775807
theorem RowsC.at_ {w : World} {B n k : Nat} {A : Option Addr} {L : List (List ByteArray)} (h : RowsC w B A n L) (hk : k < n) :
  ∃ ad l A' n' c', A = some ad /\ ad.block < B /\ L[k]? = some l /\ w.cell? (ad.add k) = some (Value.slice A' n' c') /\ SR w B A' n' l /\ n' <= c' /\ c' <= 9223372036854775807 := by
 obtain ⟨xs, hr, hl, hi⟩ := h;obtain ⟨ad, u, e, hb, hx, hc⟩ := hr.at_ hk;have hlt : k < L.length := by omega
 obtain ⟨A', n', c', hx', hs, h1, h2⟩ := hi k L[k] (List.getElem?_eq_getElem hlt);rw [hx] at hx'
 cases hx'
 exact ⟨ad, L[k], A', n', c', e, hb, List.getElem?_eq_getElem hlt, hc, hs, h1, h2⟩
theorem RowsC.len {w : World} {B n : Nat} {A : Option Addr} {L : List (List ByteArray)} (h : RowsC w B A n L) : L.length = n := by obtain ⟨xs, hr, hl, hi⟩ := h; exact hl
theorem RowsC.below {w w' : World} {B n : Nat} {A : Option Addr} {L : List (List ByteArray)} (h : RowsC w B A n L) (hb : Below B w w') : RowsC w' B A n L := by
 obtain ⟨xs, hr, hl, hi⟩ := h;refine ⟨xs, hr.below hb, hl, fun i l hil => ?_⟩;obtain ⟨A', n', c', hx', hs, h1, h2⟩ := hi i l hil;exact ⟨A', n', c', hx', Reads.below hs hb, h1, h2⟩
theorem RowsC.more {w : World} {B B' n : Nat} {A : Option Addr} {L : List (List ByteArray)} (h : RowsC w B A n L) (hB : B <= B') : RowsC w B' A n L := by
 obtain ⟨xs, hr, hl, hi⟩ := h;refine ⟨xs, hr.more hB, hl, fun i l hil => ?_⟩;obtain ⟨A', n', c', hx', hs, h1, h2⟩ := hi i l hil;exact ⟨A', n', c', hx', Reads.more hs hB, h1, h2⟩
theorem RowsC.on {w w' : World} {n : Nat} {A : Option Addr} {L : List (List ByteArray)} (h : RowsC w w.heap.size A n L) (hb : Below w.heap.size w w') : RowsC w' w'.heap.size A n L := (h.below hb).more hb.size
theorem RowsC.none_ (w : World) (B : Nat) : RowsC w B none 0 [] := ⟨[], Reads.none_, rfl, fun i l h => by simp at h⟩
def SzR (r : List ByteArray) : Prop := r.length <= 100000 /\ ∀ s ∈ r, s.size <= 100000
def SzL (L : List (List ByteArray)) : Prop := L.length <= 100000 /\ ∀ r ∈ L, SzR r
theorem SzL.row {L : List (List ByteArray)} (h : SzL L) {i : Nat} {r : List ByteArray} (hr : L[i]? = some r) : SzR r := h.2 r (List.mem_of_getElem? hr)
theorem SzR.cell {r : List ByteArray} (h : SzR r) {i : Nat} {s : ByteArray} (hs : r[i]? = some s) : s.size <= 100000 := h.2 s (List.mem_of_getElem? hs)
theorem SzL.nmax {L : List (List ByteArray)} (h : SzL L) : nmax L <= 100000 := nmax_le fun r hr => (h.2 r hr).1
theorem SzL.take {L : List (List ByteArray)} (h : SzL L) (k : Nat) : SzL (L.take k) := ⟨by have := h.1; rw [List.length_take]; omega, fun r hr => h.2 r (List.mem_of_mem_take hr)⟩
theorem SzL.col {L : List (List ByteArray)} (h : SzL L) (k : Nat) : colAt L k <= 100000 := colAt_le fun r hr s hs => (h.2 r hr).2 s hs
theorem SzR.cellB {r : List ByteArray} (h : SzR r) (k : Nat) : (cellB r k).size <= 100000 := by
 cases hk : r[k]? with
 | none => rw [cellB_none (by rw [List.getElem?_eq_none_iff] at hk; exact hk)]; exact Nat.zero_le _
 | some s => rw [cellB_some hk]; exact h.cell hk
theorem own_set {w : World} {base e g n cap : Nat} {xs : List Value} (j : Nat) (u : Value) (h : w.ownsRow base e 1 (.slice (some ⟨g, 0, none⟩) n cap) n xs) :
  (w.setCell ⟨g, j, none⟩ u).ownsRow base e 1 (.slice (some ⟨g, 0, none⟩) n cap) n (xs.set j u) /\ Below base w (w.setCell ⟨g, j, none⟩ u) := by
 have h2 := h.stored j u;exact ⟨h2.1, bR.grown h2.2 (Nat.le_of_lt (Nat.lt_of_le_of_lt (h.lt g rfl).1 (h.lt g rfl).2)) fun k hk => by cases hk; exact (h.lt g rfl).1⟩
def intV (l : List Int) : List Value := l.map (.int .i64)
theorem intV_set (l : List Int) (j : Nat) (x : Int) : (intV l).set j (.int .i64 x) = intV (l.set j x) := by unfold intV; rw [List.map_set]
theorem intV_app (l : List Int) (x : Int) : intV l ++ [.int .i64 x] = intV (l ++ [x]) := by unfold intV; simp
def OwnI (w : World) (base : Nat) (v : Value) (l : List Int) : Prop := w.ownsRow base 3 1 v l.length (intV l)
theorem OwnI.nil (w : World) (base : Nat) : OwnI w base (.slice none 0 0) [] := World.ownsRow_nil _ _ _ _
theorem OwnI.on {w w' : World} {base : Nat} {v : Value} {l : List Int} (h : OwnI w base v l) (hb : Below w.heap.size w w') : OwnI w' base v l := own_below h hb
theorem OwnI.form {w : World} {base : Nat} {v : Value} {l : List Int} (h : OwnI w base v l) : ∃ A c, v = .slice A l.length c /\ l.length <= c /\ c <= 9223372036854775807 /\ IR w w.heap.size A l.length l := own_form h
theorem OwnI.at_ {w : World} {base : Nat} {v : Value} {l : List Int} (h : OwnI w base v l) {j : Nat} {x : Int} (hj : l[j]? = some x) :
  ∃ g cap, v = .slice (some ⟨g, 0, none⟩) l.length cap /\ base <= g /\ g < w.heap.size /\ w.cell? ⟨g, j, none⟩ = some (.int .i64 x) /\ w.frozen? ⟨g, j, none⟩ = false := by
 have hl := (List.getElem?_eq_some_iff.1 hj).1;obtain ⟨g, cap, rfl, h1, h2⟩ := World.ownsRow.form h (by omega);refine ⟨g, cap, rfl, h1, h2, ?_, World.ownsRow.frozenAt h j⟩;rw [World.ownsRow.cellAt h j (by omega)];unfold intV;rw [List.getElem?_map, hj];rfl
theorem OwnI.set {w : World} {base g n cap : Nat} {l : List Int} (h : OwnI w base (.slice (some ⟨g, 0, none⟩) n cap) l) (hn : n = l.length) (j : Nat) (x : Int) :
  OwnI (w.setCell ⟨g, j, none⟩ (.int .i64 x)) base (.slice (some ⟨g, 0, none⟩) n cap) (l.set j x) /\ Below base w (w.setCell ⟨g, j, none⟩ (.int .i64 x)) := by
 subst hn;have h1 := own_set j (.int .i64 x) h;rw [intV_set] at h1;refine ⟨?_, h1.2⟩;show World.ownsRow _ _ _ _ _ _ _;rw [List.length_set];exact h1.1
theorem info_int2 : (Tryz.prog.info? 3).map (fun i => (i.zero, i.size, i.bytes)) = some (some (.int .i64 0), 1, 8) := by kernel_rfl
theorem take_atG {α : Type} {l : List α} {k : Nat} {x : α} (h : l[k]? = some x) : l.take (k + 1) = l.take k ++ [x] := by rw [List.take_add_one, h]; rfl
end
section
open Go.RowKit Ru Lay
attribute [local go_sem ↓] Go.wp_at_zero Go.wp_at_succ
set_option maxHeartbeats 4000000 in
set_option maxRecDepth 100000 in
theorem columns_any (A : Option Addr) (n c : Nat) (L : List (List ByteArray)) (w : World) (hL : RowsC w w.heap.size A n L) (hz : SzL L) (hT : Tabs w) :
    Calls Tryz.prog 71 #[.slice A n c] w fun e w' => ∃ v, e = .returned v /\ OwnI w' w.heap.size v (cols L) /\ Below w.heap.size w w' := by
  have HT := hI hT;have HL := hI hL;have HZ := hI hz;have HLN := hI hL.len;have hn : n <= 100000 := by have := hL.len; have := hz.1; omega
  clear hT hL hz;go_enter Tryz.func71, Tryz.ntmps71
  go_wp2_with fail
  go_loopw [3, 10] (fun v3 v10 wr => ∃ i : Nat, i <= n /\ v10 = .int .i64 i /\ Hid (OwnI wr w.heap.size v3 (cols (L.take i))) /\ Hid (Below w.heap.size w wr)) (fun _ v10 _ => n - (intOf v10).toNat)
  case atStart => exact ⟨0, Nat.zero_le _, rfl, (by rw [List.take_zero]; exact OwnI.nil _ _), Below.refl _ _⟩
  case round =>
    obtain ⟨i, hi, rfl, HO, HB⟩ := hrel;obtain ⟨w0, hw0⟩ : ∃ w0, wr = w0 := ⟨_, rfl⟩;rw [hw0] at HO HB |-;clear hw0;by_cases hlt : i < n
    · have hiz : (i : Int) < (n : Int) := by omega
      obtain ⟨ad, r, RA, rn, rc, rfl, hadb, hr, hcr, hsr, _, _⟩ := HL.out.at_ hlt;have hcr0 : w0.cell? (ad.add i) = some (.slice RA rn rc) := (HB.out.cell (by rw [block_of_add]; exact hadb)).trans hcr;have HR := hI hr;have HSR := hI hsr;have HRN : Hid (r.length = rn) := hsr.len;have hrn : rn <= 100000 := by have := HRN.out; have := (HZ.out.row hr).1; omega
      have HSZ := hI (HZ.out.row hr);obtain ⟨Lt, hLt⟩ : ∃ Lt, L.take i = Lt := ⟨_, rfl⟩;have HNX : Hid (L.take (i + 1) = Lt ++ [r]) := by show _ = _; rw [take_atG hr, hLt]
      have HNM : Hid (nmax Lt <= 100000) := by show _ <= _; rw [<- hLt]; exact (HZ.out.take i).nmax
      rw [hLt] at HO;have HI := hI hlt;clear hcr hsr hr hLt;go_wp2_with fail
      clear hcr0;go_loopw [3, 16] (fun v3 v16 w1 => ∃ j m : Nat, j <= rn /\ v16 = .int .i64 j /\ Hid (m = max (nmax Lt) j) /\ Hid (OwnI w1 w.heap.size v3 (colsG m Lt r j)) /\ Hid (Below w.heap.size w w1)) (fun _ v16 _ => rn - (intOf v16).toNat)
      case atStart =>
        refine ⟨0, nmax Lt, Nat.zero_le _, rfl, (by show _ = _; omega), ?_, HB⟩;have h0 : colsG (nmax Lt) Lt r 0 = cols Lt := by rw [colsG_zero]; rfl
        rw [h0];exact HO
      case round =>
        clear HO HB;obtain ⟨j, m0, hj, rfl, HM0, HO, HB⟩ := hrel;obtain ⟨w1, hw1⟩ : ∃ w1, w1 = wr := ⟨_, rfl⟩;rw [<- hw1] at HO HB |-;clear hw1;by_cases hjl : j < rn
        · have hjz : (j : Int) < (rn : Int) := by omega
          obtain ⟨rd, s, rfl, hrb, hs, hcs⟩ := HSR.out.at_ hjl;have hcs1 : w1.cell? (rd.add j) = some (.string s) := (HB.out.cell (by rw [block_of_add]; exact hrb)).trans hcs;have HS := hI hs;have hss := HSZ.out.cell hs;have HWD := hI fun W (hb : Below w.heap.size w W) => width_any s W (by omega) (HT.out.on hb)
          have hm0 : m0 <= 200000 := by have h1 := HM0.out; have h2 := HNM.out; omega
          obtain ⟨vA, vc, hvf, _, _, _⟩ := HO.out.form;rw [colsG_len] at hvf;subst hvf;have hszw := HB.out.size;clear hcs hs;by_cases hjm0 : j < m0
          · have hne : ((j : Int) == (m0 : Int)) = false := beq_eq_false_iff_ne.2 (by omega)
            have hne2 : ¬ j = m0 := by omega
            obtain ⟨m, hm⟩ : ∃ m, m = m0 := ⟨_, rfl⟩;have HMX : Hid (m = max (nmax Lt) (j + 1)) := by show _ = _; have := HM0.out; omega
            have HJM : Hid (j < m) := by show _ < _; omega
            obtain ⟨WW, hWW⟩ : ∃ WW, WW = w1 := ⟨_, rfl⟩;rw [<- hm] at HO hne hne2 hm0 |-;rw [<- hWW] at HO HB hszw hcs1 |-;have HO2 := HO;have HBW := HB;clear hm hWW hjm0 HM0 HO HB;go_wp2_with fail
            have hlx : (colsG m Lt r j)[j]? = some (colAt Lt j : Int) := by rw [colsG_at HJM.out, if_neg (by omega)]
            obtain ⟨g, cap, hv, hg1, hgl, hcl, hfl⟩ := HO2.out.at_ hlx;have hml : (colsG m Lt r j).length = m := colsG_len _ _ _ _;rw [hml] at hv;first | subst hv | cases hv
            have HX : Hid ((colsG m Lt r j).set j (max (colAt Lt j : Int) (widB s : Int)) = colsG m Lt r (j + 1)) := by
              have h0 := colsG_set (n := m) (L := Lt) (r := r) (j := j) HJM.out;rw [cellB_some HS.out] at h0;exact h0
            obtain ⟨x, hx⟩ : ∃ x : Int, (colAt Lt j : Int) = x := ⟨_, rfl⟩;rw [hx] at hcl HX;obtain ⟨y, hy⟩ : ∃ y : Int, (widB s : Int) = y := ⟨_, rfl⟩;rw [hy] at HWD HX;have hjA : (0 : Int) <= (j : Int) := by omega
            have hjm := HJM.out;have hjmz : (j : Int) < (m : Int) := by omega
            have HML := hI hml;clear hlx hml hx hy
            have eaddr : (⟨g, 0, none⟩ : Addr).add j = ⟨g, j, none⟩ := by
              unfold Addr.add;split
              · rename_i h; simp [h]
              · simp
            go_region_with ((go_at_call 94; refine (HWD.out _ (HBW.out.drew)).mono ?_; rintro e w3 ⟨rfl, hb3⟩
                             have hl3 : w3.cell? ⟨g, j, none⟩ = some (.int .i64 x) := (hb3.cell hgl).trans hcl;have hf3 : w3.frozen? ⟨g, j, none⟩ = false := (hb3.frozen hgl).trans hfl))
            all_goals
              have HBB : Hid (Below WW.heap.size WW w3) := (Below.refl _ WW).drew.trans hb3;have hown3 := HO2.out.on HBB.out;have hst := hown3.set HML.out.symm j (max x y);rw [HX.out] at hst;have HO4 := hI hst.1;have HB4 : Hid (Below w.heap.size w (w3.setCell ⟨g, j, none⟩ (.int .i64 (max x y)))) := (HBW.out.trans (HBB.out.mono HBW.out.size)).trans hst.2;clear hst hown3 hb3 hl3 hf3;go_wp2;go_roundw
              case rel => exact ⟨j + 1, m, by omega, by go_num, HMX.out, HO4, HB4⟩
              case measure => simp [intOf]; omega
          · have hje : j = m0 := by have := HM0.out; omega
            have hne : ((j : Int) == (m0 : Int)) = true := beq_iff_eq.2 (by omega)
            have HOW : Hid (w1.ownsRow w.heap.size 3 1 (.slice vA m0 vc) m0 (intV (colsG m0 Lt r j))) := by
              have h0 := HO.out;unfold OwnI at h0;rw [colsG_len] at h0;exact h0
            obtain ⟨m, hm⟩ : ∃ m, m = m0 + 1 := ⟨_, rfl⟩;have HMX : Hid (m = max (nmax Lt) (j + 1)) := by show _ = _; have := HM0.out; omega
            have HJM : Hid (j < m) := by show _ < _; omega
            have HCG : Hid (colsG m0 Lt r j ++ [0] = colsG m Lt r j) := by
              show _ = _;rw [hm];exact colsG_more (by have := HM0.out; omega) (by omega)
            have HMM := hI hm;clear hje hm hjm0 HM0 HO;go_wp2_with (at_builtin; refine wpList_app1 rfl (.tmp 25) (.tmp 26) 32 rfl w.heap.size 3 8 _ info_int2 rfl Tryz.underlying32 rfl HOW.out rfl rfl (by omega) (by omega) hszw ?_; rintro v7 WW hown7 hb7 hs7 hk7; clear hk7)
            have HO2 : Hid (OwnI WW w.heap.size v7 (colsG m Lt r j)) := by
              show World.ownsRow _ _ _ _ _ _ _;rw [colsG_len, HMM.out, <- HMM.out, <- HCG.out, <- intV_app, HMM.out];exact hown7
            have HBW : Hid (Below w.heap.size w WW) := HB.out.trans hb7;have hszW := HBW.out.size;clear hown7 hb7 hs7 HOW HCG;have hlx : (colsG m Lt r j)[j]? = some (colAt Lt j : Int) := by rw [colsG_at HJM.out, if_neg (by omega)]
            obtain ⟨g, cap, hv, hg1, hgl, hcl, hfl⟩ := HO2.out.at_ hlx;have hml : (colsG m Lt r j).length = m := colsG_len _ _ _ _;rw [hml] at hv;first | subst hv | cases hv
            have HX : Hid ((colsG m Lt r j).set j (max (colAt Lt j : Int) (widB s : Int)) = colsG m Lt r (j + 1)) := by
              have h0 := colsG_set (n := m) (L := Lt) (r := r) (j := j) HJM.out;rw [cellB_some HS.out] at h0;exact h0
            obtain ⟨x, hx⟩ : ∃ x : Int, (colAt Lt j : Int) = x := ⟨_, rfl⟩;rw [hx] at hcl HX;obtain ⟨y, hy⟩ : ∃ y : Int, (widB s : Int) = y := ⟨_, rfl⟩;rw [hy] at HWD HX;have hjA : (0 : Int) <= (j : Int) := by omega
            have hjm := HJM.out;have hjmz : (j : Int) < (m : Int) := by omega
            have HML := hI hml;clear hlx hml hx hy
            have eaddr : (⟨g, 0, none⟩ : Addr).add j = ⟨g, j, none⟩ := by
              unfold Addr.add;split
              · rename_i h; simp [h]
              · simp
            go_region_with ((go_at_call 94; refine (HWD.out _ (HBW.out.drew)).mono ?_; rintro e w3 ⟨rfl, hb3⟩
                             have hl3 : w3.cell? ⟨g, j, none⟩ = some (.int .i64 x) := (hb3.cell hgl).trans hcl;have hf3 : w3.frozen? ⟨g, j, none⟩ = false := (hb3.frozen hgl).trans hfl))
            all_goals
              have HBB : Hid (Below WW.heap.size WW w3) := (Below.refl _ WW).drew.trans hb3;have hown3 := HO2.out.on HBB.out;have hst := hown3.set HML.out.symm j (max x y);rw [HX.out] at hst;have HO4 := hI hst.1;have HB4 : Hid (Below w.heap.size w (w3.setCell ⟨g, j, none⟩ (.int .i64 (max x y)))) := (HBW.out.trans (HBB.out.mono HBW.out.size)).trans hst.2;clear hst hown3 hb3 hl3 hf3;go_wp2;go_roundw
              case rel => exact ⟨j + 1, m, by omega, by go_num, HMX.out, HO4, HB4⟩
              case measure => simp [intOf]; omega
        · obtain rfl : j = rn := by omega
          have hjz : ¬ (j : Int) < (j : Int) := by omega
          have hcc : colsG m0 Lt r j = cols (L.take (i + 1)) := by rw [HNX.out, <- colsG_fin, HRN.out, <- HM0.out]
          have h0 := HO.out;rw [hcc] at h0;have HO5 := hI h0;clear hcc h0;have hi1 : i + 1 <= n := HI.out;go_wp2;go_roundw
          case rel => exact ⟨i + 1, hi1, by go_num, HO5, HB⟩
          case measure => have := HI.out; simp [intOf]; omega
    · obtain rfl : i = n := by omega
      have hjz : ¬ (i : Int) < (i : Int) := by omega
      have h0 := HO.out;rw [List.take_of_length_le (by rw [HLN.out]; exact Nat.le_refl _)] at h0;have HO5 := hI h0;clear h0;go_wp2;go_ret;exact ⟨_, rfl, HO5.out, HB.out⟩
end
end Go.Proofs.YthcabnfcgjnlnaaGreatDoor
namespace Go.Proofs.YthcabnfcgjnlnaaGreatDoor.Lay
open Go.Proofs.YthcabnfcgjnlnaaGreatDoor Go.Proofs.YthcabnfcgjnlnaaGreatDoor.Ru
theorem trimR_split (l : List UInt8) : ∃ m, l = trimR l ++ sp m := by
 unfold trimR
 have h1 : ∀ r : List UInt8, ∃ m, r = List.replicate m 32 ++ r.dropWhile fun b => b == 32 := by
  intro r;induction r with
  | nil => exact ⟨0, rfl⟩
  | cons b t ih =>
   by_cases hb : (b == 32) = true
   ·obtain ⟨m, hm⟩ := ih;refine ⟨m + 1, ?_⟩;rw [List.dropWhile_cons_of_pos (p := fun b : UInt8 => b == 32) hb, List.replicate_succ, List.cons_append, <- hm];rw [beq_iff_eq.1 hb]
   ·exact ⟨0, by rw [List.dropWhile_cons_of_neg (p := fun b : UInt8 => b == 32) hb]; rfl⟩
 obtain ⟨m, hm⟩ := h1 l.reverse;refine ⟨m, ?_⟩;have h2 := congrArg List.reverse hm;rw [List.reverse_reverse, List.reverse_append, List.reverse_replicate] at h2;exact h2
theorem trimR_len (l : List UInt8) : (trimR l).length <= l.length := by
 obtain ⟨m, h⟩ := trimR_split l;have := congrArg List.length h;rw [List.length_append] at this;omega
end Go.Proofs.YthcabnfcgjnlnaaGreatDoor.Lay
namespace Go.Proofs.YthcabnfcgjnlnaaGreatDoor
section
open Go.RowKit Ru Lay
attribute [local go_sem ↓] Go.wp_at_zero Go.wp_at_succ
def Bld (w : World) (B b : Nat) (l : List UInt8) : Prop := Lib.IsBuilder 96 5 B b (Lib.byteCells l) w
theorem Bld.new (w : World) : Bld (w.alloc (.cells #[.pointer none, .slice none 0 0] 96)) w.heap.size w.heap.size [] := Lib.fresh_isBuilder _ _ w
theorem builderAt_on {T e : TypeId} {B b : Nat} {p : Value} {bs : List Value} {w w' : World} (h : Lib.BuilderAt T e B b p bs w) (hb : Below w.heap.size w w') : Lib.BuilderAt T e B b p bs w' := by
 have hlt := h.lt;obtain ⟨hB, v, hk, hown, hne⟩ := h;exact ⟨hB, v, (hb.block b hlt).trans hk, own_below hown hb, hne⟩
theorem Bld.on {w w' : World} {B b : Nat} {l : List UInt8} (h : Bld w B b l) (hb : Below w.heap.size w w') : Bld w' B b l := h.elim (fun x => .inl (builderAt_on x hb)) (fun x => .inr (builderAt_on x hb))
theorem writeByte_any (B b : Nat) (l : List UInt8) (w : World) (h : Bld w B b l) (hl : l.length + 1 <= 140737488355328) (hB : B <= w.heap.size) :
  Calls Tryz.prog 95 #[.pointer (some ⟨b, 0, none⟩), .int .u8 32] w fun e w' => e = .returned .nilIface /\ Bld w' B b (l ++ [32]) /\ Below B w w' := by
 refine (Tryz.Builder_WriteByte B b (Lib.byteCells l) 32 w h (by rw [Lib.byteCells_length]; exact hl) hB).mono ?_;rintro e w' ⟨rfl, h1, h2⟩;refine ⟨rfl, ?_, h2⟩;unfold Bld;rw [Lib.byteCells_append];exact .inr h1
theorem writeStr_any (B b : Nat) (l : List UInt8) (s : ByteArray) (w : World) (h : Bld w B b l) (hl : l.length + s.size <= 140737488355328) (hB : B <= w.heap.size) :
  Calls Tryz.prog 64 #[.pointer (some ⟨b, 0, none⟩), .string s] w fun e w' => e = .returned (.tuple #[.int .i64 s.size, .nilIface]) /\ Bld w' B b (l ++ s.data.toList) /\ Below B w w' := by
 refine (Tryz.Builder_WriteString B b (Lib.byteCells l) s w h (by rw [Lib.byteCells_length]; exact hl) hB).mono ?_;rintro e w' ⟨rfl, h1, h2⟩;refine ⟨rfl, ?_, h2⟩;unfold Bld;rw [Lib.byteCells_append];exact .inr h1
theorem bldStr_any (B b : Nat) (l : List UInt8) (w : World) (h : Bld w B b l) (hB : B <= w.heap.size) :
  Calls Tryz.prog 65 #[.pointer (some ⟨b, 0, none⟩)] w fun e w' => e = .returned (.string (strL l)) /\ Below B w w' := Tryz.Builder_String_any B b l w h hB
theorem trim_any (s : ByteArray) (w : World) (hs : s.size <= 9223372036854775807) :
  Calls Tryz.prog 97 #[.string s, .string ⟨#[32]⟩] w fun e w' => e = .returned (.string (strL (trimR s.data.toList))) /\ w' = w := Tryz.strings_TrimRight_one s 32 (by decide) w hs
def OwnS (w : World) (base : Nat) (v : Value) (l : List ByteArray) : Prop := w.ownsRow base 9 1 v l.length (l.map .string)
theorem OwnS.nil (w : World) (base : Nat) : OwnS w base (.slice none 0 0) [] := World.ownsRow_nil _ _ _ _
theorem OwnS.on {w w' : World} {base : Nat} {v : Value} {l : List ByteArray} (h : OwnS w base v l) (hb : Below w.heap.size w w') : OwnS w' base v l := own_below h hb
theorem OwnS.form {w : World} {base : Nat} {v : Value} {l : List ByteArray} (h : OwnS w base v l) : ∃ A c, v = .slice A l.length c /\ l.length <= c /\ c <= 9223372036854775807 /\ SR w w.heap.size A l.length l := own_form h
theorem lineG_len (c : List Int) (r : List ByteArray) (hr : SzR r) : ∀ k, (lineG c r k).length <= k * 104001
 | 0 => Nat.zero_le _
 | k + 1 => by
  have ih := lineG_len c r hr k;have h1 := pad_len (cellB r k).data.toList (c.getD k 0);have h2 := hr.cellB k;rw [Lib.size_eq] at h2;show (lineG c r k ++ (if 0 < k then [32] else []) ++ pad (cellB r k).data.toList (c.getD k 0)).length <= _;rw [List.length_append, List.length_append];have h3 : (if 0 < k then [32] else [] : List UInt8).length <= 1 := by split <;> simp
  omega
theorem own_s {w : World} {base n : Nat} {v : Value} {l : List ByteArray} {s : ByteArray} (h : w.ownsRow base 9 1 v (l.length + 1) (l.map .string ++ [.string s])) : OwnS w base v (l ++ [s]) := by
 show World.ownsRow _ _ _ _ _ _ _;rw [List.length_append, List.length_singleton, List.map_append];exact h
set_option maxHeartbeats 4000000 in
set_option maxRecDepth 100000 in
theorem align_any (A : Option Addr) (n c : Nat) (L : List (List ByteArray)) (w : World) (hL : RowsC w w.heap.size A n L) (hz : SzL L) (hT : Tabs w) :
  Calls Tryz.prog 72 #[.slice A n c] w fun e w' => ∃ v, e = .returned v /\ OwnS w' w.heap.size v (alignL L) /\ Below w.heap.size w w' := by
 have HT := hI hT;have HL := hI hL;have HZ := hI hz;have HLN := hI hL.len;have hn : n <= 100000 := by have := hL.len; have := hz.1; omega
 have HCO := hI (columns_any A n c L w hL hz hT);have hnm := hz.nmax;clear hT hL hz;go_enter Tryz.func72, Tryz.ntmps72
 go_wp2_with fail
 refine HCO.out.mono ?_;rintro e wc ⟨v, rfl, hown, hb⟩;obtain ⟨CA, cc, rfl, _, _, hir⟩ := hown.form;rw [cols_len] at hir |-;have HCR := hI hir;have HBC := hI hb;obtain ⟨N, hN⟩ : ∃ N, nmax L = N := ⟨_, rfl⟩;have HN := hI hN;rw [hN] at hnm HCR |-;clear hir hb hown hN HCO;go_wp2_with fail
 go_loopw [4, 15] (fun v4 v15 wr => ∃ i : Nat, i <= n /\ v15 = .int .i64 i /\ Hid (OwnS wr wc.heap.size v4 ((L.take i).map fun r => lineL (cols L) r)) /\ Hid (Below wc.heap.size wc wr)) (fun _ v15 _ => n - (intOf v15).toNat)
 case atStart => exact ⟨0, Nat.zero_le _, rfl, (by rw [List.take_zero]; exact OwnS.nil _ _), Below.refl _ _⟩
 case round =>
  obtain ⟨i, hi, rfl, HO, HBR⟩ := hrel;obtain ⟨w0, hw0⟩ : ∃ w0, wr = w0 := ⟨_, rfl⟩;rw [hw0] at HO HBR |-;clear hw0;have HB : Hid (Below w.heap.size w w0) := HBC.out.trans (HBR.out.mono HBC.out.size);by_cases hlt : i < n
  ·have hiz : (i : Int) < (n : Int) := by omega
   obtain ⟨ad, r, RA, rn, rc, rfl, hadb, hr, hcr, hsr, _, _⟩ := HL.out.at_ hlt;have hcr0 : w0.cell? (ad.add i) = some (.slice RA rn rc) := (HB.out.cell (by rw [block_of_add]; exact hadb)).trans hcr;have HR := hI hr;have HSR := hI hsr;have HRN : Hid (r.length = rn) := hsr.len;have hrn : rn <= 100000 := by have := HRN.out; have := (HZ.out.row hr).1; omega
   have HSZ := hI (HZ.out.row hr);have HNX : Hid ((L.take (i + 1)).map (fun r => lineL (cols L) r) = ((L.take i).map fun r => lineL (cols L) r) ++ [lineL (cols L) r]) := by show _ = _; rw [take_atG hr, List.map_append]; rfl
   have hll : ((L.take i).map fun r => lineL (cols L) r).length <= i := by rw [List.length_map, List.length_take]; omega
   obtain ⟨ll, hlq⟩ : ∃ ll, ((L.take i).map fun r => lineL (cols L) r) = ll := ⟨_, rfl⟩;rw [hlq] at HO HNX hll;have HI := hI hlt;clear hcr hsr hr hlq;go_wp2_with fail
   clear hcr0;have HD0 := hI (Bld.new w0);have HBB0 : Hid (Below w0.heap.size w0 (w0.alloc (.cells #[.pointer none, .slice none 0 0] 96))) := below_new _ _;obtain ⟨w1, hw1⟩ : ∃ w1, w0.alloc (.cells #[.pointer none, .slice none 0 0] 96) = w1 := ⟨_, rfl⟩;rw [hw1] at HD0 HBB0 |-;clear hw1;go_loopw [21] (fun v21 wi => ∃ k : Nat, k <= N /\ v21 = .int .i64 k /\ Hid (Bld wi w0.heap.size w0.heap.size (lineG (cols L) r k)) /\ Hid (Below w0.heap.size w0 wi)) (fun v21 _ => N - (intOf v21).toNat)
   case atStart => exact ⟨0, Nat.zero_le _, rfl, HD0, HBB0⟩
   case round =>
    clear HD0 HBB0;obtain ⟨k, hk, rfl, HD, HBB⟩ := hrel;obtain ⟨wi, hwi⟩ : ∃ wi, wi = wr := ⟨_, rfl⟩;rw [<- hwi] at HD HBB |-;clear hwi;by_cases hkl : k < N
    ·have hkz : (k : Int) < (N : Int) := by omega
     obtain ⟨cd, x, rfl, hcb, hx, hcx⟩ := HCR.out.at_ hkl
     obtain rfl : x = (colAt L k : Int) := by
      rw [cols_at (by rw [HN.out]; exact hkl)] at hx;exact (Option.some.inj hx).symm
     have hcx1 : wi.cell? (cd.add k) = some (.int .i64 (colAt L k : Int)) := (HBB.out.cell (by rw [block_of_add]; exact Nat.lt_of_lt_of_le hcb HBR.out.size)).trans ((HBR.out.cell (by rw [block_of_add]; exact hcb)).trans hcx);have hlk := lineG_len (cols L) r HSZ.out k;clear hx hcx;by_cases hkr : k < rn
     ·have hkz2 : (k : Int) < (rn : Int) := by omega
      obtain ⟨rd, s, rfl, hrb, hs, hcs⟩ := HSR.out.at_ hkr;have hcs1 : wi.cell? (rd.add k) = some (.string s) := (HBB.out.cell (by rw [block_of_add]; exact Nat.lt_of_lt_of_le hrb HB.out.size)).trans ((HB.out.cell (by rw [block_of_add]; exact hrb)).trans hcs);have HS : Hid (cellB r k = s) := cellB_some hs;have hss := HSZ.out.cell hs;clear hs hcs;have HPD := hI fun W (hb : Below w.heap.size w W) => pad_any s (colAt L k : Int) W (by omega) (HT.out.on hb)
      by_cases hk0' : 0 < k
      ·clear hkz2;have HD0 := HD;have hk0 : (0 : Int) < (k : Int) := by omega
       have hk1 : 0 < k := by omega
       have HNL : Hid (lineG (cols L) r (k + 1) = lineG (cols L) r k ++ [32] ++ (padB s (colAt L k : Int)).data.toList) := by
        show lineG (cols L) r k ++ (if 0 < k then [32] else []) ++ pad (cellB r k).data.toList ((cols L).getD k 0) = _;rw [if_pos hk1, HS.out, cols_getD];unfold padB;rw [strL_data]
       have hln1 : (lineG (cols L) r k ++ [32]).length <= 10400100001 := by rw [List.length_append, List.length_singleton]; omega
       have hszb := HBB.out.size;go_wp2_with fail
       refine (writeByte_any _ _ _ _ HD0.out (by omega) hszb).mono ?_;rintro e w2 ⟨rfl, hd2, hb2⟩;have HD2 := hI hd2;have HBB2 : Hid (Below w0.heap.size w0 w2) := HBB.out.trans hb2;have HBZ2 : Hid (Below w.heap.size w w2) := HB.out.trans (HBB2.out.mono HB.out.size);obtain ⟨ln, hln⟩ : ∃ ln, lineG (cols L) r k ++ [32] = ln := ⟨_, rfl⟩;rw [hln] at HD2 HNL hln1;clear hd2 hb2 hln;go_wp2_with fail
       refine (HPD.out _ HBZ2.out).mono ?_;rintro e w3 ⟨rfl, hb3⟩;have HD3 := hI (HD2.out.on hb3);have HBB3 : Hid (Below w0.heap.size w0 w3) := HBB2.out.trans (hb3.mono HBB2.out.size);have hps := padB_size s (colAt L k : Int);have hsz3 := HBB3.out.size;clear hb3;go_wp2_with fail
       refine (writeStr_any _ _ _ _ _ HD3.out (by omega) hsz3).mono ?_;rintro e w4 ⟨rfl, hd4, hb4⟩
       have HD4 : Hid (Bld w4 w0.heap.size w0.heap.size (lineG (cols L) r (k + 1))) := by
        show Bld _ _ _ _;rw [HNL.out];exact hd4
       have HBB4 : Hid (Below w0.heap.size w0 w4) := HBB3.out.trans hb4;clear hd4 hb4;go_wp2;go_roundw
       case rel => exact ⟨k + 1, by omega, by go_num, HD4, HBB4⟩
       case measure => simp [intOf]; omega
      ·skip
       have hk0 : ¬ (0 : Int) < (k : Int) := by omega
       have HK0 : Hid (k = 0) := by show _ = _; omega
       have HNL : Hid (lineG (cols L) r (k + 1) = lineG (cols L) r k ++ (padB s (colAt L k : Int)).data.toList) := by
        show lineG (cols L) r k ++ (if 0 < k then [32] else []) ++ pad (cellB r k).data.toList ((cols L).getD k 0) = _;rw [if_neg (by omega), HS.out, cols_getD, List.append_nil];unfold padB;rw [strL_data]
       have HD2 := HD;have HBB2 := HBB;have HBZ2 : Hid (Below w.heap.size w wi) := HB.out.trans (HBB2.out.mono HB.out.size);obtain ⟨ln, hln⟩ : ∃ ln, lineG (cols L) r k = ln := ⟨_, rfl⟩;have hln1 : (lineG (cols L) r k).length <= 10400100001 := by omega
       rw [hln] at HD2 HNL hln1;clear hln hlk HD hkz2;go_wp2_with fail
       refine (HPD.out _ HBZ2.out).mono ?_;rintro e w3 ⟨rfl, hb3⟩;have HD3 := hI (HD2.out.on hb3);have HBB3 : Hid (Below w0.heap.size w0 w3) := HBB2.out.trans (hb3.mono HBB2.out.size);have hps := padB_size s (colAt L k : Int);have hsz3 := HBB3.out.size;clear hb3;go_wp2_with fail
       refine (writeStr_any _ _ _ _ _ HD3.out (by omega) hsz3).mono ?_;rintro e w4 ⟨rfl, hd4, hb4⟩
       have HD4 : Hid (Bld w4 w0.heap.size w0.heap.size (lineG (cols L) r (k + 1))) := by
        show Bld _ _ _ _;rw [HNL.out];exact hd4
       have HBB4 : Hid (Below w0.heap.size w0 w4) := HBB3.out.trans hb4;clear hd4 hb4;go_wp2;go_roundw
       case rel => exact ⟨k + 1, by omega, by go_num, HD4, HBB4⟩
       case measure => simp [intOf]; omega
     ·have hkz2 : ¬ (k : Int) < (rn : Int) := by omega
      obtain ⟨s, hs⟩ : ∃ s : ByteArray, s = ⟨#[]⟩ := ⟨_, rfl⟩;have HS : Hid (cellB r k = s) := by show _ = _; rw [hs]; exact cellB_none (by rw [HRN.out]; omega)
      have hss : s.size <= 100000 := by rw [hs]; exact Nat.zero_le _
      have HSE := hI hs;rw [<- hs];clear hs;have HPD := hI fun W (hb : Below w.heap.size w W) => pad_any s (colAt L k : Int) W (by omega) (HT.out.on hb)
      by_cases hk0' : 0 < k
      ·clear hkz2;have HD0 := HD;have hk0 : (0 : Int) < (k : Int) := by omega
       have hk1 : 0 < k := by omega
       have HNL : Hid (lineG (cols L) r (k + 1) = lineG (cols L) r k ++ [32] ++ (padB s (colAt L k : Int)).data.toList) := by
        show lineG (cols L) r k ++ (if 0 < k then [32] else []) ++ pad (cellB r k).data.toList ((cols L).getD k 0) = _;rw [if_pos hk1, HS.out, cols_getD];unfold padB;rw [strL_data]
       have hln1 : (lineG (cols L) r k ++ [32]).length <= 10400100001 := by rw [List.length_append, List.length_singleton]; omega
       have hszb := HBB.out.size;go_wp2_with fail
       refine (writeByte_any _ _ _ _ HD0.out (by omega) hszb).mono ?_;rintro e w2 ⟨rfl, hd2, hb2⟩;have HD2 := hI hd2;have HBB2 : Hid (Below w0.heap.size w0 w2) := HBB.out.trans hb2;have HBZ2 : Hid (Below w.heap.size w w2) := HB.out.trans (HBB2.out.mono HB.out.size);obtain ⟨ln, hln⟩ : ∃ ln, lineG (cols L) r k ++ [32] = ln := ⟨_, rfl⟩;rw [hln] at HD2 HNL hln1;clear hd2 hb2 hln;go_wp2_with fail
       refine (HPD.out _ HBZ2.out).mono ?_;rintro e w3 ⟨rfl, hb3⟩;have HD3 := hI (HD2.out.on hb3);have HBB3 : Hid (Below w0.heap.size w0 w3) := HBB2.out.trans (hb3.mono HBB2.out.size);have hps := padB_size s (colAt L k : Int);have hsz3 := HBB3.out.size;clear hb3;go_wp2_with fail
       refine (writeStr_any _ _ _ _ _ HD3.out (by omega) hsz3).mono ?_;rintro e w4 ⟨rfl, hd4, hb4⟩
       have HD4 : Hid (Bld w4 w0.heap.size w0.heap.size (lineG (cols L) r (k + 1))) := by
        show Bld _ _ _ _;rw [HNL.out];exact hd4
       have HBB4 : Hid (Below w0.heap.size w0 w4) := HBB3.out.trans hb4;clear hd4 hb4;go_wp2;go_roundw
       case rel => exact ⟨k + 1, by omega, by go_num, HD4, HBB4⟩
       case measure => simp [intOf]; omega
      ·skip
       have hk0 : ¬ (0 : Int) < (k : Int) := by omega
       have HK0 : Hid (k = 0) := by show _ = _; omega
       have HNL : Hid (lineG (cols L) r (k + 1) = lineG (cols L) r k ++ (padB s (colAt L k : Int)).data.toList) := by
        show lineG (cols L) r k ++ (if 0 < k then [32] else []) ++ pad (cellB r k).data.toList ((cols L).getD k 0) = _;rw [if_neg (by omega), HS.out, cols_getD, List.append_nil];unfold padB;rw [strL_data]
       have HD2 := HD;have HBB2 := HBB;have HBZ2 : Hid (Below w.heap.size w wi) := HB.out.trans (HBB2.out.mono HB.out.size);obtain ⟨ln, hln⟩ : ∃ ln, lineG (cols L) r k = ln := ⟨_, rfl⟩;have hln1 : (lineG (cols L) r k).length <= 10400100001 := by omega
       rw [hln] at HD2 HNL hln1;clear hln hlk HD hkz2;go_wp2_with fail
       refine (HPD.out _ HBZ2.out).mono ?_;rintro e w3 ⟨rfl, hb3⟩;have HD3 := hI (HD2.out.on hb3);have HBB3 : Hid (Below w0.heap.size w0 w3) := HBB2.out.trans (hb3.mono HBB2.out.size);have hps := padB_size s (colAt L k : Int);have hsz3 := HBB3.out.size;clear hb3;go_wp2_with fail
       refine (writeStr_any _ _ _ _ _ HD3.out (by omega) hsz3).mono ?_;rintro e w4 ⟨rfl, hd4, hb4⟩
       have HD4 : Hid (Bld w4 w0.heap.size w0.heap.size (lineG (cols L) r (k + 1))) := by
        show Bld _ _ _ _;rw [HNL.out];exact hd4
       have HBB4 : Hid (Below w0.heap.size w0 w4) := HBB3.out.trans hb4;clear hd4 hb4;go_wp2;go_roundw
       case rel => exact ⟨k + 1, by omega, by go_num, HD4, HBB4⟩
       case measure => simp [intOf]; omega
    ·obtain rfl : N = k := by omega
     have hkz : ¬ (N : Int) < (N : Int) := by omega
     have hlk := lineG_len (cols L) r HSZ.out N;have hszb := HBB.out.size
     have HLL : Hid (strL (trimR (strL (lineG (cols L) r N)).data.toList) = lineL (cols L) r) := by
      show _ = _;unfold lineL;rw [strL_data, cols_len, HN.out]
     have HTR := hI fun W => trim_any (strL (lineG (cols L) r N)) W (by rw [strL_size]; omega)
     rw [HLL.out] at HTR;obtain ⟨ln, hln⟩ : ∃ ln, lineG (cols L) r N = ln := ⟨_, rfl⟩;rw [hln] at HD HTR;clear hln hlk HLL;go_wp2_with fail
     refine (bldStr_any _ _ _ _ HD.out hszb).mono ?_;rintro e w2 ⟨rfl, hb2⟩;have HBB2 : Hid (Below w0.heap.size w0 w2) := HBB.out.trans hb2;clear hb2;go_wp2_with fail
     refine (HTR.out _).mono ?_;rintro e w3 ⟨rfl, rfl⟩;have HO2 := hI (HO.out.on HBB2.out);have hsz2 : wc.heap.size <= w3.heap.size := Nat.le_trans HBR.out.size HBB2.out.size;go_wp2_with (at_builtin; refine wpList_app1 rfl (.tmp 42) (.tmp 45) 45 rfl wc.heap.size 9 16 (.string .empty) info_string rfl Tryz.underlying45 rfl HO2.out rfl rfl (by omega) (by omega) hsz2 ?_; rintro v7 w4 hown7 hb7 hs7 hk7; clear hk7)
     have hO3 := own_s (n := 0) hown7;rw [<- HNX.out] at hO3;have HO3 := hI hO3;have HB3 : Hid (Below wc.heap.size wc w4) := (HBR.out.trans (HBB2.out.mono HBR.out.size)).trans hb7;clear hO3 hown7 hb7 hs7;have hi1 : i + 1 <= n := HI.out;go_wp2;go_roundw
     case rel => exact ⟨i + 1, hi1, by go_num, HO3, HB3⟩
     case measure => have := HI.out; simp [intOf]; omega
  ·obtain rfl : n = i := by omega
   have hiz : ¬ (n : Int) < (n : Int) := by omega
   have h0 := HO.out;rw [List.take_of_length_le (by rw [HLN.out]; exact Nat.le_refl _)] at h0;have HO5 := hI h0;clear h0;go_wp2;go_ret;exact ⟨_, rfl, own_base HO5.out HBC.out.size, HB.out⟩
end
section
open Go.RowKit
section
variable {α : Type} {f : α → List Value} {s : Nat}
theorem flat_len (hf : ∀ x, (f x).length = s) (l : List α) : (l.flatMap f).length = l.length * s := by
 induction l with
 | nil => simp
 | cons x t ih => rw [List.flatMap_cons, List.length_append, hf, ih, List.length_cons, Nat.add_mul]; omega
theorem flat_at (hf : ∀ x, (f x).length = s) {l : List α} {k j : Nat} {x : α} (h : l[k]? = some x) (hj : j < s) : (l.flatMap f)[k * s + j]? = (f x)[j]? := by
 induction l generalizing k with
 | nil => simp at h
 | cons q t ih =>
  rw [List.flatMap_cons]
  cases k with
  | zero =>
   simp at h
   subst h;rw [Nat.zero_mul, Nat.zero_add, List.getElem?_append_left (by rw [hf]; exact hj)]
  | succ k =>
   rw [List.getElem?_cons_succ] at h;rw [List.getElem?_append_right (by rw [hf, Nat.add_mul]; omega), hf, show (k + 1) * s + j - s = k * s + j by rw [Nat.add_mul]; omega];exact ih h
end
theorem field_of {w : World} {p : Addr} {i : Nat} {v : Value} (hi : 0 < i) (h : w.cell? (p.add i) = some v) : w.cell? ⟨p.block, p.off + i, none⟩ = some v := by
 unfold Addr.add at h;rw [if_neg (by omega)] at h;exact h
def RecR {α : Type} (f : α -> List Value) (s : Nat) (w : World) (B : Nat) (A : Option Addr) (n : Nat) (l : List α) : Prop := Reads w B s A n (l.flatMap f) /\ l.length = n
section
variable {α : Type} {f : α → List Value} {s B n k : Nat} {w w' : World} {A : Option Addr} {l : List α}
theorem RecR.on (h : RecR f s w w.heap.size A n l) (hb : Below w.heap.size w w') : RecR f s w' w'.heap.size A n l := ⟨Reads.on h.1 hb, h.2⟩
theorem RecR.below (h : RecR f s w B A n l) (hb : Below B w w') : RecR f s w' B A n l := ⟨h.1.below hb, h.2⟩
theorem RecR.none_ : RecR f s w B none 0 [] := ⟨⟨by simp, fun h => by omega⟩, rfl⟩
theorem RecR.at_ (hf : ∀ x, (f x).length = s) (hs : 0 < s) (h : RecR f s w B A n l) (hk : k < n) :
  ∃ ad x, A = some ad /\ ad.block < B /\ l[k]? = some x /\ (∀ u, (f x)[0]? = some u -> w.cell? (ad.add (k * s)) = some u) /\ ∀ j u, 0 < j -> (f x)[j]? = some u -> w.cell? ⟨(ad.add (k * s)).block, (ad.add (k * s)).off + j, none⟩ = some u := by
 obtain ⟨ad, e, hb, hc⟩ := h.1.2 (by omega);have hlt : k < l.length := by have := h.2; omega
 have hp : l[k]? = some l[k] := List.getElem?_eq_getElem hlt;refine ⟨ad, l[k], e, hb, hp, fun u hu => ?_, fun j u hj hu => ?_⟩
 ·have := hc (k * s + 0) u (by rw [flat_at hf hp hs]; exact hu);exact this
 ·have hjs : j < s := by have := (List.getElem?_eq_some_iff.1 hu).1; rw [hf] at this; exact this
  have := hc (k * s + j) u (by rw [flat_at hf hp hjs]; exact hu);rw [<- add_of_add] at this;exact field_of hj this
end
def OwnR {α : Type} (f : α -> List Value) (s : Nat) (e : TypeId) (w : World) (base : Nat) (v : Value) (l : List α) : Prop := w.ownsRow base e s v l.length (l.flatMap f)
section
variable {α : Type} {f : α → List Value} {s base : Nat} {e : TypeId} {w w' : World} {v : Value} {l : List α}
theorem OwnR.nil : OwnR f s e w base (.slice none 0 0) [] := World.ownsRow_nil _ _ _ _
theorem OwnR.on (h : OwnR f s e w base v l) (hb : Below w.heap.size w w') : OwnR f s e w' base v l := own_below h hb
theorem OwnR.form (h : OwnR f s e w base v l) : ∃ A c, v = .slice A l.length c /\ l.length <= c /\ c <= 9223372036854775807 /\ RecR f s w w.heap.size A l.length l := by
 rcases h.2 with ⟨rfl, h0⟩ | ⟨g, cap, cur, rfl, hg, hh, hn, hm, hs, ht⟩
 ·have hl : l = [] := List.eq_nil_of_length_eq_zero h0;subst hl;exact ⟨none, 0, rfl, Nat.le_refl _, by omega, RecR.none_⟩
 ·exact ⟨some ⟨g, 0, none⟩, cap, rfl, hn, by unfold maxLen at hm; exact hm, ⟨h.1, fun _ => ⟨_, rfl, (h.lt g rfl).2, h.cells (g := g) rfl⟩⟩, rfl⟩
theorem OwnR.snoc {x : α} (h : w.ownsRow base e s v (l.length + 1) (l.flatMap f ++ f x)) : OwnR f s e w base v (l ++ [x]) := by
 show World.ownsRow _ _ _ _ _ _ _;rw [List.length_append, List.length_singleton, List.flatMap_append];simpa using h
end
theorem wpList_appN {P : Program} {ops : Array Oper} {rest : List Oper} {o : Oper} {a : Act} {Q : Exit -> Act -> World -> Prop} {w0 : World} {c : Array Value} (hgd : o.guard = none) (s yy : Operand) (t : TypeId)
  (ho : o.op = .call { callee := .builtin .append, args := #[s, yy], argTypes := #[t, t] })
  (base : Nat) (e : TypeId) (size bytes : Nat) (z : Value) (hinfo : (P.info? e).map (fun i => (i.zero, i.size, i.bytes)) = some (some z, size, bytes)) (hzc : z.cells.size = size) (hs0 : 0 < size) (ht : P.underlying t = some (.slice e))
  {v : Value} {n : Nat} {xs : List Value} (hs : a.eval s = v) (hown : w0.ownsRow base e size v n xs) (hy : a.eval yy = .slice (some ⟨w0.heap.size, 0, none⟩) 1 1) (hc : c.toList.length = size) (h1 : ∀ u ∈ c.toList, u.oneCell' = true)
  (h63 : n + 1 <= 9223372036854775807) (hbytes : (n + 1) * bytes <= 140737488355328) (hbase : base <= w0.heap.size)
  (h : ∀ v' w', w'.ownsRow base e size v' (n + 1) (xs ++ c.toList) -> Below base w0 w' -> wpList P ops Q rest (a.put o.dst v') w') :
  wpList P ops Q (o :: rest) a (w0.alloc (.cells c e)) := by
 obtain ⟨i0, hi, hz0, hz1, hz2⟩ := info_parts hinfo;refine wpList_append_own_at _ hgd s yy t ho base e i0 z size bytes ht hi hz0 hz1 hz2 hzc hs0 v n xs hs (hown.alloc _) ⟨w0.heap.size, 0, none⟩ 1 1 c.toList hy (by rw [hc, Nat.one_mul]) ?_ h1 (by unfold maxLen; omega) hbytes (by simp; omega) ?_
 ·intro j u hu
  have e1 : (⟨w0.heap.size, 0, none⟩ : Addr).add j = ⟨w0.heap.size, j, none⟩ := by
   unfold Addr.add;split
   ·rename_i h; simp [h]
   ·simp
  rw [e1, World.cell?_alloc_at _ _ _ _ rfl];simpa using hu
 ·intro v' w' hown' hgrow _ hat;exact h v' w' hown' (below_append (Below.refl base w0) hbase hown (Nat.le_refl _) hgrow)
end
end Go.Proofs.YthcabnfcgjnlnaaGreatDoor
namespace Go.Proofs.YthcabnfcgjnlnaaGreatDoor.Lay
open Go.Proofs.YthcabnfcgjnlnaaGreatDoor Go.Proofs.YthcabnfcgjnlnaaGreatDoor.Ru
structure Ht where
 rid : Int
 nid : Int
 left : List ByteArray
 key : ByteArray
 right : List ByteArray
end Go.Proofs.YthcabnfcgjnlnaaGreatDoor.Lay
namespace Go.Proofs.YthcabnfcgjnlnaaGreatDoor
section
open Go.RowKit Ru Lay
attribute [local go_sem ↓] Go.wp_at_zero Go.wp_at_succ
structure Hv extends Ht where
 la : Option Addr
 ln : Nat
 lc : Nat
 ra : Option Addr
 rn : Nat
 rc : Nat
def encH (h : Hv) : List Value := [.int .i64 h.rid, .int .i64 h.nid, .slice h.la h.ln h.lc, .string h.key, .slice h.ra h.rn h.rc]
theorem encH_len (h : Hv) : (encH h).length = 5 := rfl
def SzS (l : List ByteArray) : Prop := l.length <= 1000 /\ ∀ s ∈ l, s.size <= 1000
structure HvR (w : World) (B : Nat) (h : Hv) : Prop where
 left : SR w B h.la h.ln h.left
 right : SR w B h.ra h.rn h.right
 lc : h.ln <= h.lc /\ h.lc <= 9223372036854775807
 rc : h.rn <= h.rc /\ h.rc <= 9223372036854775807
theorem SR.below' {w w' : World} {B n : Nat} {A : Option Addr} {l : List ByteArray} (h : SR w B A n l) (hb : Below B w w') : SR w' B A n l := Reads.below h hb
theorem HvR.below {w w' : World} {B : Nat} {h : Hv} (hh : HvR w B h) (hb : Below B w w') : HvR w' B h := ⟨hh.left.below' hb, hh.right.below' hb, hh.lc, hh.rc⟩
theorem HvR.more {w : World} {B B' : Nat} {h : Hv} (hh : HvR w B h) (hB : B <= B') : HvR w B' h := ⟨Reads.more hh.left hB, Reads.more hh.right hB, hh.lc, hh.rc⟩
theorem HvR.on {w w' : World} {h : Hv} (hh : HvR w w.heap.size h) (hb : Below w.heap.size w w') : HvR w' w'.heap.size h := (hh.below hb).more hb.size
def HitsR (w : World) (B : Nat) (A : Option Addr) (n : Nat) (l : List Hv) : Prop := RecR encH 5 w B A n l /\ ∀ h ∈ l, HvR w B h
theorem HitsR.below {w w' : World} {B n : Nat} {A : Option Addr} {l : List Hv} (hh : HitsR w B A n l) (hb : Below B w w') : HitsR w' B A n l := ⟨hh.1.below hb, fun h hm => (hh.2 h hm).below hb⟩
theorem HitsR.more {w : World} {B B' n : Nat} {A : Option Addr} {l : List Hv} (hh : HitsR w B A n l) (hB : B <= B') : HitsR w B' A n l := ⟨⟨hh.1.1.more hB, hh.1.2⟩, fun h hm => (hh.2 h hm).more hB⟩
theorem HitsR.on {w w' : World} {n : Nat} {A : Option Addr} {l : List Hv} (hh : HitsR w w.heap.size A n l) (hb : Below w.heap.size w w') : HitsR w' w'.heap.size A n l := (hh.below hb).more hb.size
theorem HitsR.len {w : World} {B n : Nat} {A : Option Addr} {l : List Hv} (hh : HitsR w B A n l) : l.length = n := hh.1.2
theorem HitsR.at_ {w : World} {B n k : Nat} {A : Option Addr} {l : List Hv} (hh : HitsR w B A n l) (hk : k < n) :
  ∃ ad x, A = some ad /\ ad.block < B /\ l[k]? = some x /\ HvR w B x /\ w.cell? (ad.add (k * 5)) = some (.int .i64 x.rid) /\ w.cell? ⟨(ad.add (k * 5)).block, (ad.add (k * 5)).off + 1, none⟩ = some (.int .i64 x.nid) /\
   w.cell? ⟨(ad.add (k * 5)).block, (ad.add (k * 5)).off + 2, none⟩ = some (.slice x.la x.ln x.lc) /\ w.cell? ⟨(ad.add (k * 5)).block, (ad.add (k * 5)).off + 3, none⟩ = some (.string x.key) /\
   w.cell? ⟨(ad.add (k * 5)).block, (ad.add (k * 5)).off + 4, none⟩ = some (.slice x.ra x.rn x.rc) := by
 obtain ⟨ad, x, e, hb, hx, h0, hj⟩ := hh.1.at_ encH_len (by omega) hk;exact ⟨ad, x, e, hb, hx, hh.2 x (List.mem_of_getElem? hx), h0 _ rfl, hj 1 _ (by omega) rfl, hj 2 _ (by omega) rfl, hj 3 _ (by omega) rfl, hj 4 _ (by omega) rfl⟩
theorem addr_plain {w : World} {a : Addr} {v : Value} (h : w.cell? a = some v) : a = ⟨a.block, a.off, none⟩ := by
 obtain ⟨b, o, s⟩ := a
 cases s with
 | none => rfl
 | some k =>
  unfold World.cell? at h;split at h
  ·simp at h
  ·cases h
theorem take_at2 {α : Type} {l : List α} {k : Nat} {x : α} (h : l[k]? = some x) : l.take (k + 1) = l.take k ++ [x] := by rw [List.take_add_one, h]; rfl
structure Nt where
 nid : Int
 tier : Int
 parent : Int
 at1 : Int
 at2 : Int
 rank : Int
 text : ByteArray
def nt0 : Nt := ⟨0, 0, 0, 0, 0, 0, ⟨#[]⟩⟩
def encN (n : Nt) : List Value := [.int .i64 n.nid, .int .i64 n.tier, .int .i64 n.parent, .int .i64 n.at1, .int .i64 n.at2, .int .i64 n.rank, .string n.text]
theorem encN_len (n : Nt) : (encN n).length = 7 := rfl
def noteV (n : Nt) : Value := .agg #[.int .i64 n.nid, .int .i64 n.tier, .int .i64 n.parent, .int .i64 n.at1, .int .i64 n.at2, .int .i64 n.rank, .string n.text]
structure Dv where
 rid : Int
 name : ByteArray
 len : Int
 day : Int
 sa : Option Addr
 sn : Nat
 sc : Nat
 ta : Option Addr
 tn : Nat
 tc : Nat
 na : Option Addr
 nn : Nat
 nc : Nat
def docV (d : Dv) : Value := .agg #[.int .i64 d.rid, .string d.name, .int .i64 d.len, .int .i64 d.day, .slice d.sa d.sn d.sc, .slice d.ta d.tn d.tc, .slice d.na d.nn d.nc]
def NotesR (w : World) (B : Nat) (A : Option Addr) (n : Nat) (l : List Nt) : Prop := RecR encN 7 w B A n l
theorem NotesR.len {w : World} {B n : Nat} {A : Option Addr} {l : List Nt} (hh : NotesR w B A n l) : l.length = n := hh.2
theorem NotesR.below {w w' : World} {B n : Nat} {A : Option Addr} {l : List Nt} (hh : NotesR w B A n l) (hb : Below B w w') : NotesR w' B A n l := RecR.below hh hb
theorem NotesR.on {w w' : World} {n : Nat} {A : Option Addr} {l : List Nt} (hh : NotesR w w.heap.size A n l) (hb : Below w.heap.size w w') : NotesR w' w'.heap.size A n l := RecR.on hh hb
theorem NotesR.at_ {w : World} {B n k : Nat} {A : Option Addr} {l : List Nt} (hh : NotesR w B A n l) (hk : k < n) :
  ∃ ad x, A = some ad /\ ad.block < B /\ l[k]? = some x /\ ∀ W, Below B w W -> W.cell? (ad.add (k * 7)) = some (.int .i64 x.nid) /\ W.cell? ⟨(ad.add (k * 7)).block, (ad.add (k * 7)).off + 1, none⟩ = some (.int .i64 x.tier) /\
   W.cell? ⟨(ad.add (k * 7)).block, (ad.add (k * 7)).off + 2, none⟩ = some (.int .i64 x.parent) /\ W.cell? ⟨(ad.add (k * 7)).block, (ad.add (k * 7)).off + 3, none⟩ = some (.int .i64 x.at1) /\
   W.cell? ⟨(ad.add (k * 7)).block, (ad.add (k * 7)).off + 4, none⟩ = some (.int .i64 x.at2) /\ W.cell? ⟨(ad.add (k * 7)).block, (ad.add (k * 7)).off + 5, none⟩ = some (.int .i64 x.rank) /\
   W.cell? ⟨(ad.add (k * 7)).block, (ad.add (k * 7)).off + 6, none⟩ = some (.string x.text) := by
 obtain ⟨ad, x, e, hb, hx, _, _⟩ := RecR.at_ encN_len (by omega) hh hk;refine ⟨ad, x, e, hb, hx, fun W hW => ?_⟩;obtain ⟨ad', x', e', _, hx', h0, hj⟩ := RecR.at_ encN_len (by omega) (RecR.below hh hW) hk;rw [e] at e'
 cases e'
 rw [hx] at hx'
 cases hx'
 exact ⟨h0 _ rfl, hj 1 _ (by omega) rfl, hj 2 _ (by omega) rfl, hj 3 _ (by omega) rfl, hj 4 _ (by omega) rfl, hj 5 _ (by omega) rfl, hj 6 _ (by omega) rfl⟩
def getN (l : List Nt) (id : Int) : Option Nt := l.find? fun n => decide (n.nid = id)
theorem getN_here {l : List Nt} {id : Int} {k : Nat} {x : Nt} (hp : ∀ j y, j < k -> l[j]? = some y -> y.nid ≠ id) (hx : l[k]? = some x) (h : x.nid = id) : getN l id = some x := by
 induction l generalizing k with
 | nil => simp at hx
 | cons y t ih =>
  unfold getN
  cases k with
  | zero =>
   simp at hx
   subst hx;rw [List.find?_cons_of_pos (by simpa using h)]
  | succ k =>
   rw [List.find?_cons_of_neg (by simpa using hp 0 y (by omega) rfl)];rw [List.getElem?_cons_succ] at hx;exact ih (fun j z hj hz => hp (j + 1) z (by omega) (by rw [List.getElem?_cons_succ]; exact hz)) hx
theorem getN_none {l : List Nt} {id : Int} (hp : ∀ j y, j < l.length -> l[j]? = some y -> y.nid ≠ id) : getN l id = none := by
 unfold getN;rw [List.find?_eq_none];intro x hx;obtain ⟨j, hj⟩ := List.getElem?_of_mem hx;simpa using hp j x (List.getElem?_eq_some_iff.1 hj).1 hj
theorem pre_step {α : Type} {l : List α} {Q : α -> Prop} {i : Nat} {x : α} (h : ∀ j y, j < i -> l[j]? = some y -> Q y) (hx : l[i]? = some x) (hq : Q x) : ∀ j y, j < i + 1 -> l[j]? = some y -> Q y := fun j y hj hy => by
 by_cases e : j = i
 ·subst e;rw [hx] at hy
  cases hy;exact hq
 ·exact h j y (by omega) hy
def getV (o : Option Nt) : Value := .tuple #[noteV (o.getD nt0), .bool o.isSome]
theorem there_below {B : Nat} {a w : World} {b o n : Nat} (hb : Below B a w) (hlt : b < B) (h : a.there b o n) : w.there b o n := fun j hj => by
 obtain ⟨h1, h2⟩ := h j hj;exact ⟨by rw [hb.cell (p := ⟨b, o + j, none⟩) hlt]; exact h1, (hb.frozen (p := ⟨b, o + j, none⟩) hlt).trans h2⟩
theorem range_below {B : Nat} {a w : World} {b o : Nat} {cs : List Value} (hb : Below B a w) (hlt : b < B) (h : a.rangeAt b o cs) : w.rangeAt b o cs := fun j v hv => (hb.cell (p := ⟨b, o + j, none⟩) hlt).trans (h j v hv)
theorem there_new (w : World) (c : Array Value) (e : TypeId) : (w.alloc (.cells c e)).there w.heap.size 0 c.size := fun j hj => by
 rw [Nat.zero_add];refine ⟨?_, World.frozen?_alloc_new w _ _ j⟩;have : (w.alloc (.cells c e)).cell? ⟨w.heap.size, j, none⟩ = c[j]? := World.cell?_alloc_new w _ _ j;rw [this, Array.getElem?_eq_getElem hj];rfl
theorem heap_setCells_size (b : Nat) : ∀ (vs : List Value) (o : Nat) (w : World), (w.setCells b o vs).heap.size = w.heap.size
 | [], _, _ => rfl
 | v :: r, o, w => by
  show ((w.setCell ⟨b, o, none⟩ v).setCells b (o + 1) r).heap.size = _;rw [heap_setCells_size b r (o + 1)];simp
theorem heap_setCells_tape (b : Nat) : ∀ (vs : List Value) (o : Nat) (w : World), (w.setCells b o vs).tape = w.tape
 | [], _, _ => rfl
 | v :: r, o, w => by
  show ((w.setCell ⟨b, o, none⟩ v).setCells b (o + 1) r).tape = _;rw [heap_setCells_tape b r (o + 1)];rfl
theorem below_set {B : Nat} {a w : World} {b o : Nat} {vs : List Value} (h : Below B a w) (hB : B <= b) (hs : B <= w.heap.size) : Below B a (w.setCells b o vs) :=
 ⟨(World.os_setCells _ _ _ _).trans h.os, (heap_setCells_tape _ _ _ _).trans h.tape, (World.output_setCells _ _ _ _).trans h.output, by rw [heap_setCells_size]; exact h.size, fun k hk => by
  rw [World.heap_setCells_other _ _ _ _ (Nat.lt_of_lt_of_le hk hs) (by omega)];exact h.block k hk⟩
theorem results_cell_of {P : Program} {fn : Func} {p u : Tmp} {ty : TypeId} (h : fn.results = #[.cell p ty, .tmp u]) (tmps : Array Value) (w : World) (b : Nat) (cs : List Value) (x : Value) (d : TypeDesc)
  (hp : tmps.getD p undef = .pointer (some ⟨b, 0, none⟩)) (hx : tmps.getD u undef = x) (hc : w.rangeAt b 0 cs) (hu : P.underlying ty = some d) (hd : d.isRow = true) (hi : (P.info? ty).map (·.size) = some cs.length) :
  (results fn tmps).run P w = .ok (.tuple #[.agg cs.toArray, x]) w := by
 rw [results_cell_tmp h, hp, hx];show ((loadVar ty ⟨b, 0, none⟩).run P w).andThen _ = _;rw [run_loadVar_mid w b 0 ty cs d hc hu hd hi];rfl
set_option maxHeartbeats 1000000 in
set_option maxRecDepth 100000 in
theorem get_any (d : Dv) (l : List Nt) (id : Int) (w : World) (hl : NotesR w w.heap.size d.na d.nn l) (hn : d.nn <= 9223372036854775807) :
  Calls Tryz.prog 36 #[docV d, .int .i64 id] w fun e w' => e = .returned (getV (getN l id)) /\ Below w.heap.size w w' := by
 have HL := hI hl;have HLN := hI hl.len;clear hl;unfold docV;obtain ⟨rid, name, len, day, sa, sn, sc, ta, tn, tc, na, nn, nc⟩ := d;simp only at HL HLN hn |-;go_enter Tryz.func36, Tryz.ntmps36
 go_wp2_with fail
 obtain ⟨W0, hW0⟩ : ∃ W0, (w.alloc (.cells #[.int .i64 rid, .string name, .int .i64 len, .int .i64 day, .slice sa sn sc, .slice ta tn tc, .slice na nn nc] 38)).alloc (.cells #[.int .i64 0, .int .i64 0, .int .i64 0, .int .i64 0, .int .i64 0, .int .i64 0, .string ⟨#[]⟩] 58) = W0 := ⟨_, rfl⟩;have HB : Hid (Below w.heap.size w W0) := by rw [<- hW0]; exact ((Below.refl _ w).alloc (Nat.le_refl _) _).alloc (by simp) _
 have hz0 : W0.heap.size = w.heap.size + 1 + 1 := by rw [<- hW0]; simp
 have HTH : Hid (W0.there (w.heap.size + 1) 0 7) := by
  have h := there_new (w.alloc (.cells #[.int .i64 rid, .string name, .int .i64 len, .int .i64 day, .slice sa sn sc, .slice ta tn tc, .slice na nn nc] 38)) #[.int .i64 0, .int .i64 0, .int .i64 0, .int .i64 0, .int .i64 0, .int .i64 0, .string ⟨#[]⟩] 58;rw [hW0] at h;show W0.there _ _ _;simpa using h
 have HRG : Hid (W0.rangeAt (w.heap.size + 1) 0 (encN nt0)) := fun j v hv => by
  rw [<- hW0, Nat.zero_add];have h := World.cell?_alloc_new (w.alloc (.cells #[.int .i64 rid, .string name, .int .i64 len, .int .i64 day, .slice sa sn sc, .slice ta tn tc, .slice na nn nc] 38)) #[.int .i64 0, .int .i64 0, .int .i64 0, .int .i64 0, .int .i64 0, .int .i64 0, .string ⟨#[]⟩] 58 j;rw [show (w.alloc (.cells #[.int .i64 rid, .string name, .int .i64 len, .int .i64 day, .slice sa sn sc, .slice ta tn tc, .slice na nn nc] 38)).heap.size = w.heap.size + 1 by simp] at h;rw [h, <- hv, <- List.getElem?_toArray];rfl
 rw [hW0];clear hW0;go_loopw [7, 11] (fun v7 v11 wr => ∃ i : Nat, i <= nn /\ v11 = .int .i64 i /\ Hid (∀ j y, j < i -> l[j]? = some y -> y.nid ≠ id) /\ Hid (Below W0.heap.size W0 wr)) (fun _ v11 _ => nn - (intOf v11).toNat)
 case atStart => exact ⟨0, Nat.zero_le _, rfl, fun j y h => by omega, Below.refl _ _⟩
 case round =>
  obtain ⟨i, hi, rfl, HP, HB0⟩ := hrel;have hsz := HB0.out.size;by_cases hlt : i < nn
  ·have hiz : (i : Int) < (nn : Int) := by omega
   have hiA : (0 : Int) <= (i : Int) := by omega
   obtain ⟨ad, x, rfl, hab, hx, hcells⟩ := HL.out.at_ hlt;obtain ⟨q0, q1, q2, q3, q4, q5, q6⟩ := hcells wr (HB.out.trans (HB0.out.mono HB.out.size));have HX := hI hx;have HI := hI hlt;clear hx hcells;by_cases he : x.nid = id
   ·have HG : Hid (getN l id = some x) := getN_here HP.out HX.out he;subst he;have HTW := hI (there_below HB0.out (by omega) HTH.out);have HRW := hI (range_below HB0.out (by omega) HRG.out);have hlt1 : w.heap.size + 1 < wr.heap.size := by omega
    have c0 : wr.cell? ⟨w.heap.size + 1, 0, none⟩ = some (.int .i64 0) := HRW.out 0 (.int .i64 0) rfl;have f0 : wr.frozen? ⟨w.heap.size + 1, 0, none⟩ = false := (HTW.out 0 (by omega)).2;have c1 : wr.cell? ⟨w.heap.size + 1, 1, none⟩ = some (.int .i64 0) := HRW.out 1 (.int .i64 0) rfl;have f1 : wr.frozen? ⟨w.heap.size + 1, 1, none⟩ = false := (HTW.out 1 (by omega)).2;have c2 : wr.cell? ⟨w.heap.size + 1, 2, none⟩ = some (.int .i64 0) := HRW.out 2 (.int .i64 0) rfl;have f2 : wr.frozen? ⟨w.heap.size + 1, 2, none⟩ = false := (HTW.out 2 (by omega)).2;have c3 : wr.cell? ⟨w.heap.size + 1, 3, none⟩ = some (.int .i64 0) := HRW.out 3 (.int .i64 0) rfl;have f3 : wr.frozen? ⟨w.heap.size + 1, 3, none⟩ = false := (HTW.out 3 (by omega)).2;have c4 : wr.cell? ⟨w.heap.size + 1, 4, none⟩ = some (.int .i64 0) := HRW.out 4 (.int .i64 0) rfl;have f4 : wr.frozen? ⟨w.heap.size + 1, 4, none⟩ = false := (HTW.out 4 (by omega)).2;have c5 : wr.cell? ⟨w.heap.size + 1, 5, none⟩ = some (.int .i64 0) := HRW.out 5 (.int .i64 0) rfl;have f5 : wr.frozen? ⟨w.heap.size + 1, 5, none⟩ = false := (HTW.out 5 (by omega)).2;have c6 : wr.cell? ⟨w.heap.size + 1, 6, none⟩ = some (.string ⟨#[]⟩) := HRW.out 6 (.string ⟨#[]⟩) rfl;have f6 : wr.frozen? ⟨w.heap.size + 1, 6, none⟩ = false := (HTW.out 6 (by omega)).2;go_wp2;(try simp only [Exit.inBlock, Exit.then])
    refine bodyPost_ret (v := getV (some x)) ?_ rfl ⟨by rw [HG.out], ?_⟩
    ·show _ = Result.ok (Value.tuple #[.agg (encN x).toArray, .bool true]) _;refine results_cell_of rfl _ _ (w.heap.size + 1) (encN x) _ _ ?_ ?_ ?_ Tryz.underlying58 rfl (by kernel_rfl)
     ·rfl
     ·rfl
     ·exact World.rangeAt_alloc (World.rangeAt_setCells_same wr (w.heap.size + 1) 0 [.int .i64 x.nid, .int .i64 x.tier, .int .i64 x.parent, .int .i64 x.at1, .int .i64 x.at2, .int .i64 x.rank, .string x.text] HTW.out) _
    ·have hbs := below_set (w := wr) (b := w.heap.size + 1) (o := 0) (vs := [.int .i64 x.nid, .int .i64 x.tier, .int .i64 x.parent, .int .i64 x.at1, .int .i64 x.at2, .int .i64 x.rank, .string x.text]) (HB.out.trans (HB0.out.mono HB.out.size)) (by omega) (by omega);exact hbs.alloc (by rw [heap_setCells_size]; omega) _
   ·have hbe : (x.nid == id) = false := beq_eq_false_iff_ne.2 he;have HP2 := hI (pre_step HP.out HX.out he);have HB1 : Hid (Below W0.heap.size W0 (wr.alloc (.cells #[.int .i64 x.nid, .int .i64 x.tier, .int .i64 x.parent, .int .i64 x.at1, .int .i64 x.at2, .int .i64 x.rank, .string x.text] 58))) := HB0.out.alloc hsz _;go_wp2;go_roundw
    case rel => exact ⟨i + 1, HI.out, by go_num, HP2, HB1⟩
    case measure => have := HI.out; simp [intOf]; omega
  ·obtain rfl : nn = i := by omega
   have hiz : ¬ (nn : Int) < (nn : Int) := by omega
   have HG : Hid (getN l id = none) := getN_none fun j y hj => HP.out j y (by rw [<- HLN.out]; exact hj)
   have HTW := hI (there_below HB0.out (by omega) HTH.out);have HRW := hI (range_below HB0.out (by omega) HRG.out);have hlt1 : w.heap.size + 1 < wr.heap.size := by omega
   have c0 : wr.cell? ⟨w.heap.size + 1, 0, none⟩ = some (.int .i64 0) := HRW.out 0 (.int .i64 0) rfl;have f0 : wr.frozen? ⟨w.heap.size + 1, 0, none⟩ = false := (HTW.out 0 (by omega)).2;have c1 : wr.cell? ⟨w.heap.size + 1, 1, none⟩ = some (.int .i64 0) := HRW.out 1 (.int .i64 0) rfl;have f1 : wr.frozen? ⟨w.heap.size + 1, 1, none⟩ = false := (HTW.out 1 (by omega)).2;have c2 : wr.cell? ⟨w.heap.size + 1, 2, none⟩ = some (.int .i64 0) := HRW.out 2 (.int .i64 0) rfl;have f2 : wr.frozen? ⟨w.heap.size + 1, 2, none⟩ = false := (HTW.out 2 (by omega)).2;have c3 : wr.cell? ⟨w.heap.size + 1, 3, none⟩ = some (.int .i64 0) := HRW.out 3 (.int .i64 0) rfl;have f3 : wr.frozen? ⟨w.heap.size + 1, 3, none⟩ = false := (HTW.out 3 (by omega)).2;have c4 : wr.cell? ⟨w.heap.size + 1, 4, none⟩ = some (.int .i64 0) := HRW.out 4 (.int .i64 0) rfl;have f4 : wr.frozen? ⟨w.heap.size + 1, 4, none⟩ = false := (HTW.out 4 (by omega)).2;have c5 : wr.cell? ⟨w.heap.size + 1, 5, none⟩ = some (.int .i64 0) := HRW.out 5 (.int .i64 0) rfl;have f5 : wr.frozen? ⟨w.heap.size + 1, 5, none⟩ = false := (HTW.out 5 (by omega)).2;have c6 : wr.cell? ⟨w.heap.size + 1, 6, none⟩ = some (.string ⟨#[]⟩) := HRW.out 6 (.string ⟨#[]⟩) rfl;have f6 : wr.frozen? ⟨w.heap.size + 1, 6, none⟩ = false := (HTW.out 6 (by omega)).2;go_wp2;(try simp only [Exit.inBlock, Exit.then])
   refine bodyPost_ret (v := getV none) ?_ rfl ⟨by rw [HG.out], ?_⟩
   ·show _ = Result.ok (Value.tuple #[.agg (encN nt0).toArray, .bool false]) _;refine results_cell_of rfl _ _ (w.heap.size + 1) (encN nt0) _ _ ?_ ?_ ?_ Tryz.underlying58 rfl (by kernel_rfl)
    ·rfl
    ·rfl
    ·exact World.rangeAt_setCells_same wr (w.heap.size + 1) 0 [.int .i64 0, .int .i64 0, .int .i64 0, .int .i64 0, .int .i64 0, .int .i64 0, .string ⟨#[]⟩] HTW.out
   ·exact below_set (w := wr) (b := w.heap.size + 1) (o := 0) (vs := [.int .i64 0, .int .i64 0, .int .i64 0, .int .i64 0, .int .i64 0, .int .i64 0, .string ⟨#[]⟩]) (HB.out.trans (HB0.out.mono HB.out.size)) (by omega) (by omega)
end
end Go.Proofs.YthcabnfcgjnlnaaGreatDoor
