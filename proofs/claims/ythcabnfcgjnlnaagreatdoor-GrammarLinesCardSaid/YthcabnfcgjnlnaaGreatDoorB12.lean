import Derived.Test.YthcabnfcgjnlnaaGreatDoorB11
set_option linter.unusedVariables false
set_option linter.unusedSimpArgs false
namespace Go.Proofs.YthcabnfcgjnlnaaGreatDoor
section
open Go.RowKit Ru Lay
attribute [local go_sem ↓] Go.wp_at_zero Go.wp_at_succ
theorem RfO.snoc {w : World} {base : Nat} {v : Value} {l : List Rf} {r : Rf} (h : w.ownsRow base 24 2 v (l.length + 1) (l.flatMap encR ++ [.int .i64 r.1, .int .i64 r.2])) : RfO w base v (l ++ [r]) := OwnR.snoc (f := encR) (x := r) h
theorem RfO.grown {w w' : World} {base : Nat} {v : Value} {l : List Rf} {row : Option Nat} (h : RfO w base v l) (hg : w.grownBy w' row) (hne : ∀ k, v.ownBlock = some k -> some k ≠ row) : RfO w' base v l := World.ownsRow.kept h hg (by
 cases e : v.ownBlock with
 | none => exact .inl rfl
 | some k => exact .inr (hne k e))
theorem RfO.apart {w : World} {base b : Nat} {v : Value} {l : List Rf} (h : RfO w base v l) (hb : b < base) : some b ≠ v.ownBlock := fun e => by
 have := (World.ownsRow.lt h b e.symm).1;omega
theorem RfO.base {w : World} {base base' : Nat} {v : Value} {l : List Rf} (h : RfO w base v l) (hb : base' <= base) : RfO w base' v l := own_base h hb
theorem numsF_next {out : List Rf} {rs : List Rf} {j : Nat} {r : Rf} (h : rs[j]? = some r) : numsF out (rs.take (j + 1)) = if r ∈ numsF out (rs.take j) then numsF out (rs.take j) else numsF out (rs.take j) ++ [r] := by
 rw [List.take_add_one, h];exact numsF_snoc _ _ _
theorem allR_len {l : List Pt} {i : Nat} : (allR (l.take i)).length <= (allR l).length := by
 unfold allR;conv => rhs; rw [<- List.take_append_drop i l]
 rw [List.flatMap_append, List.length_append];omega
theorem allR_part {l : List Pt} {i : Nat} {p : Pt} (h : l[i]? = some p) (j : Nat) : (allR (l.take i)).length + (p.refs.take j).length <= (allR l).length := by
 have h1 := allR_len (l := l) (i := i + 1);rw [allR_next h, List.length_append] at h1;have : (p.refs.take j).length <= p.refs.length := by rw [List.length_take]; omega
 omega
def NumsPost (L : List Pt) (w : World) (e : Ending) (w' : World) : Prop := ∃ v b, e = .returned (.tuple #[v, .map (some b)]) /\ RfO w' w.heap.size v (numsF [] (allR L)) /\ NumM w' b (numsF [] (allR L)) /\ Below w.heap.size w w'
set_option maxHeartbeats 4000000 in
set_option maxRecDepth 100000 in
theorem numbers_any (A : Option Addr) (n c : Nat) (L : List Pt) (w : World) (hP : PtsR w w.heap.size A n L) (hn : n <= 1000000) (hz : (allR L).length <= 1000000) :
    Calls Tryz.prog 33 #[.slice A n c] w (NumsPost L w) := by
  have HP := hI hP;have HL := hI hP.len;have HZ := hI hz;clear hP hz;have hmm := @run_makeMap Tryz.prog;obtain ⟨W0, hW0⟩ : ∃ W0, w.alloc (.map #[] 0) = W0 := ⟨_, rfl⟩;have HB0 : Hid (Below w.heap.size w W0) := by rw [<- hW0]; exact (Below.refl _ w).alloc (Nat.le_refl _) _
  have HN0 : Hid (NumM W0 w.heap.size []) := by rw [<- hW0]; exact NumM.made w
  have hz0 : W0.heap.size = w.heap.size + 1 := by rw [<- hW0]; simp
  go_enter Tryz.func33, Tryz.ntmps33
  go_wp2_with fail
  (try rw [hW0])
  clear hW0 hmm;go_loopw [4, 7, 9, 13] (fun v4 v7 v9 v13 wr => ∃ i : Nat, i <= n /\ v13 = .int .i64 i /\ Hid (RfO wr W0.heap.size v4 (numsF [] (allR (L.take i)))) /\ Hid (NumM wr w.heap.size (numsF [] (allR (L.take i)))) /\ Hid (Below w.heap.size w wr)) (fun _ _ _ v13 _ => n - (intOf v13).toNat)
  case atStart => exact ⟨0, Nat.zero_le _, rfl, OwnR.nil, HN0, HB0⟩
  case round =>
    clear HN0;obtain ⟨i, hi, rfl, HO, HN, HB⟩ := hrel;obtain ⟨w0, hw0⟩ : ∃ w0, wr = w0 := ⟨_, rfl⟩;rw [hw0] at HO HN HB |-;clear hw0;by_cases hlt : i < n
    · have hiz : (i : Int) < (n : Int) := by omega
      have hiA : (0 : Int) <= (i : Int) := by omega
      obtain ⟨ad, x, rfl, hab, hx, hpr, hcells⟩ := HP.out.at_ hlt;obtain ⟨q0, q1, q2, q3, q4⟩ := hcells w0 HB.out;have HLT := hI hlt;have HNX := hI (allR_next hx);have HPT := hI (allR_part hx);have HPR := hI hpr;have HB1 : Hid (Below w.heap.size w (w0.alloc (.cells #[.int .i64 x.pid, .string x.title, .string x.text, .slice x.ea x.en x.ec, .slice x.ra x.rn x.rc] 65))) := HB.out.alloc HB.out.size _;have HO1 : Hid (RfO (w0.alloc (.cells #[.int .i64 x.pid, .string x.title, .string x.text, .slice x.ea x.en x.ec, .slice x.ra x.rn x.rc] 65)) W0.heap.size u4 (numsF [] (allR (L.take i)))) := World.ownsRow.alloc HO.out _;have HN1 : Hid (NumM (w0.alloc (.cells #[.int .i64 x.pid, .string x.title, .string x.text, .slice x.ea x.en x.ec, .slice x.ra x.rn x.rc] 65)) w.heap.size (numsF [] (allR (L.take i)))) := HN.out.alloc _;obtain ⟨pid, title, text, ea, en, ec, ra, rn, rc, rs⟩ := x;simp only at *;clear hx hpr hcells HO HN;go_upto_region 7 with fail
      obtain ⟨w1, hw1⟩ : ∃ w1, w0.alloc (.cells #[.int .i64 pid, .string title, .string text, .slice ea en ec, .slice ra rn rc] 65) = w1 := ⟨_, rfl⟩;rw [hw1] at HO1 HN1 HB1;(try rw [hw1])
      clear hw1 q0 q1 q2 q3 q4 HB;have HRF : Hid (RefsR w w.heap.size ra rn rs) := HPR.out.refs;have HOK : Hid (∀ r ∈ rs, RfOk r) := HPR.out.ok;have hrn : rn <= 9223372036854775807 := HPR.out.size.2.2;clear HPR;obtain ⟨out0, ho0⟩ : ∃ out0, numsF [] (allR (L.take i)) = out0 := ⟨_, rfl⟩
      have HLE : Hid (∀ j, (numsF out0 (rs.take j)).length <= 1000000) := fun j => by
        have h1 := HPT.out j;have h2 := HZ.out;have h3 := numsF_len (allR (L.take i) ++ rs.take j) [];rw [numsF_app, ho0, List.length_append] at h3;simp only [List.length_nil] at h3;omega
      have HNXT : Hid (numsF [] (allR (L.take (i + 1))) = numsF out0 rs) := by
        have h1 := HNX.out;show numsF [] (allR (L.take (i + 1))) = _;rw [h1, numsF_app, ho0]
      rw [ho0] at HO1 HN1;clear ho0 HPT HNX;go_loopw [4, 9, 20] (fun v4 v9 v20 wi => ∃ j : Nat, j <= rn /\ v20 = .int .i64 j /\ Hid (RfO wi W0.heap.size v4 (numsF out0 (rs.take j))) /\ Hid (NumM wi w.heap.size (numsF out0 (rs.take j))) /\ Hid (Below w.heap.size w wi)) (fun _ _ v20 _ => rn - (intOf v20).toNat)
      case atStart => exact ⟨0, Nat.zero_le _, rfl, HO1, HN1, HB1⟩
      case round =>
        clear HO1 HN1 HB1;obtain ⟨j, hj, rfl, HO, HN, HB⟩ := hrel;obtain ⟨w2, hw2⟩ : ∃ w2, wr = w2 := ⟨_, rfl⟩;rw [hw2] at HO HN HB |-;clear hw2;have HLJ := hI (HLE.out j);by_cases hjt : j < rn
        · have hjz : (j : Int) < (rn : Int) := by omega
          have hjA : (0 : Int) <= (j : Int) := by omega
          have HJT := hI hjt;obtain ⟨bd, r, rfl, hbb, hr, hrc⟩ := HRF.out.at_ hjt;obtain ⟨q0, q1⟩ := hrc w2 HB.out;have HOKr : Hid (RfOk r) := HOK.out r (List.mem_of_getElem? hr);have HNX := hI (numsF_next (out := out0) hr);obtain ⟨ll, hlq⟩ : ∃ ll, numsF out0 (rs.take j) = ll := ⟨_, rfl⟩;rw [hlq] at HO HN HNX HLJ;have hsz : w.heap.size < w2.heap.size := HN.out.lt;have hlen := HLJ.out;obtain ⟨r1, r2⟩ := r;simp only at q0 q1;have HO3 : Hid (RfO (w2.alloc (.cells #[.int .i64 r1, .int .i64 r2] 24)) W0.heap.size u4 ll) := World.ownsRow.alloc HO.out _;have HN3 : Hid (NumM (w2.alloc (.cells #[.int .i64 r1, .int .i64 r2] 24)) w.heap.size ll) := HN.out.alloc _;have HB3 : Hid (Below w.heap.size w (w2.alloc (.cells #[.int .i64 r1, .int .i64 r2] 24))) := HB.out.alloc HB.out.size _
          have HFR : Hid (some w2.heap.size ≠ u4.ownBlock) := fun e => by
            have := (World.ownsRow.lt HO.out w2.heap.size e.symm).2;omega
          have hsa : (w2.alloc (.cells #[.int .i64 r1, .int .i64 r2] 24)).heap.size = w2.heap.size + 1 := by simp
          have hs3 : W0.heap.size <= (w2.alloc (.cells #[.int .i64 r1, .int .i64 r2] 24)).heap.size := by simp; omega
          clear hlq hr hrc HO HN HB;by_cases hm : (r1, r2) ∈ ll
          · have c0 : (numR ll (r1, r2) == 0) = false := beq_eq_false_iff_ne.2 fun e => numR_zero.1 e hm
            have HNY : Hid (numsF out0 (rs.take (j + 1)) = ll) := by
              have h := HNX.out;rw [if_pos hm] at h;exact h
            clear HNX hm;go_wp2_with (at_lookup; refine wpList_lookup_num _ rfl (.tmp 24) (.tmp 25) rfl w.heap.size ll rfl HN3.out (r1, r2) HOKr.out rfl ?_)
            go_roundw
            case rel => exact ⟨j + 1, HJT.out, by go_num, (by rw [HNY.out]; exact HO3), (by rw [HNY.out]; exact HN3), HB3⟩
            case measure => have := HJT.out; simp [intOf]; omega
          · have c0 : (numR ll (r1, r2) == 0) = true := beq_iff_eq.2 (numR_zero.2 hm)
            have HM := hI hm
            have HNY : Hid (numsF out0 (rs.take (j + 1)) = ll ++ [(r1, r2)]) := by
              have h := HNX.out;rw [if_neg hm] at h;exact h
            clear HNX hm
            go_wp2_with (first
              | (at_lookup; refine wpList_lookup_num _ rfl (.tmp 24) (.tmp 25) rfl w.heap.size ll rfl HN3.out (r1, r2) HOKr.out rfl ?_)
              | (at_builtin; refine wpList_appN2 rfl (.tmp 28) (.tmp 30) 28 rfl W0.heap.size 24 2 16 _ info_ref rfl (by omega) Tryz.underlying28 rfl HO3.out (by rw [hsa]; rfl) rfl (by simp [Value.oneCell']) (by omega) (by omega) (by omega) ?_; rintro v7 w4 hown7 hb7 hg7 hat7
                 have HN4 : Hid (NumM w4 w.heap.size ll) := (HN3.out.alloc _).kept hg7 (RfO.apart HO3.out (by omega));have HB4 : Hid (Below w.heap.size w w4) := HB3.out.trans (hb7.mono (by omega));have e0 : w4.cell? ⟨w2.heap.size, 0, none⟩ = some (.int .i64 r1) := hg7.cell (by rw [World.cell?_alloc_lt _ _ _ (by simp), World.cell?_alloc_new]; rfl) HFR.out;have e1 : w4.cell? ⟨w2.heap.size, 1, none⟩ = some (.int .i64 r2) := hg7.cell (by rw [World.cell?_alloc_lt _ _ _ (by simp), World.cell?_alloc_new]; rfl) HFR.out;have HO4 : Hid (RfO w4 W0.heap.size v7 (ll ++ [(r1, r2)])) := RfO.snoc hown7;obtain ⟨A7, c7, hv7, _, _, _⟩ := RfO.form HO4.out;obtain ⟨m7, hm7⟩ : ∃ m7, (ll ++ [(r1, r2)]).length = m7 := ⟨_, rfl⟩;have HM7 : Hid (m7 = ll.length + 1) := (by rw [<- hm7, List.length_append]; rfl);rw [hm7] at hv7;subst hv7;clear hm7 hown7 hb7 hg7 hat7)
              | (at_mapUpdate; refine wpList_update_num _ rfl (.tmp 32) (.tmp 33) (.tmp 35) rfl w.heap.size ll rfl HN4.out (r1, r2) HOKr.out HM.out (by omega) rfl (m7 : Int) (by have := HM7.out; omega) rfl ?_; rintro w5 hN5 hg5
                 have HN5 := hI hN5;have HO5 : Hid (RfO w5 W0.heap.size (.slice A7 m7 c7) (ll ++ [(r1, r2)])) := HO4.out.grown hg5 fun k hk e => (by injection e with e; have := (World.ownsRow.lt HO4.out k hk).1; omega)
                 have HB5 : Hid (Below w.heap.size w w5) := HB4.out.grown hg5 HB4.out.size fun k hk => (by injection hk with hk; omega)
                 clear hN5 hg5 HO4 HN4 HB4 e0 e1))
            go_roundw
            case rel => exact ⟨j + 1, HJT.out, by go_num, (by rw [HNY.out]; exact HO5), (by rw [HNY.out]; exact HN5), HB5⟩
            case measure => have := HJT.out; simp [intOf]; omega
        · obtain rfl : rn = j := by omega
          have hjz : ¬ (rn : Int) < (rn : Int) := by omega
          have ht : rs.take rn = rs := List.take_of_length_le (by rw [HRF.out.len]; exact Nat.le_refl _);rw [ht, <- HNXT.out] at HO HN;clear ht;go_wp2;go_roundw
          case rel => exact ⟨i + 1, HLT.out, by go_num, HO, HN, HB⟩
          case measure => have := HLT.out; simp [intOf]; omega
    · obtain rfl : n = i := by omega
      have hiz : ¬ (n : Int) < (n : Int) := by omega
      have ht : L.take n = L := List.take_of_length_le (by rw [HL.out]; exact Nat.le_refl _);rw [ht] at HO HN;clear ht;go_wp2;go_ret2;exact ⟨_, _, rfl, HO.out.base (by omega), HN.out, HB.out⟩
end
section
open Go.RowKit Ru Lay Srt Col
theorem wrapG_mem {f : Nat × Nat -> List ByteArray} {G : List (Nat × Nat)} {s : ByteArray} : ∀ i, s ∈ wrapG f G i -> s = ⟨#[]⟩ ∨ ∃ g, s ∈ f g
 | 0, h => by cases h
 | i + 1, h => by
  unfold wrapG at h;rcases List.mem_append.1 h with h | h
  ·rcases List.mem_append.1 h with h | h
   ·exact wrapG_mem i h
   ·split at h
    ·rw [List.mem_singleton] at h; exact .inl h
    ·cases h
  ·exact .inr ⟨_, h⟩
theorem wrapL_sz {L : List (List ByteArray)} {W : Int} (hz : SzL L) (hn : nmax L <= 20) : ∀ s ∈ wrapL L W, s.size <= 10000000 := fun s hs => by
 unfold wrapL at hs;rcases wrapG_mem _ hs with rfl | ⟨g, hg⟩
 ·exact Nat.zero_le _
 ·unfold alignL at hg;obtain ⟨r, hr, rfl⟩ := List.mem_map.1 hg;have hr2 := hr;unfold partP at hr2;obtain ⟨q, hq, rfl⟩ := List.mem_map.1 hr2;have hq20 : q.length <= 20 := Nat.le_trans (le_nmax hq) hn
  have hcols : (cols (partP L g)).length <= 20 := by
   rw [cols_len];refine nmax_le fun r2 hr2 => ?_
   unfold partP at hr2;obtain ⟨q2, hq2, rfl⟩ := List.mem_map.1 hr2;have := le_nmax hq2;rw [List.length_drop, List.length_take];omega
  have hsz : SzR ((q.take (min g.2 q.length)).drop (min g.1 q.length)) := ⟨by rw [List.length_drop, List.length_take]; omega, fun s hs => (hz.2 q hq).2 s (List.mem_of_mem_take (List.mem_of_mem_drop hs))⟩;have h1 := lineG_len (cols (partP L g)) _ hsz (cols (partP L g)).length;have h2 : (cols (partP L g)).length * 104001 <= 20 * 104001 := Nat.mul_le_mul_right 104001 hcols;unfold lineL;rw [strL_size];have h3 := trimR_len (lineG (cols (partP L g)) ((q.take (min g.2 q.length)).drop (min g.1 q.length)) (cols (partP L g)).length);omega
theorem exL_sz {T : List Ti} {l : List Nt} {id : Int} {K : Nat} {WD : Int} (hz : TxtZ l) (hn : l.length <= 20) : ∀ s ∈ exL T l id K WD, s.size <= 10000000 := fun s hs => by
 unfold exL at hs;split at hs
 ·rcases List.mem_append.1 hs with h | h
  ·exact wrapL_sz (rowsL_sz hz hn) (rowsL_few T l id K hn).2 s h
  ·obtain ⟨x, _, rfl⟩ := List.mem_map.1 h;have := textN_sz hz x;unfold quoB;have h1 : (⟨#[34]⟩ : ByteArray).size = 1 := rfl;rw [ByteArray.size_append, ByteArray.size_append, h1];omega
 ·cases hs
theorem DcOk.txt {x : Dc} (h : DcOk x) : TxtZ x.l := fun y hy => h.ok.text hy
theorem exC_sz {D : List Dc} (hok : ∀ x ∈ D, DcOk x) (hl : ∀ x ∈ D, x.l.length <= 20) (WD rec id : Int) : ∀ s ∈ exC WD (docF D rec) id, s.size <= 10000000 := fun s hs => by
 unfold exC at hs
 cases e : docF D rec with
 | none => rw [e] at hs; cases hs
 | some x =>
  rw [e] at hs;exact exL_sz (hok x (docF_mem e).1).txt (hl x (docF_mem e).1) s hs
theorem RfOk.rng {r : Rf} (h : RfOk r) : (-9223372036854775808 <= r.1 /\ r.1 <= 9223372036854775807) /\ (-9223372036854775808 <= r.2 /\ r.2 <= 9223372036854775807) := ⟨wf_i64 h.1, wf_i64 h.2⟩
theorem allR_le {L : List Pt} {k : Nat} (h : ∀ p ∈ L, p.refs.length <= k) : (allR L).length <= L.length * k := by
 induction L with
 | nil => simp [allR]
 | cons p L ih =>
  have h1 := ih fun q hq => h q (List.mem_cons_of_mem _ hq)
  have h2 := h p List.mem_cons_self;unfold allR at h1 |-;rw [List.flatMap_cons, List.length_append, List.length_cons, Nat.succ_mul];omega
theorem NumM.below {B : Nat} {w w' : World} {b : Nat} {out : List Rf} (h : NumM w b out) (hb : Below B w w') (hlt : b < B) : NumM w' b out := by
 obtain ⟨D, ⟨es, ck, h1, h2, h3, h4⟩, h5, h6⟩ := h;exact ⟨D, ⟨es, ck, (hb.block b hlt).trans h1, h2, h3, h4⟩, h5, h6⟩
theorem wp_lookup_num {o : Oper} {a : Act} {w : World} {K : Act -> World -> Prop} {Q : Exit -> Act -> World -> Prop} (m x : Operand) (hop : o.op = Op.lookup 68 m x false)
  (b : Nat) (out : List Rf) (hm : a.eval m = .map (some b)) (hN : NumM w b out) (r : Rf) (hr : RfOk r) (hx : a.eval x = .agg #[.int .i64 r.1, .int .i64 r.2])
  (hK : K (a.put o.dst (.int .i64 (numR out r))) w) : o.wp Tryz.prog a w K Q := by
 obtain ⟨D, h1, h2, h3⟩ := hN;obtain ⟨c, hrun, hat, hwc⟩ := h1.lookup_int refKeyed Tryz.underlying68 Tryz.underlying3 (map_zero w) (ref_key hr);rw [h3 r hr] at hat;injection hat with hat
 injection hat with _ hat
 rw [hat] at hK;unfold Oper.wp;simp [execOp, hop, hm, hx, hrun, Result.andThen]
 exact hK
theorem own_kept {w w' : World} {base e size n : Nat} {u v v' : Value} {ys : List Value} (hu : w.ownsRow base e size u n ys) (hg : w.grownBy w' v.ownBlock) (hap : Apart u v)
  (hat : v'.ownBlock = v.ownBlock ∨ v'.ownBlock = some w.heap.size) : w'.ownsRow base e size u n ys /\ Apart u v' := by
 constructor
 ·refine hu.kept hg ?_
  cases hb : u.ownBlock with
  | none => exact .inl rfl
  | some b => exact .inr (fun he => hap b hb he.symm)
 ·intro b hb he;rcases hat with h | h
  ·exact hap b hb (h ▸ he)
  ·rw [h] at he;have := (hu.lt b hb).2;simp at he
   omega
theorem guest_made (w : World) (e : TypeId) (cs : List Value) (c : Array Value) (hc : c.toList = cs) (size : Nat) (hs : cs.length = size) : (w.alloc (.cells c e)).ownsRow 0 e size (.slice (some ⟨w.heap.size, 0, none⟩) 1 1) 1 cs := by
 have h := World.ownsRow_lit (base := 0) (e := e) (size := size) w c 1 (Nat.zero_le _) (by unfold maxLen; omega) (by rw [<- Array.length_toList, hc, hs]; omega);rw [hc] at h;exact h
theorem guest_cell {w : World} {base e size b : Nat} {cs : List Value} (h : w.ownsRow base e size (.slice (some ⟨b, 0, none⟩) 1 1) 1 cs) {j : Nat} {v : Value} (hj : cs[j]? = some v) (hjs : j < 1 * size) : w.cell? ⟨b, j, none⟩ = some v := by
 rw [World.ownsRow.cellAt h j hjs, hj]
def smpT : List Ti := [⟨⟨#[116, 101, 120, 116]⟩, 0, 1, -1⟩, ⟨⟨#[119, 111, 114, 100]⟩, 2, 2, 0⟩, ⟨⟨#[109, 111, 114, 112, 104]⟩, 3, 3, 1⟩, ⟨⟨#[103, 108, 111, 115, 115]⟩, 4, 4, 2⟩, ⟨⟨#[102, 114, 101, 101]⟩, 4, 5, 0⟩]
def n5_1 : Nt := ⟨1, 0, 0, 0, 900, 0, ⟨#[98, 97, 109, 105, 32, 116, 97]⟩⟩
def n5_2 : Nt := ⟨2, 1, 1, 0, 300, 0, ⟨#[98, 97, 109, 105]⟩⟩
def n5_3 : Nt := ⟨3, 1, 1, 300, 600, 0, ⟨#[116, 97]⟩⟩
def n5_4 : Nt := ⟨4, 2, 2, 0, 0, 0, ⟨#[98, 97]⟩⟩
def n5_5 : Nt := ⟨5, 2, 2, 0, 0, 1, ⟨#[109, 105]⟩⟩
def n5_6 : Nt := ⟨6, 3, 4, 0, 0, 0, ⟨#[100, 111, 103]⟩⟩
def n5_7 : Nt := ⟨7, 3, 5, 0, 0, 0, ⟨#[80, 76]⟩⟩
def n5_8 : Nt := ⟨8, 4, 1, 0, 0, 0, ⟨#[100, 111, 103, 115]⟩⟩
def smpN : List Nt := [n5_1, n5_2, n5_3, n5_4, n5_5, n5_6, n5_7, n5_8]
theorem noOver_one {s : List Nt} (h : s.length <= 1) : NoOver s := fun i k x y hk hi hy => by
 have h1 := (List.getElem?_eq_some_iff.1 hi).1;omega
theorem noOver_two {a b : Nt} (h : ¬ (b.at1 < a.at2 /\ a.at1 < b.at2)) : NoOver [a, b] := fun i k x y hk hi hy => by
 have h1 := (List.getElem?_eq_some_iff.1 hi).1;simp only [List.length_cons, List.length_nil] at h1;obtain rfl : i = 1 := by omega
 obtain rfl : k = 0 := by omega
 cases hi
 cases hy;exact h
theorem ranked_two (a b : Nt) (h0 : a.rank = ((0 : Nat) : Int)) (h1 : b.rank = ((1 : Nat) : Int)) : Ranked [a, b] := fun k hk => by
 simp only [List.length_cons, List.length_nil] at hk;match k, hk with
 | 0, _ => exact ⟨0, a, rfl, h0⟩
 | 1, _ => exact ⟨1, b, rfl, h1⟩
set_option maxRecDepth 100000 in
theorem smp_tiers : ∀ i t, smpT[i]? = some t -> TOk t i := fun i t h => by
 match i, h with
 | 0, h => cases h; unfold TOk TOk0; decide
 | 1, h => cases h; unfold TOk TOk0; decide
 | 2, h => cases h; unfold TOk TOk0; decide
 | 3, h => cases h; unfold TOk TOk0; decide
 | 4, h => cases h; unfold TOk TOk0; decide
set_option maxRecDepth 100000 in
theorem smp_notes : ∀ i, i < smpN.length -> NOk smpT smpN i := fun i hi x hx => by
 have h8 : i < 8 := hi;match i, h8, hx with
 | 0, _, hx => cases hx; exact ⟨by decide, fun y h0 hy => (by first | exact absurd h0 (by decide) | (cases hy; decide)), by decide, ⟨by first | exact .inl ⟨by decide, by decide⟩ | exact .inr ⟨by decide, _, rfl, by decide⟩, by decide, by decide, by decide⟩, by decide⟩
 | 1, _, hx => cases hx; exact ⟨by decide, fun y h0 hy => (by first | exact absurd h0 (by decide) | (cases hy; decide)), by decide, ⟨by first | exact .inl ⟨by decide, by decide⟩ | exact .inr ⟨by decide, _, rfl, by decide⟩, by decide, by decide, by decide⟩, by decide⟩
 | 2, _, hx => cases hx; exact ⟨by decide, fun y h0 hy => (by first | exact absurd h0 (by decide) | (cases hy; decide)), by decide, ⟨by first | exact .inl ⟨by decide, by decide⟩ | exact .inr ⟨by decide, _, rfl, by decide⟩, by decide, by decide, by decide⟩, by decide⟩
 | 3, _, hx => cases hx; exact ⟨by decide, fun y h0 hy => (by first | exact absurd h0 (by decide) | (cases hy; decide)), by decide, ⟨by first | exact .inl ⟨by decide, by decide⟩ | exact .inr ⟨by decide, _, rfl, by decide⟩, by decide, by decide, by decide⟩, by decide⟩
 | 4, _, hx => cases hx; exact ⟨by decide, fun y h0 hy => (by first | exact absurd h0 (by decide) | (cases hy; decide)), by decide, ⟨by first | exact .inl ⟨by decide, by decide⟩ | exact .inr ⟨by decide, _, rfl, by decide⟩, by decide, by decide, by decide⟩, by decide⟩
 | 5, _, hx => cases hx; exact ⟨by decide, fun y h0 hy => (by first | exact absurd h0 (by decide) | (cases hy; decide)), by decide, ⟨by first | exact .inl ⟨by decide, by decide⟩ | exact .inr ⟨by decide, _, rfl, by decide⟩, by decide, by decide, by decide⟩, by decide⟩
 | 6, _, hx => cases hx; exact ⟨by decide, fun y h0 hy => (by first | exact absurd h0 (by decide) | (cases hy; decide)), by decide, ⟨by first | exact .inl ⟨by decide, by decide⟩ | exact .inr ⟨by decide, _, rfl, by decide⟩, by decide, by decide, by decide⟩, by decide⟩
 | 7, _, hx => cases hx; exact ⟨by decide, fun y h0 hy => (by first | exact absurd h0 (by decide) | (cases hy; decide)), by decide, ⟨by first | exact .inl ⟨by decide, by decide⟩ | exact .inr ⟨by decide, _, rfl, by decide⟩, by decide, by decide, by decide⟩, by decide⟩
set_option maxRecDepth 100000 in
theorem smp_sibs : ∀ t : Nat, t < smpT.length -> TierOk smpT smpN (t : Int) := fun t _ x hx ht => by
 simp only [smpN, List.mem_cons, List.not_mem_nil, or_false] at hx;rcases hx with rfl | rfl | rfl | rfl | rfl | rfl | rfl | rfl
 ·have ht2 : (0 : Int) = (t : Int) := ht;obtain rfl : t = 0 := by omega
  have e : sibF smpN ((0 : Nat) : Int) (0) = [n5_1] := rfl;show SibOk _ (sibF smpN ((0 : Nat) : Int) (0));rw [e];exact ⟨fun _ => noOver_one (by decide), fun h => absurd h (by decide), fun h => absurd h (by decide)⟩
 ·have ht2 : (1 : Int) = (t : Int) := ht;obtain rfl : t = 1 := by omega
  have e : sibF smpN ((1 : Nat) : Int) (1) = [n5_2, n5_3] := rfl;show SibOk _ (sibF smpN ((1 : Nat) : Int) (1));rw [e];exact ⟨fun _ => noOver_two (by decide), fun h => absurd h (by decide), fun h => absurd h (by decide)⟩
 ·have ht2 : (1 : Int) = (t : Int) := ht;obtain rfl : t = 1 := by omega
  have e : sibF smpN ((1 : Nat) : Int) (1) = [n5_2, n5_3] := rfl;show SibOk _ (sibF smpN ((1 : Nat) : Int) (1));rw [e];exact ⟨fun _ => noOver_two (by decide), fun h => absurd h (by decide), fun h => absurd h (by decide)⟩
 ·have ht2 : (2 : Int) = (t : Int) := ht;obtain rfl : t = 2 := by omega
  have e : sibF smpN ((2 : Nat) : Int) (2) = [n5_4, n5_5] := rfl;show SibOk _ (sibF smpN ((2 : Nat) : Int) (2));rw [e];exact ⟨fun h => absurd h (by decide), fun _ => ranked_two _ _ rfl rfl, fun h => absurd h (by decide)⟩
 ·have ht2 : (2 : Int) = (t : Int) := ht;obtain rfl : t = 2 := by omega
  have e : sibF smpN ((2 : Nat) : Int) (2) = [n5_4, n5_5] := rfl;show SibOk _ (sibF smpN ((2 : Nat) : Int) (2));rw [e];exact ⟨fun h => absurd h (by decide), fun _ => ranked_two _ _ rfl rfl, fun h => absurd h (by decide)⟩
 ·have ht2 : (3 : Int) = (t : Int) := ht;obtain rfl : t = 3 := by omega
  have e : sibF smpN ((3 : Nat) : Int) (4) = [n5_6] := rfl;show SibOk _ (sibF smpN ((3 : Nat) : Int) (4));rw [e];exact ⟨fun h => absurd h (by decide), fun h => absurd h (by decide), fun _ => by decide⟩
 ·have ht2 : (3 : Int) = (t : Int) := ht;obtain rfl : t = 3 := by omega
  have e : sibF smpN ((3 : Nat) : Int) (5) = [n5_7] := rfl;show SibOk _ (sibF smpN ((3 : Nat) : Int) (5));rw [e];exact ⟨fun h => absurd h (by decide), fun h => absurd h (by decide), fun _ => by decide⟩
 ·have ht2 : (4 : Int) = (t : Int) := ht;obtain rfl : t = 4 := by omega
  have e : sibF smpN ((4 : Nat) : Int) (1) = [n5_8] := rfl;show SibOk _ (sibF smpN ((4 : Nat) : Int) (1));rw [e];exact ⟨fun h => absurd h (by decide), fun h => absurd h (by decide), fun _ => by decide⟩
theorem smp_ok : DocOk smpT smpN := ⟨smp_tiers, smp_notes, smp_sibs⟩
set_option maxRecDepth 100000 in
theorem smp_rows : rowsL smpT smpN 1 5 = [[⟨#[98, 97, 109, 105]⟩, ⟨#[116, 97]⟩], [⟨#[98, 97, 45, 109, 105]⟩, ⟨#[]⟩], [⟨#[100, 111, 103, 45, 80, 76]⟩, ⟨#[]⟩]] := by decide +kernel
set_option maxRecDepth 100000 in
theorem smp_example : exL smpT smpN 1 5 40 = [⟨#[98, 97, 109, 105, 32, 32, 32, 116, 97]⟩, ⟨#[98, 97, 45, 109, 105]⟩, ⟨#[100, 111, 103, 45, 80, 76]⟩, ⟨#[34, 100, 111, 103, 115, 34]⟩] := by decide +kernel
theorem itoa_small {n : Nat} (h : n < 10) : itoaB (n : Int) = ⟨#[UInt8.ofNat (48 + n)]⟩ := by
 unfold itoaB;rw [Lib.itoa_nonneg, Lib.decDigits, dif_pos h]
def smpD (ta na : Option Addr) (tc nc : Nat) : Dc := ⟨⟨1, ⟨#[]⟩, 900, 0, none, 0, 0, ta, 5, tc, na, 8, nc⟩, smpT, smpN⟩
def smpP (ra : Option Addr) (rc : Nat) : Pt := ⟨1, ⟨#[80, 108, 117, 114, 97, 108]⟩, ⟨#[109, 105]⟩, none, 0, 0, ra, 2, rc, [(1, 2), (2, 1)]⟩
theorem smp_dcok (ta na : Option Addr) (tc nc : Nat) : DcOk (smpD ta na tc nc) := ⟨smp_ok, by show 8 <= 14; omega, by show 5 <= 6; omega⟩
theorem smp_nums (ra : Option Addr) (rc : Nat) : numsF [] (allR [smpP ra rc]) = [(1, 2), (2, 1)] := by
 show numsF [] ([(1, 2), (2, 1)] : List Rf) = _;decide
set_option maxRecDepth 100000 in
theorem smp_ex2 : (exL smpT smpN 2 5 40).map indB = [⟨#[32, 32, 32, 32, 98, 97, 109, 105]⟩, ⟨#[32, 32, 32, 32, 98, 97, 45, 109, 105]⟩, ⟨#[32, 32, 32, 32, 100, 111, 103, 45, 80, 76]⟩] := by decide +kernel
set_option maxRecDepth 100000 in
theorem smp_lines (ta na ra : Option Addr) (tc nc rc : Nat) : linesG [smpD ta na tc nc] [smpP ra rc] 40 = [⟨#[49, 46, 32, 80, 108, 117, 114, 97, 108]⟩, ⟨#[109, 105]⟩, ⟨#[32, 32, 40, 49, 41, 32, 91, 49, 46, 50, 93]⟩, ⟨#[32, 32, 32, 32, 98, 97, 109, 105]⟩, ⟨#[32, 32, 32, 32, 98, 97, 45, 109, 105]⟩, ⟨#[32, 32, 32, 32, 100, 111, 103, 45, 80, 76]⟩, ⟨#[32, 32, 40, 50, 41, 32, 91, 50, 46, 49, 93]⟩] := by
 unfold linesG;rw [smp_nums];show [] ++ (headB 0 (smpP ra rc) :: (txtL (smpP ra rc) ++ ([(1, 2), (2, 1)] : List Rf).flatMap (refL [(1, 2), (2, 1)] [smpD ta na tc nc] 40))) = _;rw [List.nil_append, List.flatMap_cons, List.flatMap_cons, List.flatMap_nil, List.append_nil]
 have h1 : headB 0 (smpP ra rc) = ⟨#[49, 46, 32, 80, 108, 117, 114, 97, 108]⟩ := by
  show itoaB ((1 : Nat) : Int) ++ _ ++ _ = _;rw [itoa_small (by omega)];rfl
 have h2 : txtL (smpP ra rc) = [⟨#[109, 105]⟩] := rfl
 have h3 : refL [(1, 2), (2, 1)] [smpD ta na tc nc] 40 (1, 2) = ⟨#[32, 32, 40, 49, 41, 32, 91, 49, 46, 50, 93]⟩ :: (exL smpT smpN 2 5 40).map indB := by
  show (_ ++ itoaB ((1 : Nat) : Int) ++ _ ++ itoaB ((1 : Nat) : Int) ++ _ ++ itoaB ((2 : Nat) : Int) ++ _) :: _ = _;rw [itoa_small (by omega), itoa_small (by omega)];rfl
 have h4 : refL [(1, 2), (2, 1)] [smpD ta na tc nc] 40 (2, 1) = [⟨#[32, 32, 40, 50, 41, 32, 91, 50, 46, 49, 93]⟩] := by
  show (_ ++ itoaB ((2 : Nat) : Int) ++ _ ++ itoaB ((2 : Nat) : Int) ++ _ ++ itoaB ((1 : Nat) : Int) ++ _) :: _ = _;rw [itoa_small (by omega), itoa_small (by omega)];rfl
 rw [h1, h2, h3, h4, smp_ex2];rfl
end
section
open Go Go.RowKit
variable {P : Program} {ops : Array Oper} {Q : Exit → Act → World → Prop}
def tailB (l : List Oper) (m : Nat) : Bool :=
 ((l.take m).all fun o => o.dst.isSome && o.guard.isNone) && ((List.range l.length).all fun i => decide (i < m) || (List.range i).all fun j => reachB l.toArray l.length i j)
theorem tail_front {l : List Oper} {m i : Nat} {o : Oper} (h : tailB l m = true) (hi : i < m) (ho : l[i]? = some o) : (∃ t, o.dst = some t) /\ o.guard = none := by
 unfold tailB at h;rw [Bool.and_eq_true] at h;have h1 := List.all_eq_true.1 h.1 o (List.mem_of_getElem? (i := i) (by rw [List.getElem?_take, if_pos hi]; exact ho));rw [Bool.and_eq_true] at h1;exact ⟨Option.isSome_iff_exists.1 h1.1, Option.isNone_iff_eq_none.1 h1.2⟩
theorem tail_back {l : List Oper} {m i j : Nat} (h : tailB l m = true) (hi : i < l.length) (hm : m <= i) (hj : j < i) : reachB l.toArray l.length i j = true := by
 unfold tailB at h;rw [Bool.and_eq_true] at h;have h1 := List.all_eq_true.1 h.2 i (List.mem_range.2 hi);rw [Bool.or_eq_true] at h1;rcases h1 with h1 | h1
 ·exact absurd (of_decide_eq_true h1) (by omega)
 ·exact List.all_eq_true.1 h1 j (List.mem_range.2 hj)
theorem ready_reach {l : Array Bool} (hc : Closed ops l) {i j f : Nat} {o : Oper} (ho : ops[i]? = some o) (hr : ∀ e ∈ o.after, Region.binds .any e = true -> l.getD e.on false = true) (h : reachB ops f i j = true) : l.getD j false = true := by
 cases f with
 | zero => cases h
 | succ f =>
  unfold reachB at h;rw [ho] at h;obtain ⟨e, he, hb⟩ := Array.any_eq_true'.1 h;rw [Bool.and_eq_true, Bool.or_eq_true, beq_iff_eq] at hb;have h1 := hr e he hb.1;rcases hb.2 with h2 | h2
  ·rw [<- h2]; exact h1
  ·exact hc.reach h2 h1
theorem putAll_front {l : List Oper} {m : Nat} {a0 a : Act} (hs : a.tmps.size = a0.tmps.size) (hd : a.defers = a0.defers) (hold : ∀ t, (∀ (i : Nat) (o : Oper), i < m -> l[i]? = some o -> o.dst ≠ some t) -> a.tmps.getD t undef = a0.tmps.getD t undef) :
  putAll (l.take m) 0 (valsOf l.toArray a) a0 = a := by
 obtain ⟨h1, h2⟩ := putAll_size (valsOf l.toArray a) (l.take m) 0 a0;refine act_ext (h1.trans hs.symm) (h2.trans hd.symm) fun t ht => ?_
 refine putAll_at _ a t ht (l.take m) 0 a0 hs.symm (fun i o ho hdst => ?_) ?_
 ·rw [List.getElem?_take] at ho;split at ho
  ·rw [Nat.zero_add];unfold valsOf;rw [show l.toArray[i]? = some o by simpa using ho];show slotV o a = _;unfold slotV;rw [hdst]
  ·cases ho
 ·by_cases e : ∃ (i : Nat) (o : Oper), (l.take m)[i]? = some o /\ o.dst = some t
  ·exact .inl e
  ·exact .inr (hold t fun i o hi ho hdst => e ⟨i, o, by rw [List.getElem?_take, if_pos hi]; exact ho, hdst⟩).symm
def TInv (P : Program) (Q : Exit -> Act -> World -> Prop) (lo : List Oper) (m : Nat) (a0 : Act) (C : World -> Prop) (V : Nat -> Value -> World -> Prop) (l : Array Bool) (a : Act) (w : World) : Prop :=
 (RInv lo.toArray a0 C (fun _ => V) l a w /\ ∀ i, m <= i -> l.getD i false = false) ∨
 (∃ k, m <= k /\ k <= lo.length /\ l.size = lo.length /\ (∀ i, i < k -> l.getD i false = true) /\ (∀ i, k <= i -> l.getD i false = false) /\ Closed lo.toArray l /\ wpList P lo.toArray Q (lo.drop k) a w)
theorem wpOp_head {lo : List Oper} {k : Nat} {o : Oper} {a : Act} {w : World} (ho : lo[k]? = some o) (h : wpList P lo.toArray Q (lo.drop k) a w) : wpOp P lo.toArray Q k (wpList P lo.toArray Q (lo.drop (k + 1))) a w := by
 have hk := (List.getElem?_eq_some_iff.1 ho).1;have he : lo[k] = o := (List.getElem?_eq_some_iff.1 ho).2;rw [List.drop_eq_getElem_cons hk, he] at h;unfold wpOp;rw [show lo.toArray[k]? = some o by simpa using ho];exact h
theorem closed_set {l : Array Bool} {i : Nat} {o : Oper} (h : Closed ops l) (hl : l.size = ops.size) (ho : ops[i]? = some o) (hr : ∀ e ∈ o.after, Region.binds .any e = true -> l.getD e.on false = true) : Closed ops (l.setIfInBounds i true) := by
 have hi : i < l.size := by rw [hl]; exact (Array.getElem?_eq_some_iff.1 ho).1
 intro j oj hj hjl e he hb;by_cases e1 : i = e.on
 ·rw [<- e1]; exact getD_set_self hi
 ·rw [getD_set_ne e1];by_cases e2 : i = j
  ·subst e2;rw [ho] at hj
   cases hj;exact hr e he hb
  ·rw [getD_set_ne e2] at hjl;exact h j oj hj hjl e he hb
theorem wp_region_toldT {id : Nat} (m : Nat) {a0 : Act} {w0 : World} {l : List Oper} (Vs : List Told) (hm : P.follows .mixedOrders = true) (hb : ((backB l.toArray && (distB l.toArray && dstB l.toArray a0.tmps.size)) && tailB l m) = true)
    (hstep : StepsAt P Q (l.take m) a0 w0 Vs 0 (l.take m))
    (hQ : ∀ (w : World) (vals : Nat -> Value), Below w0.heap.size w0 w -> (∀ j, j < m -> j < l.length -> toldAt Vs j (vals j) w) -> wpList P l.toArray Q (l.drop m) (putAll (l.take m) 0 vals a0) w) : (Code.region id l.toArray true).wp P Q a0 w0 := by
  rw [Bool.and_eq_true, Bool.and_eq_true, Bool.and_eq_true] at hb;obtain ⟨⟨hb1, hb2, hb3⟩, hb4⟩ := hb
  have hrep : ∀ i, (Array.replicate l.toArray.size false).getD i false = false := fun i => by
    simp only [Array.getD];split <;> simp
  have hgo : ∀ (s : Array Bool) (a : Act) (w : World), RInv l.toArray a0 (fun w => Below w0.heap.size w0 w) (fun _ => toldAt Vs) s a w -> (∀ i, m <= i -> s.getD i false = false) -> (∀ i, i < m -> i < l.length -> s.getD i false = true) -> wpList P l.toArray Q (l.drop m) a w := by
    intro s a w h hno hall
    have hp := putAll_front (l := l) (m := m) h.size h.defers fun t ht => h.old t fun i o ho hl => ht i o (by
      rcases Nat.lt_or_ge i m with h1 | h1
      · exact h1
      · rw [hno i h1] at hl; cases hl) (by simpa using ho)
    have := hQ w (valsOf l.toArray a) h.cls fun j hj h1 => by
      have ho : l[j]? = some l[j] := List.getElem?_eq_getElem h1;obtain ⟨⟨t, hd⟩, _⟩ := tail_front hb4 hj ho;have := h.new j l[j] t (by simp) (hall j hj h1) hd;unfold valsOf;rw [show l.toArray[j]? = some l[j] by simp];show toldAt Vs j (slotV l[j] a) w;unfold slotV;rw [hd];exact this
    rw [hp] at this;exact this
  refine wp_region_inv hm (TInv P Q l m a0 (fun w => Below w0.heap.size w0 w) (toldAt Vs)) (.inl ⟨⟨by simp, ?_, bR.drew, rfl, rfl, fun _ _ => rfl, ?_⟩, fun i _ => hrep i⟩) ?_ ?_
  · intro j o _ hl
    rw [hrep] at hl
    cases hl
  · intro i o t _ hl
    rw [hrep] at hl
    cases hl
  · intro s a w h hr
    rcases h with ⟨h, hno⟩ | ⟨k, hk1, hk2, hs, hd, hnd, hc, hw⟩
    · have hall := all_listed hb1 h.len hr
      have hml : l.length <= m := by
        rcases Nat.lt_or_ge m l.length with h1 | h1
        · have := hall m (by simpa using h1)
          rw [hno m (Nat.le_refl _)] at this
          cases this
        · exact h1
      have := hgo s a w h hno fun i _ hi => hall i (by simpa using hi)
      rw [List.drop_of_length_le hml] at this;exact this
    · have hall := all_listed hb1 (by simpa using hs) hr
      have hkl : k = l.length := by
        rcases Nat.lt_or_ge k l.length with h1 | h1
        · have := hall k (by simpa using h1)
          rw [hnd k (Nat.le_refl _)] at this
          cases this
        · omega
      subst hkl;rw [List.drop_of_length_le (Nat.le_refl _)] at hw;exact hw
  · intro s a w i h hi
    obtain ⟨hun, o, ho, hr⟩ := mem_ready.1 hi;have hol : l[i]? = some o := by simpa using ho
    have hil : i < l.length := (List.getElem?_eq_some_iff.1 hol).1;have hunf := getD_true_false hun;rcases h with ⟨h, hno⟩ | ⟨k, hk1, hk2, hs, hd, hnd, hc, hw⟩
    · rcases Nat.lt_or_ge i m with him | him
      · obtain ⟨⟨t, hdt⟩, hg⟩ := tail_front hb4 him hol
        have hp := putAll_front (l := l) (m := m) h.size h.defers fun t ht => h.old t fun j oj hj hl => ht j oj (by
          rcases Nat.lt_or_ge j m with h1 | h1
          · exact h1
          · rw [hno j h1] at hl; cases hl) (by simpa using hj)
        have hst := stepsAt_get hstep (show (l.take m)[i]? = some o by rw [List.getElem?_take, if_pos him]; exact hol) w (valsOf l.toArray a) h.cls (fun j hj => by
          obtain ⟨e, he, h2⟩ := List.any_eq_true.1 hj;rw [Bool.and_eq_true, beq_iff_eq] at h2;have hea : e ∈ o.after := by simpa using he
          have h3 := hr e hea h2.1
          have hjl : e.on < s.size := by
            rcases Nat.lt_or_ge e.on s.size with h4 | h4
            · exact h4
            · simp [Array.getD, Nat.not_lt.2 h4] at h3
          have hjl2 : e.on < l.length := by have := h.len; simpa [this] using hjl
          have hjm : e.on < m := by
            rcases Nat.lt_or_ge e.on m with h4 | h4
            · exact h4
            · rw [hno _ h4] at h3; cases h3
          have hoj : l[e.on]? = some l[e.on] := List.getElem?_eq_getElem hjl2;obtain ⟨⟨tj, hdj⟩, _⟩ := tail_front hb4 hjm hoj;have := h.new e.on l[e.on] tj (by simp) h3 hdj;rw [<- h2.2];unfold valsOf;rw [show l.toArray[e.on]? = some l[e.on] by simp];show toldAt Vs e.on (slotV l[e.on] a) w;unfold slotV;rw [hdj];exact this)
          (fun a' w' => TInv P Q l m a0 (fun w => Below w0.heap.size w0 w) (toldAt Vs) (s.setIfInBounds i true) a' w') (fun v w' h1 h2 => ?_)
        · rw [hp] at hst
          unfold gwp at hst;rw [hg] at hst;unfold wpOp;rw [ho]
          have hw1 : Region.wanted o (yielded l.toArray a.tmps) = true := by
            unfold Region.wanted;rw [hg]
          simp only [hw1, if_true];exact .inl hst
        · rw [hp]
          rw [Nat.zero_add, hdt] at h1;refine .inl ⟨rinv_step (dist_of hb2) h ho hdt (dst_of hb3 i o t ho hdt) hun hr (h.cls.trans (h2.mono h.cls.size)) h1 fun j u _ hu => toldAt_kept Vs j u w w' hu h2, fun j hj => ?_⟩;rw [getD_set_ne (by omega)];exact hno j hj
      · have hre : ∀ j, j < i -> s.getD j false = true := fun j hj => ready_reach h.closed ho hr (tail_back hb4 hil him hj)
        have him2 : i = m := by
          rcases Nat.lt_or_ge m i with h1 | h1
          · have := hre m h1
            rw [hno m (Nat.le_refl _)] at this
            cases this
          · omega
        subst him2;refine wpOp_mono (fun a' w' h' => ?_) (wpOp_head hol (hgo s a w h hno fun j hj _ => hre j hj));have hsz : s.size = l.length := by simpa using h.len
        refine .inr ⟨i + 1, by omega, by omega, by simpa using hsz, fun j hj => ?_, fun j hj => ?_, closed_set h.closed h.len ho hr, h'⟩
        · by_cases e : i = j
          · subst e; exact getD_set_self (by omega)
          · rw [getD_set_ne e]; exact hre j (by omega)
        · rw [getD_set_ne (by omega)]
          exact hno j (by omega)
    · have hik : i = k := by
        rcases Nat.lt_trichotomy i k with h1 | h1 | h1
        · rw [hd i h1] at hunf; cases hunf
        · exact h1
        · have := ready_reach hc ho hr (tail_back hb4 hil (by omega) h1)
          rw [hnd k (Nat.le_refl _)] at this
          cases this
      subst hik;refine wpOp_mono (fun a' w' h' => ?_) (wpOp_head hol hw);refine .inr ⟨i + 1, by omega, by omega, by simpa using hs, fun j hj => ?_, fun j hj => ?_, closed_set hc (by simpa using hs) ho hr, h'⟩
      · by_cases e : i = j
        · subst e; exact getD_set_self (by omega)
        · rw [getD_set_ne e]; exact hd j (by omega)
      · rw [getD_set_ne (by omega)]
        exact hnd j (by omega)
end
end Go.Proofs.YthcabnfcgjnlnaaGreatDoor
