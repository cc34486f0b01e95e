import Derived.Test.YthcabnfcgjnlnaaGreatDoorLi06
import Derived.Deep.Cut
import Derived.Deep.CutRange
set_option linter.unusedVariables false
set_option linter.unusedSimpArgs false
namespace Go.Proofs.YthcabnfcgjnlnaaGreatDoor
section
open Go.RowKit Ru Lay
attribute [local go_sem ↓] Go.wp_at_zero Go.wp_at_succ
section
variable {P : Program} {Q : Exit → Act → World → Prop}
theorem run_load_mid {op : Oper} {ev : Operand -> Value} {w : World} (ty : TypeId) (x : Operand) (ho : op.op = .load ty x)
  (b o : Nat) (hx : ev x = .pointer (some ⟨b, o, none⟩)) (cs : List Value) (d : TypeDesc) (hc : w.rangeAt b o cs)
  (hu : P.underlying ty = some d) (hd : d.isRow = true) (hi : (P.info? ty).map (·.size) = some cs.length) : (execOp ev op).run P w = .ok (.value (.agg cs.toArray)) w := by
 unfold execOp;simp only [ho, hx, Instr.loadAt, Instr.sureAddr, Sem.run_bind, Sem.run_pure, Result.andThen_ok, run_loadVar_mid w b o ty cs d hc hu hd hi]
end
theorem nt_made (w : World) (base : Nat) (hb : base <= w.heap.size) : OwnR encN 7 58 (w.alloc (.cells #[] 58)) base (.slice (some ⟨w.heap.size, 0, none⟩) 0 0) [] :=
 World.ownsRow_made (base := base) (e := 58) (size := 7) w #[] 0 hb (by unfold maxLen; omega) (by simp)
theorem int_made (w : World) (base : Nat) (hb : base <= w.heap.size) : OwnI (w.alloc (.cells #[] 3)) base (.slice (some ⟨w.heap.size, 0, none⟩) 0 0) [] :=
 World.ownsRow_made (base := base) (e := 3) (size := 1) w #[] 0 hb (by unfold maxLen; omega) (by simp)
theorem one_notes (l : List Nt) : ∀ u ∈ l.flatMap encN, u.oneCell' = true := fun u hu => by
 rw [List.mem_flatMap] at hu;obtain ⟨x, _, hx⟩ := hu;simp only [encN, List.mem_cons, List.not_mem_nil, or_false] at hx;rcases hx with rfl | rfl | rfl | rfl | rfl | rfl | rfl <;> rfl
theorem posB_step {B : Nt -> Nt -> Bool} {x : Nt} {acc : List Nt} {k : Nat} {y : Nt} (h : acc[k]? = some y) : posB B x acc (k + 1) = if B x y = true then posB B x acc k else k + 1 := by
 show (if B x (acc.getD k nt0) = true then _ else _) = _;rw [List.getD, h];rfl
theorem one_note (x : Nt) : ∀ u ∈ ([.int .i64 x.nid, .int .i64 x.tier, .int .i64 x.parent, .int .i64 x.at1, .int .i64 x.at2, .int .i64 x.rank, .string x.text] : List Value), u.oneCell' = true := fun u hu => by
 simp only [List.mem_cons, List.not_mem_nil, or_false] at hu;rcases hu with rfl | rfl | rfl | rfl | rfl | rfl | rfl <;> rfl
set_option maxHeartbeats 4000000 in
set_option maxRecDepth 100000 in
theorem of39_any (d : Dv) (T : List Ti) (l : List Nt) (tier : Int) (w : World) (hL : LightN T l) (hT : TiersR w w.heap.size d.ta d.tn T) (hl : NotesR w w.heap.size d.na d.nn l) (hn : d.nn <= 1000) :
  Calls Tryz.prog 29 #[docV d, .int .i64 tier] w fun e w' => ∃ v, e = .returned v /\ OwnI w' w.heap.size v (ofL T l tier) /\ Below w.heap.size w w' := by
 have HLN := hI hl.len;have HB := hI fun (x y : Nt) (hx : x ∈ l) (hy : y ∈ l) (ht : x.tier = y.tier) (W : World) (hW : Below w.heap.size w W) => before_any d T l hL (by omega) (x.tier.toNat + 1) x y W (hT.on hW) (hl.on hW) hx hy ht (by have := (hL.tier x hx).1; omega)
 have HL := hI hl;unfold ofL;unfold docV noteV at HB;unfold docV;obtain ⟨rid, name, len, day, sa, sn, sc, ta, tn, tc, na, nn, nc⟩ := d;simp only at *;clear hT hl hL;go_enter Tryz.func29, Tryz.ntmps29
 go_upto_region 2 with fail
 obtain ⟨W0, hW0⟩ : ∃ W0, ((w.alloc (.cells #[.int .i64 rid, .string name, .int .i64 len, .int .i64 day, .slice sa sn sc, .slice ta tn tc, .slice na nn nc] 38)).alloc (.cells #[] 58)) = W0 := ⟨_, rfl⟩;have HB0 : Hid (Below w.heap.size w W0) := by rw [<- hW0]; exact ((bR.alloc (by simp <;> omega) _).alloc (by simp <;> omega) _)
 have hz0 : W0.heap.size = w.heap.size + 2 := by rw [<- hW0]; simp
 have HO0 : Hid (OwnR encN 7 58 W0 (w.heap.size + 1) (.slice (some ⟨w.heap.size + 1, 0, none⟩) 0 0) []) := by
  rw [<- hW0];have := nt_made (w.alloc (.cells #[.int .i64 rid, .string name, .int .i64 len, .int .i64 day, .slice sa sn sc, .slice ta tn tc, .slice na nn nc] 38)) (w.heap.size + 1) (by simp);rw [World.size_alloc] at this;exact this
 have HC0 : Hid (∀ X, Below (w.heap.size + 1) W0 X -> X.rangeAt (w.heap.size) 0 [.int .i64 rid, .string name, .int .i64 len, .int .i64 day, .slice sa sn sc, .slice ta tn tc, .slice na nn nc]) := fun X hX => by
  refine range_below hX (by omega) fun j v hv => ?_
  rw [<- hW0, Nat.zero_add]; rw [World.cell?_alloc_lt _ _ _ (by simp <;> omega)]; rw [World.cell?_alloc_at _ _ _ _ (by simp), <- hv, <- List.getElem?_toArray]; try rfl
 (try rw [hW0])
 clear hW0;go_wp2_with fail
 go_loopw [5, 6, 7, 8] (fun v5 v6 _ _ wr => ∃ i : Nat, i <= nn /\ v6 = .int .i64 i /\ Hid (OwnR encN 7 58 wr (w.heap.size + 1) v5 (ofK T l tier i)) /\ Hid (Below (w.heap.size + 1) W0 wr)) (fun _ v6 _ _ _ => nn - (intOf v6).toNat)
 case atStart => exact ⟨0, Nat.zero_le _, rfl, HO0.out, Below.refl _ _⟩
 case round =>
  clear HO0;obtain ⟨i, hi, rfl, HO, HB1⟩ := hrel;obtain ⟨w0, hw0⟩ : ∃ w0, wr = w0 := ⟨_, rfl⟩;rw [hw0] at HO HB1 |-;clear hw0;have HBW : Hid (Below w.heap.size w w0) := HB0.out.trans (HB1.out.mono (by omega));have hsz0 : w.heap.size + 2 <= w0.heap.size := by have := HB1.out.size; omega
  have g0 := HC0.out w0 HB1.out;have k6 : w0.cell? ⟨w.heap.size, 6, none⟩ = some (.slice na nn nc) := g0 6 _ rfl;clear g0;by_cases hlt : i < nn
  ·have hiz : (i : Int) < (nn : Int) := by omega
   have hiA : (0 : Int) <= (i : Int) := by omega
   have HI := hI hlt;obtain ⟨bd, x, rfl, hbb, hx, hcells⟩ := HL.out.at_ hlt;obtain ⟨q0, q1, q2, q3, q4, q5, q6⟩ := hcells w0 HBW.out;have HX := hI hx;have HNX := hI (ofK_some (T := T) (tier := tier) hx)
   have HMEM : Hid (∀ y ∈ ofK T l tier i, y ∈ l /\ y.tier = tier) := fun y hy => by
    obtain ⟨g1, g2⟩ := ofK_mem (by rw [HLN.out]; omega) hy;exact ⟨List.mem_of_mem_take g1, g2⟩
   have HXM : Hid (x ∈ l) := List.mem_of_getElem? hx
   have hml : (ofK T l tier i).length <= nn := by
    have h1 := (ofK_perm (T := T) (tier := tier) i (by rw [HLN.out]; omega)).length_eq;have h2 := List.length_filter_le (fun x : Nt => decide (x.tier = tier)) (l.take i);rw [List.length_take] at h2;omega
   obtain ⟨acc, hacc⟩ : ∃ acc, ofK T l tier i = acc := ⟨_, rfl⟩;rw [hacc] at HO HNX HMEM hml;clear hx hcells hacc;go_upto_region 6 with fail
   obtain ⟨W1, hW1⟩ : ∃ W1, (w0.alloc (.cells #[.int .i64 x.nid, .int .i64 x.tier, .int .i64 x.parent, .int .i64 x.at1, .int .i64 x.at2, .int .i64 x.rank, .string x.text] 58)) = W1 := ⟨_, rfl⟩;have HB2 : Hid (Below w0.heap.size w0 W1) := by rw [<- hW1]; exact (bR.alloc (by simp <;> omega) _)
   have hz1 : W1.heap.size = w0.heap.size + 1 := by rw [<- hW1]; simp
   have HC2 : Hid (∀ X, Below W1.heap.size W1 X -> X.rangeAt (w0.heap.size) 0 [.int .i64 x.nid, .int .i64 x.tier, .int .i64 x.parent, .int .i64 x.at1, .int .i64 x.at2, .int .i64 x.rank, .string x.text]) := fun X hX => by
    refine range_below hX (by omega) fun j v hv => ?_
    rw [<- hW1, Nat.zero_add]; rw [World.cell?_alloc_at _ _ _ _ (by simp), <- hv, <- List.getElem?_toArray]; try rfl
   (try rw [hW1])
   clear hW1;have hz2 : W1.heap.size = w0.heap.size + 1 := hz1;have HBW1 : Hid (Below w.heap.size w W1) := HBW.out.trans (HB2.out.mono (by omega));have HB12 : Hid (Below (w.heap.size + 1) W0 W1) := HB1.out.trans (HB2.out.mono (by omega));have HO1 : Hid (OwnR encN 7 58 W1 (w.heap.size + 1) u5 acc) := HO.out.on HB2.out;have g1 := HC2.out W1 bR;have m1 : W1.cell? ⟨w0.heap.size, 1, none⟩ = some (.int .i64 x.tier) := g1 1 _ rfl;clear q0 q1 q2 q3 q4 q5 q6 k6 g1 HO;by_cases ht0 : x.tier = tier
   ·have hbt : (x.tier != tier) = false := by rw [bne_eq_false_iff_eq]; exact ht0
    have HTX := hI ht0;have HN2 : Hid (ofK T l tier (i + 1) = insB (befT T l) x acc) := by show _ = _; rw [HNX.out, if_pos ht0]
    obtain ⟨A, c, rfl, hmc, hc63, hrd⟩ := OwnR.form HO1.out;obtain ⟨m, hm⟩ : ∃ m, acc.length = m := ⟨_, rfl⟩;have HML := hI hm
    have HRD : Hid (∀ W, Below W1.heap.size W1 W -> Reads W W1.heap.size 7 A m (acc.flatMap encN)) := fun W hW => by
     have := hrd.1.below hW;rw [hm] at this;exact this
    have HNR : Hid (NotesR W1 W1.heap.size A m acc) := by rw [<- hm]; exact hrd
    rw [hm] at hmc hml |-;have HBE := hI fun (y : Nt) (hy : y ∈ acc) (W : World) (hW : Below w.heap.size w W) => HB.out x y HXM.out (HMEM.out y hy).1 (by rw [HTX.out, (HMEM.out y hy).2]) W hW
    clear ht0 HNX hrd hm HMEM;go_wp2_with fail
    go_loopw [8] (fun v8 wr2 => ∃ at_ : Nat, at_ <= m /\ v8 = .int .i64 at_ /\ Hid (posB (befT T l) x acc m = posB (befT T l) x acc at_) /\ Hid (Below W1.heap.size W1 wr2)) (fun v8 _ => (intOf v8).toNat)
    case atStart => exact ⟨m, Nat.le_refl _, rfl, rfl, Below.refl _ _⟩
    case round =>
     clear m1;obtain ⟨at_, hat, rfl, HP, HB3⟩ := hrel;obtain ⟨w2, hw2⟩ : ∃ w2, wr = w2 := ⟨_, rfl⟩;rw [hw2] at HB3 |-;clear hw2;go_upto_region 8 with fail
     go_cut [41] from 30 to 40 (fun sv wx => ∃ bb : Bool, sv = .bool bb /\ Hid ((bb = true -> 0 < at_ /\ posB (befT T l) x acc m = posB (befT T l) x acc (at_ - 1)) /\ (bb = false -> posB (befT T l) x acc m = at_)) /\ Hid (Below W1.heap.size W1 wx))
     case first =>
      have HBWX : Hid (∀ p : BW w2, Below W1.heap.size W1 p.at_) := fun p => HB3.out.trans (p.bel.mono HB3.out.size)
      have HBD : Hid (∀ p : BW w2, Below (w.heap.size + 1) W0 p.at_) := fun p => HB12.out.trans ((HBWX.out p).mono (by omega))
      have HBP : Hid (∀ p : BW w2, Below w.heap.size w p.at_) := fun p => HBW1.out.trans ((HBWX.out p).mono (by omega))
      rcases Nat.eq_zero_or_pos at_ with h0 | h0
      ·subst h0;have hj0 : decide ((0 : Int) < ((0 : Nat) : Int)) = false := rfl;go_wp2_with fail
       go_quiet (fail)
       have HBX : Hid (Below W1.heap.size W1 (w2.drewN nq)) := below_drewN HB3.out nq;go_wp2;go_meet
       exact ⟨false, rfl, ⟨(fun h => by cases h), fun _ => by rw [HP.out]; rfl⟩, HBX⟩
      ·obtain ⟨k, hk⟩ : ∃ k, at_ = k + 1 := ⟨at_ - 1, by omega⟩;subst hk;obtain ⟨ad, y, rfl, hab, hy, hcells⟩ := HNR.out.at_ (k := k) (by omega);have HPS : Hid (posB (befT T l) x acc (k + 1) = if befT T l x y = true then posB (befT T l) x acc k else k + 1) := posB_step hy;have HCL := hI fun p : BW w2 => HBE.out y (List.mem_of_getElem? hy) p.at_ (HBP.out p)
       have k0 : ∀ p : BW w2, p.at_.cell? ⟨w.heap.size, 0, none⟩ = some (.int .i64 rid) := fun p => (HC0.out p.at_ (HBD.out p)) 0 _ rfl
       have k1 : ∀ p : BW w2, p.at_.cell? ⟨w.heap.size, 1, none⟩ = some (.string name) := fun p => (HC0.out p.at_ (HBD.out p)) 1 _ rfl
       have k2 : ∀ p : BW w2, p.at_.cell? ⟨w.heap.size, 2, none⟩ = some (.int .i64 len) := fun p => (HC0.out p.at_ (HBD.out p)) 2 _ rfl
       have k3 : ∀ p : BW w2, p.at_.cell? ⟨w.heap.size, 3, none⟩ = some (.int .i64 day) := fun p => (HC0.out p.at_ (HBD.out p)) 3 _ rfl
       have k4 : ∀ p : BW w2, p.at_.cell? ⟨w.heap.size, 4, none⟩ = some (.slice sa sn sc) := fun p => (HC0.out p.at_ (HBD.out p)) 4 _ rfl
       have k5 : ∀ p : BW w2, p.at_.cell? ⟨w.heap.size, 5, none⟩ = some (.slice ta tn tc) := fun p => (HC0.out p.at_ (HBD.out p)) 5 _ rfl
       have k6 : ∀ p : BW w2, p.at_.cell? ⟨w.heap.size, 6, none⟩ = some (.slice (some bd) nn nc) := fun p => (HC0.out p.at_ (HBD.out p)) 6 _ rfl
       have m0 : ∀ p : BW w2, p.at_.cell? ⟨w0.heap.size, 0, none⟩ = some (.int .i64 x.nid) := fun p => (HC2.out p.at_ (HBWX.out p)) 0 _ rfl
       have m1 : ∀ p : BW w2, p.at_.cell? ⟨w0.heap.size, 1, none⟩ = some (.int .i64 x.tier) := fun p => (HC2.out p.at_ (HBWX.out p)) 1 _ rfl
       have m2 : ∀ p : BW w2, p.at_.cell? ⟨w0.heap.size, 2, none⟩ = some (.int .i64 x.parent) := fun p => (HC2.out p.at_ (HBWX.out p)) 2 _ rfl
       have m3 : ∀ p : BW w2, p.at_.cell? ⟨w0.heap.size, 3, none⟩ = some (.int .i64 x.at1) := fun p => (HC2.out p.at_ (HBWX.out p)) 3 _ rfl
       have m4 : ∀ p : BW w2, p.at_.cell? ⟨w0.heap.size, 4, none⟩ = some (.int .i64 x.at2) := fun p => (HC2.out p.at_ (HBWX.out p)) 4 _ rfl
       have m5 : ∀ p : BW w2, p.at_.cell? ⟨w0.heap.size, 5, none⟩ = some (.int .i64 x.rank) := fun p => (HC2.out p.at_ (HBWX.out p)) 5 _ rfl
       have m6 : ∀ p : BW w2, p.at_.cell? ⟨w0.heap.size, 6, none⟩ = some (.string x.text) := fun p => (HC2.out p.at_ (HBWX.out p)) 6 _ rfl
       have q0 : ∀ p : BW w2, p.at_.cell? (ad.add (k * 7)) = some (.int .i64 y.nid) := fun p => (hcells p.at_ (HBWX.out p)).1
       have q1 : ∀ p : BW w2, p.at_.cell? ⟨(ad.add (k * 7)).block, (ad.add (k * 7)).off + 1, none⟩ = some (.int .i64 y.tier) := fun p => (hcells p.at_ (HBWX.out p)).2.1
       have q2 : ∀ p : BW w2, p.at_.cell? ⟨(ad.add (k * 7)).block, (ad.add (k * 7)).off + 2, none⟩ = some (.int .i64 y.parent) := fun p => (hcells p.at_ (HBWX.out p)).2.2.1
       have q3 : ∀ p : BW w2, p.at_.cell? ⟨(ad.add (k * 7)).block, (ad.add (k * 7)).off + 3, none⟩ = some (.int .i64 y.at1) := fun p => (hcells p.at_ (HBWX.out p)).2.2.2.1
       have q4 : ∀ p : BW w2, p.at_.cell? ⟨(ad.add (k * 7)).block, (ad.add (k * 7)).off + 4, none⟩ = some (.int .i64 y.at2) := fun p => (hcells p.at_ (HBWX.out p)).2.2.2.2.1
       have q5 : ∀ p : BW w2, p.at_.cell? ⟨(ad.add (k * 7)).block, (ad.add (k * 7)).off + 5, none⟩ = some (.int .i64 y.rank) := fun p => (hcells p.at_ (HBWX.out p)).2.2.2.2.2.1
       have q6 : ∀ p : BW w2, p.at_.cell? ⟨(ad.add (k * 7)).block, (ad.add (k * 7)).off + 6, none⟩ = some (.string y.text) := fun p => (hcells p.at_ (HBWX.out p)).2.2.2.2.2.2
       obtain ⟨bb, hbb2⟩ : ∃ bb, befF T l (x.tier.toNat + 1) x y = bb := ⟨_, rfl⟩
       have HRB : Hid ((bb = true -> 0 < k + 1 /\ posB (befT T l) x acc m = posB (befT T l) x acc (k + 1 - 1)) /\ (bb = false -> posB (befT T l) x acc m = k + 1)) := by
        have h9 : befT T l x y = bb := hbb2;have h8 := HPS.out;rw [h9] at h8;refine ⟨fun h => ⟨by omega, ?_⟩, fun h => ?_⟩
        ·rw [HP.out, h8, if_pos h]; rfl
        ·rw [HP.out, h8, if_neg (by rw [h]; simp)]
       rw [hbb2] at HCL;clear hcells hy hbb2 HPS HP;have hkm : (k : Int) < (m : Int) := by omega
       have hkA : (0 : Int) <= (k : Int) := by omega
       have ek : (k : Int) + 1 - 1 = (k : Int) := by omega
       have hj0 : decide ((0 : Int) < (k : Int) + 1) = true := decide_eq_true (by omega);have hj1 : (0 : Int) < (k : Int) + 1 := by omega
       have rk : IntKind.i64.wrap (k : Int) = (k : Int) := by rw [IntKind.wrap_i64]; omega
       go_wp2_with fail
       refine wp_region_quiet_below (by kernel_rfl) (by kernel_rfl) ?_;repeat (go_big_quiet_step ((exact below_quiet (HCL.out _))))
       refine wpQuiet_nil ?_;intro w3 hw';have hb3 := bw_below hw';clear hw';have HBX : Hid (Below W1.heap.size W1 w3) := HB3.out.trans (hb3.mono HB3.out.size);clear hb3;go_wp2;go_meet
       exact ⟨bb, rfl, HRB, HBX⟩
     case rest =>
      clear HB3;obtain ⟨bb, rfl, HBB, HB3⟩ := hcut
      cases bb with
      | true =>
       have ha0 := (HBB.out.1 rfl).1;have HP2 := hI (HBB.out.1 rfl).2;clear HBB;go_wp2;go_roundw
       case rel => exact ⟨at_ - 1, by omega, by first | rfl | go_num | (congr 1; omega), HP2, HB3⟩
       case measure => simp [intOf]; omega
      | false =>
       have HPF : Hid (posB (befT T l) x acc m = at_) := HBB.out.2 rfl
       have HINS : Hid (ofK T l tier (i + 1) = acc.take at_ ++ x :: acc.drop at_) := by
        show _ = _;rw [HN2.out];unfold insB;rw [HML.out, HPF.out]
       obtain ⟨w3, hw3⟩ : ∃ w3, wc.drew = w3 := ⟨_, rfl⟩;have HBX : Hid (Below W1.heap.size W1 w3) := by rw [<- hw3]; exact HB3.out.drew
       have HX3 : Hid (∀ W, Below w3.heap.size w3 W -> W.rangeAt w0.heap.size 0 [.int .i64 x.nid, .int .i64 x.tier, .int .i64 x.parent, .int .i64 x.at1, .int .i64 x.at2, .int .i64 x.rank, .string x.text]) := fun W hW => HC2.out W (HBX.out.trans (hW.mono HBX.out.size))
       have HR1 : Hid (∀ W, Below w3.heap.size w3 W -> Reads W W1.heap.size 7 A at_ ((acc.take at_).flatMap encN)) := fun W hW => Reads.takeR encN_len (HRD.out W (HBX.out.trans (hW.mono HBX.out.size))) hat
       have HR2 : Hid (∀ W, Below w3.heap.size w3 W -> Reads W W1.heap.size 7 (if c = at_ then A else Option.map (fun x => x.add (at_ * 7)) A) (m - at_) ((acc.drop at_).flatMap encN)) := fun W hW => Reads.cutR encN_len (HRD.out W (HBX.out.trans (hW.mono HBX.out.size))) hat hmc
       have hsz3 : w.heap.size + 3 <= w3.heap.size := by have := HBX.out.size; omega
       have hS0 : w3.rangeAt w0.heap.size 0 [.int .i64 x.nid, .int .i64 x.tier, .int .i64 x.parent, .int .i64 x.at1, .int .i64 x.at2, .int .i64 x.rank, .string x.text] := HX3.out w3 bR;have hka : (0 : Int) <= (at_ : Int) := by omega
       have hkm : (at_ : Int) <= (m : Int) := by omega
       have hkc : (at_ : Int) <= (c : Int) := by omega
       have hmcz : (m : Int) <= (c : Int) := by omega
       have HOLD := hI HBX.out;clear HBB HB3 HP HRD;go_wp2_with fail
       refine wp_region_noPanic ?_;refine wp_region_held_drew (S := (fun W => W.rangeAt w0.heap.size 0 [.int .i64 x.nid, .int .i64 x.tier, .int .i64 x.parent, .int .i64 x.at1, .int .i64 x.at2, .int .i64 x.rank, .string x.text])) (by kernel_rfl) ?_ (fun hHeld => ?_)
       ·rw [hw3]; exact hS0
       rw [hw3] at hHeld |-;clear hw3;refine wpAnyH_take (i := 1) (oi := ⟨some 45, .move (.tmp 5), 36, "ref.go:205", #[], none⟩) (v := ?_) rfl (by kernel_rfl) (by kernel_rfl) (by kernel_rfl) (fun _ _ _ h => h) (Or.inl ⟨by rfl, ?_⟩) (by assumption) ?_;rotate_left
       ·(intro w hSw; (try dsimp only at hSw); go_simp; try with_reducible rfl)
       rotate_left;try simp only [Act.put, pS]
       refine wpAnyH_take (i := 2) (oi := ⟨some 46, .move (.tmp 8), 3, "ref.go:205", #[], none⟩) (v := ?_) rfl (by kernel_rfl) (by kernel_rfl) (by kernel_rfl) (fun _ _ _ h => h) (Or.inl ⟨by rfl, ?_⟩) (by assumption) ?_;rotate_left
       ·(intro w hSw; (try dsimp only at hSw); go_simp; try with_reducible rfl)
       rotate_left;try simp only [Act.put, pS]
       refine wpAnyH_take (i := 3) (oi := ⟨some 47, .slice 36 (.tmp 45) none (some (.tmp 46)) none, 36, "ref.go:205", #[⟨1, .data⟩, ⟨2, .data⟩], none⟩) (v := ?_) rfl (by kernel_rfl) (by kernel_rfl) (by kernel_rfl) (fun _ _ _ h => h) (Or.inl ⟨by rfl, ?_⟩) (by assumption) ?_;rotate_left
       ·(intro w hSw; (try dsimp only at hSw); go_simp; try with_reducible rfl)
       rotate_left;try simp only [Act.put, pS]
       refine wpAnyH_take (i := 5) (oi := ⟨some 49, .load 58 (.tmp 7), 58, "ref.go:205", #[], none⟩) (v := ?_) rfl (by kernel_rfl) (by kernel_rfl) (by kernel_rfl) (fun _ _ _ h => h) (Or.inl ⟨by rfl, ?_⟩) (by assumption) ?_;rotate_left
       ·(intro w hSw; (try dsimp only at hSw); refine run_load_mid 58 (.tmp 7) ?_ w0.heap.size 0 ?_ [.int .i64 x.nid, .int .i64 x.tier, .int .i64 x.parent, .int .i64 x.at1, .int .i64 x.at2, .int .i64 x.rank, .string x.text] _ hSw Tryz.underlying58 ?_ ?_ <;> first | rfl | kernel_rfl; try with_reducible rfl)
       rotate_left;try simp only [Act.put, pS]
       refine wpAnyH_take (i := 8) (oi := ⟨some 52, .move (.tmp 5), 36, "ref.go:205", #[], none⟩) (v := ?_) rfl (by kernel_rfl) (by kernel_rfl) (by kernel_rfl) (fun _ _ _ h => h) (Or.inl ⟨by rfl, ?_⟩) (by assumption) ?_;rotate_left
       ·(intro w hSw; (try dsimp only at hSw); go_simp; try with_reducible rfl)
       rotate_left;try simp only [Act.put, pS]
       refine wpAnyH_take (i := 9) (oi := ⟨some 53, .move (.tmp 8), 3, "ref.go:205", #[], none⟩) (v := ?_) rfl (by kernel_rfl) (by kernel_rfl) (by kernel_rfl) (fun _ _ _ h => h) (Or.inl ⟨by rfl, ?_⟩) (by assumption) ?_;rotate_left
       ·(intro w hSw; (try dsimp only at hSw); go_simp; try with_reducible rfl)
       rotate_left;try simp only [Act.put, pS]
       refine wpAnyH_take (i := 10) (oi := ⟨some 54, .slice 36 (.tmp 52) (some (.tmp 53)) none none, 36, "ref.go:205", #[⟨8, .data⟩, ⟨9, .data⟩], none⟩) (v := ?_) rfl (by kernel_rfl) (by kernel_rfl) (by kernel_rfl) (fun _ _ _ h => h) (Or.inl ⟨by rfl, ?_⟩) (by assumption) ?_;rotate_left
       ·(intro w hSw; (try dsimp only at hSw); go_simp; try with_reducible rfl)
       rotate_left;try simp only [Act.put, pS]
       refine wpAnyH_ready (rs := [0, 6]) (by kernel_rfl) (by simp) ?_;refine AllReadyH.cons (o := ⟨some 44, .buildSlice 36 0 #[], 36, "ref.go:205", #[], none⟩) rfl (fun K hK => ?_) ?_
       ·go_simp;have HOa : Hid (OwnR encN 7 58 (w3.alloc (.cells #[] 58)) w3.heap.size (.slice (some ⟨w3.heap.size, 0, none⟩) 0 0) []) := nt_made w3 w3.heap.size (Nat.le_refl _);have HBn : Hid (Below w3.heap.size w3 (w3.alloc (.cells #[] 58))) := bR.alloc (Nat.le_refl _) _;have hSn : (w3.alloc (.cells #[] 58)).rangeAt w0.heap.size 0 [.int .i64 x.nid, .int .i64 x.tier, .int .i64 x.parent, .int .i64 x.at1, .int .i64 x.at2, .int .i64 x.rank, .string x.text] := HX3.out _ HBn.out;obtain ⟨w4, hw4⟩ : ∃ w4, (w3.alloc (.cells #[] 58)) = w4 := ⟨_, rfl⟩;obtain ⟨va, hva⟩ : ∃ va, Value.slice (some ⟨w3.heap.size, 0, none⟩) 0 0 = va := ⟨_, rfl⟩;rw [hw4, hva] at HOa;rw [hw4] at HBn hSn;rw [hw4, hva];clear hw4 hva;have HB4 := HBn;have hS4 := hSn;clear HBn hSn;refine hK.out _ _ ?_ (fun hHeld => ?_)
        ·(try dsimp only); (first | exact hS8 | exact hS7 | exact hS6 | exact hS5 | exact hS4 | exact hS0)
        clear hK K;try simp only [Act.put, pS]
        refine wpAnyH_ready (rs := [4, 6]) (by kernel_rfl) (by simp) ?_;refine AllReadyH.cons (o := ⟨some 48, .call { callee := .builtin .append, args := #[.tmp 44, .tmp 47], argTypes := #[36, 36] }, 36, "ref.go:205", #[⟨0, .data⟩, ⟨3, .data⟩], none⟩) rfl (fun K hK => ?_) ?_
        ·refine step_appR (by rfl) (.tmp 44) (.tmp 47) 36 (by rfl) w3.heap.size 58 7 64 (noteV nt0) info_note rfl (by omega) Tryz.underlying36 (by rfl) HOa.out A at_ c (by rfl) (HR1.out _ HB4.out) (one_notes _) (by simp <;> omega) (by simp <;> omega) HB4.out.size ?_;intro vb w5 hown hg hat7
         have HOb : Hid (OwnR encN 7 58 w5 w3.heap.size vb (acc.take at_)) := by
          show World.ownsRow _ _ _ _ _ _ _;have h9 := hown;rw [List.length_take, HML.out, show min at_ m = 0 + at_ by omega]; exact h9
         have HB5 : Hid (Below w3.heap.size w3 w5) := below_app HB4.out HOa.out hg (Nat.le_refl _) HB4.out.size;have hS5 : w5.rangeAt w0.heap.size 0 [.int .i64 x.nid, .int .i64 x.tier, .int .i64 x.parent, .int .i64 x.at1, .int .i64 x.at2, .int .i64 x.rank, .string x.text] := HX3.out _ HB5.out;clear hown hg hat7 HOa HB4 hS4;refine hK.out _ _ ?_ (fun hHeld => ?_)
         ·(try dsimp only); (first | exact hS8 | exact hS7 | exact hS6 | exact hS5 | exact hS4 | exact hS0)
         clear hK K;try simp only [Act.put, pS]
         refine wpAnyH_ready (rs := [6]) (by kernel_rfl) (by simp) ?_;refine AllReadyH.cons (o := ⟨some 50, .buildSlice 36 1 #[(0, .tmp 49)], 36, "ref.go:205", #[⟨5, .data⟩], none⟩) rfl (fun K hK => ?_) AllReadyH.nil;go_simp;have HBn : Hid (Below w3.heap.size w3 (w5.alloc (.cells #[.int .i64 x.nid, .int .i64 x.tier, .int .i64 x.parent, .int .i64 x.at1, .int .i64 x.at2, .int .i64 x.rank, .string x.text] 58))) := HB5.out.alloc HB5.out.size _;have HIT2 : Hid (ItemR (w5.alloc (.cells #[.int .i64 x.nid, .int .i64 x.tier, .int .i64 x.parent, .int .i64 x.at1, .int .i64 x.at2, .int .i64 x.rank, .string x.text] 58)) w5.heap.size [.int .i64 x.nid, .int .i64 x.tier, .int .i64 x.parent, .int .i64 x.at1, .int .i64 x.at2, .int .i64 x.rank, .string x.text] vb) := ItemR.new HOb.out rfl;have HOn : Hid (OwnR encN 7 58 (w5.alloc (.cells #[.int .i64 x.nid, .int .i64 x.tier, .int .i64 x.parent, .int .i64 x.at1, .int .i64 x.at2, .int .i64 x.rank, .string x.text] 58)) w3.heap.size vb (acc.take at_)) := HOb.out.on (bR.alloc (Nat.le_refl _) _);have hSn : (w5.alloc (.cells #[.int .i64 x.nid, .int .i64 x.tier, .int .i64 x.parent, .int .i64 x.at1, .int .i64 x.at2, .int .i64 x.rank, .string x.text] 58)).rangeAt w0.heap.size 0 [.int .i64 x.nid, .int .i64 x.tier, .int .i64 x.parent, .int .i64 x.at1, .int .i64 x.at2, .int .i64 x.rank, .string x.text] := HX3.out _ HBn.out;obtain ⟨w6, hw6⟩ : ∃ w6, (w5.alloc (.cells #[.int .i64 x.nid, .int .i64 x.tier, .int .i64 x.parent, .int .i64 x.at1, .int .i64 x.at2, .int .i64 x.rank, .string x.text] 58)) = w6 := ⟨_, rfl⟩;rw [hw6] at HBn hSn HIT2 HOn;rw [hw6];clear hw6 HOb HB5 hS5;have HOb := HOn;clear HOn;have HB6 := HBn;have hS6 := hSn;clear HBn hSn;obtain ⟨b6, hb6⟩ : ∃ b6, w5.heap.size = b6 := ⟨_, rfl⟩;rw [hb6] at HIT2 |-;clear hb6;refine hK.out _ _ ?_ (fun hHeld => ?_)
         ·(try dsimp only); (first | exact hS8 | exact hS7 | exact hS6 | exact hS5 | exact hS4 | exact hS0)
         clear hK K;try simp only [Act.put, pS]
         refine wpAnyH_ready (rs := [7]) (by kernel_rfl) (by simp) ?_;refine AllReadyH.cons (o := ⟨some 51, .call { callee := .builtin .append, args := #[.tmp 48, .tmp 50], argTypes := #[36, 36] }, 36, "ref.go:205", #[⟨4, .data⟩, ⟨6, .data⟩, ⟨4, .chain⟩], none⟩) rfl (fun K hK => ?_) AllReadyH.nil;refine step_appR (by rfl) (.tmp 48) (.tmp 50) 36 (by rfl) w3.heap.size 58 7 64 (noteV nt0) info_note rfl (by omega) Tryz.underlying36 (by rfl) HOb.out (some ⟨b6, 0, none⟩) 1 1 (by rfl) (HIT2.out.reads rfl) (one_note x) (by rw [List.length_take, HML.out]; omega) (by rw [List.length_take, HML.out]; omega) HB6.out.size ?_;intro vc w7 hown hg hat7
         have HOc : Hid (OwnR encN 7 58 w7 w3.heap.size vc (acc.take at_ ++ [x])) := by
          show World.ownsRow _ _ _ _ _ _ _;have h9 := hown;rw [List.length_append, List.flatMap_append]; simpa [encN] using h9
         have HB7 : Hid (Below w3.heap.size w3 w7) := below_app HB6.out HOb.out hg (Nat.le_refl _) HB6.out.size;have hS7 : w7.rangeAt w0.heap.size 0 [.int .i64 x.nid, .int .i64 x.tier, .int .i64 x.parent, .int .i64 x.at1, .int .i64 x.at2, .int .i64 x.rank, .string x.text] := HX3.out _ HB7.out;clear hown hg hat7 HOb HB6 hS6;refine hK.out _ _ ?_ (fun hHeld => ?_)
         ·(try dsimp only); (first | exact hS8 | exact hS7 | exact hS6 | exact hS5 | exact hS4 | exact hS0)
         clear hK K;try simp only [Act.put, pS]
         refine wpAnyH_ready (rs := [11]) (by kernel_rfl) (by simp) ?_;refine AllReadyH.cons (o := ⟨some 55, .call { callee := .builtin .append, args := #[.tmp 51, .tmp 54], argTypes := #[36, 36] }, 36, "ref.go:205", #[⟨7, .data⟩, ⟨10, .data⟩, ⟨7, .chain⟩], none⟩) rfl (fun K hK => ?_) AllReadyH.nil;refine step_appR (by rfl) (.tmp 51) (.tmp 54) 36 (by rfl) w3.heap.size 58 7 64 (noteV nt0) info_note rfl (by omega) Tryz.underlying36 (by rfl) HOc.out (if c = at_ then A else Option.map (fun x => x.add (at_ * 7)) A) (m - at_) (c - at_) (by rfl) (HR2.out _ HB7.out) (one_notes _) (by rw [List.length_append, List.length_take, HML.out, List.length_singleton]; omega) (by rw [List.length_append, List.length_take, HML.out, List.length_singleton]; omega) HB7.out.size ?_;intro vd w8 hown hg hat7
         have HOd : Hid (OwnR encN 7 58 w8 w3.heap.size vd (acc.take at_ ++ [x] ++ acc.drop at_)) := by
          show World.ownsRow _ _ _ _ _ _ _;have h9 := hown;rw [List.length_append, List.length_drop, HML.out, List.flatMap_append]; exact h9
         have HB8 : Hid (Below w3.heap.size w3 w8) := below_app HB7.out HOc.out hg (Nat.le_refl _) HB7.out.size;have hS8 : w8.rangeAt w0.heap.size 0 [.int .i64 x.nid, .int .i64 x.tier, .int .i64 x.parent, .int .i64 x.at1, .int .i64 x.at2, .int .i64 x.rank, .string x.text] := HX3.out _ HB8.out;clear hown hg hat7 HOc HB7 hS7;refine hK.out _ _ ?_ (fun hHeld => ?_)
         ·(try dsimp only); (first | exact hS8 | exact hS7 | exact hS6 | exact hS5 | exact hS4 | exact hS0)
         clear hK K;try simp only [Act.put, pS]
         refine wpAnyH_ready (rs := [12]) (by kernel_rfl) (by simp) ?_;refine AllReadyH.cons (o := ⟨some 5, .assign (.tmp 55), 36, "ref.go:205", #[⟨11, .data⟩, ⟨11, .chain⟩, ⟨0, .phase⟩, ⟨1, .phase⟩, ⟨2, .phase⟩, ⟨3, .phase⟩, ⟨4, .phase⟩, ⟨5, .phase⟩, ⟨6, .phase⟩, ⟨7, .phase⟩, ⟨8, .phase⟩, ⟨9, .phase⟩, ⟨10, .phase⟩, ⟨11, .phase⟩], none⟩) rfl (fun K hK => ?_) AllReadyH.nil;go_simp;refine hK.out _ _ ?_ (fun hHeld => ?_)
         ·(try dsimp only); (first | exact hS8 | exact hS7 | exact hS6 | exact hS5 | exact hS4 | exact hS0)
         clear hK K;try simp only [Act.put, pS]
         refine wpAnyH_done (by kernel_rfl) ?_ _;refine NoPanic.normal ?_
         have HO9 : Hid (OwnR encN 7 58 w8 (w.heap.size + 1) vd (ofK T l tier (i + 1))) := by
          show OwnR _ _ _ _ _ _ _;rw [HINS.out];have h9 := own_base HOd.out (show w.heap.size + 1 <= w3.heap.size by omega);rw [show acc.take at_ ++ x :: acc.drop at_ = acc.take at_ ++ [x] ++ acc.drop at_ by simp];exact h9
         have HB9 : Hid (Below (w.heap.size + 1) W0 w8) := HB12.out.trans ((HBX.out.trans (HB8.out.mono HBX.out.size)).mono (by omega));clear HOd HB8 hS8 hS0;go_wp2;go_roundw
         case rel => exact ⟨i + 1, HI.out, by go_num, HO9, HB9⟩
         case measure => have := HI.out; simp [intOf]; omega
        refine AllReadyH.cons (o := ⟨some 50, .buildSlice 36 1 #[(0, .tmp 49)], 36, "ref.go:205", #[⟨5, .data⟩], none⟩) rfl (fun K hK => ?_) AllReadyH.nil;go_simp;have HBn : Hid (Below w3.heap.size w3 (w4.alloc (.cells #[.int .i64 x.nid, .int .i64 x.tier, .int .i64 x.parent, .int .i64 x.at1, .int .i64 x.at2, .int .i64 x.rank, .string x.text] 58))) := HB4.out.alloc HB4.out.size _;have HIT2 : Hid (ItemR (w4.alloc (.cells #[.int .i64 x.nid, .int .i64 x.tier, .int .i64 x.parent, .int .i64 x.at1, .int .i64 x.at2, .int .i64 x.rank, .string x.text] 58)) w4.heap.size [.int .i64 x.nid, .int .i64 x.tier, .int .i64 x.parent, .int .i64 x.at1, .int .i64 x.at2, .int .i64 x.rank, .string x.text] va) := ItemR.new HOa.out rfl;have HOn : Hid (OwnR encN 7 58 (w4.alloc (.cells #[.int .i64 x.nid, .int .i64 x.tier, .int .i64 x.parent, .int .i64 x.at1, .int .i64 x.at2, .int .i64 x.rank, .string x.text] 58)) w3.heap.size va []) := HOa.out.on (bR.alloc (Nat.le_refl _) _);have hSn : (w4.alloc (.cells #[.int .i64 x.nid, .int .i64 x.tier, .int .i64 x.parent, .int .i64 x.at1, .int .i64 x.at2, .int .i64 x.rank, .string x.text] 58)).rangeAt w0.heap.size 0 [.int .i64 x.nid, .int .i64 x.tier, .int .i64 x.parent, .int .i64 x.at1, .int .i64 x.at2, .int .i64 x.rank, .string x.text] := HX3.out _ HBn.out;obtain ⟨w5, hw5⟩ : ∃ w5, (w4.alloc (.cells #[.int .i64 x.nid, .int .i64 x.tier, .int .i64 x.parent, .int .i64 x.at1, .int .i64 x.at2, .int .i64 x.rank, .string x.text] 58)) = w5 := ⟨_, rfl⟩;rw [hw5] at HBn hSn HIT2 HOn;rw [hw5];clear hw5 HOa HB4 hS4;have HOa := HOn;clear HOn;have HB5 := HBn;have hS5 := hSn;clear HBn hSn;obtain ⟨b6, hb6⟩ : ∃ b6, w4.heap.size = b6 := ⟨_, rfl⟩;rw [hb6] at HIT2 |-;clear hb6;refine hK.out _ _ ?_ (fun hHeld => ?_)
        ·(try dsimp only); (first | exact hS8 | exact hS7 | exact hS6 | exact hS5 | exact hS4 | exact hS0)
        clear hK K;try simp only [Act.put, pS]
        refine wpAnyH_ready (rs := [4]) (by kernel_rfl) (by simp) ?_;refine AllReadyH.cons (o := ⟨some 48, .call { callee := .builtin .append, args := #[.tmp 44, .tmp 47], argTypes := #[36, 36] }, 36, "ref.go:205", #[⟨0, .data⟩, ⟨3, .data⟩], none⟩) rfl (fun K hK => ?_) AllReadyH.nil;refine step_appR (by rfl) (.tmp 44) (.tmp 47) 36 (by rfl) w3.heap.size 58 7 64 (noteV nt0) info_note rfl (by omega) Tryz.underlying36 (by rfl) HOa.out A at_ c (by rfl) (HR1.out _ HB5.out) (one_notes _) (by simp <;> omega) (by simp <;> omega) HB5.out.size ?_;intro vb w6 hown hg hat7
        have HOb : Hid (OwnR encN 7 58 w6 w3.heap.size vb (acc.take at_)) := by
         show World.ownsRow _ _ _ _ _ _ _;have h9 := hown;rw [List.length_take, HML.out, show min at_ m = 0 + at_ by omega]; exact h9
        have HB6 : Hid (Below w3.heap.size w3 w6) := below_app HB5.out HOa.out hg (Nat.le_refl _) HB5.out.size;have HIT3 : Hid (ItemR w6 b6 [.int .i64 x.nid, .int .i64 x.tier, .int .i64 x.parent, .int .i64 x.at1, .int .i64 x.at2, .int .i64 x.rank, .string x.text] vb) := HIT2.out.grown hg hat7;clear HIT2;have HIT2 := HIT3;clear HIT3;have hS6 : w6.rangeAt w0.heap.size 0 [.int .i64 x.nid, .int .i64 x.tier, .int .i64 x.parent, .int .i64 x.at1, .int .i64 x.at2, .int .i64 x.rank, .string x.text] := HX3.out _ HB6.out;clear hown hg hat7 HOa HB5 hS5;refine hK.out _ _ ?_ (fun hHeld => ?_)
        ·(try dsimp only); (first | exact hS8 | exact hS7 | exact hS6 | exact hS5 | exact hS4 | exact hS0)
        clear hK K;try simp only [Act.put, pS]
        refine wpAnyH_ready (rs := [7]) (by kernel_rfl) (by simp) ?_;refine AllReadyH.cons (o := ⟨some 51, .call { callee := .builtin .append, args := #[.tmp 48, .tmp 50], argTypes := #[36, 36] }, 36, "ref.go:205", #[⟨4, .data⟩, ⟨6, .data⟩, ⟨4, .chain⟩], none⟩) rfl (fun K hK => ?_) AllReadyH.nil;refine step_appR (by rfl) (.tmp 48) (.tmp 50) 36 (by rfl) w3.heap.size 58 7 64 (noteV nt0) info_note rfl (by omega) Tryz.underlying36 (by rfl) HOb.out (some ⟨b6, 0, none⟩) 1 1 (by rfl) (HIT2.out.reads rfl) (one_note x) (by rw [List.length_take, HML.out]; omega) (by rw [List.length_take, HML.out]; omega) HB6.out.size ?_;intro vc w7 hown hg hat7
        have HOc : Hid (OwnR encN 7 58 w7 w3.heap.size vc (acc.take at_ ++ [x])) := by
         show World.ownsRow _ _ _ _ _ _ _;have h9 := hown;rw [List.length_append, List.flatMap_append]; simpa [encN] using h9
        have HB7 : Hid (Below w3.heap.size w3 w7) := below_app HB6.out HOb.out hg (Nat.le_refl _) HB6.out.size;have hS7 : w7.rangeAt w0.heap.size 0 [.int .i64 x.nid, .int .i64 x.tier, .int .i64 x.parent, .int .i64 x.at1, .int .i64 x.at2, .int .i64 x.rank, .string x.text] := HX3.out _ HB7.out;clear hown hg hat7 HOb HB6 hS6;refine hK.out _ _ ?_ (fun hHeld => ?_)
        ·(try dsimp only); (first | exact hS8 | exact hS7 | exact hS6 | exact hS5 | exact hS4 | exact hS0)
        clear hK K;try simp only [Act.put, pS]
        refine wpAnyH_ready (rs := [11]) (by kernel_rfl) (by simp) ?_;refine AllReadyH.cons (o := ⟨some 55, .call { callee := .builtin .append, args := #[.tmp 51, .tmp 54], argTypes := #[36, 36] }, 36, "ref.go:205", #[⟨7, .data⟩, ⟨10, .data⟩, ⟨7, .chain⟩], none⟩) rfl (fun K hK => ?_) AllReadyH.nil;refine step_appR (by rfl) (.tmp 51) (.tmp 54) 36 (by rfl) w3.heap.size 58 7 64 (noteV nt0) info_note rfl (by omega) Tryz.underlying36 (by rfl) HOc.out (if c = at_ then A else Option.map (fun x => x.add (at_ * 7)) A) (m - at_) (c - at_) (by rfl) (HR2.out _ HB7.out) (one_notes _) (by rw [List.length_append, List.length_take, HML.out, List.length_singleton]; omega) (by rw [List.length_append, List.length_take, HML.out, List.length_singleton]; omega) HB7.out.size ?_;intro vd w8 hown hg hat7
        have HOd : Hid (OwnR encN 7 58 w8 w3.heap.size vd (acc.take at_ ++ [x] ++ acc.drop at_)) := by
         show World.ownsRow _ _ _ _ _ _ _;have h9 := hown;rw [List.length_append, List.length_drop, HML.out, List.flatMap_append]; exact h9
        have HB8 : Hid (Below w3.heap.size w3 w8) := below_app HB7.out HOc.out hg (Nat.le_refl _) HB7.out.size;have hS8 : w8.rangeAt w0.heap.size 0 [.int .i64 x.nid, .int .i64 x.tier, .int .i64 x.parent, .int .i64 x.at1, .int .i64 x.at2, .int .i64 x.rank, .string x.text] := HX3.out _ HB8.out;clear hown hg hat7 HOc HB7 hS7;refine hK.out _ _ ?_ (fun hHeld => ?_)
        ·(try dsimp only); (first | exact hS8 | exact hS7 | exact hS6 | exact hS5 | exact hS4 | exact hS0)
        clear hK K;try simp only [Act.put, pS]
        refine wpAnyH_ready (rs := [12]) (by kernel_rfl) (by simp) ?_;refine AllReadyH.cons (o := ⟨some 5, .assign (.tmp 55), 36, "ref.go:205", #[⟨11, .data⟩, ⟨11, .chain⟩, ⟨0, .phase⟩, ⟨1, .phase⟩, ⟨2, .phase⟩, ⟨3, .phase⟩, ⟨4, .phase⟩, ⟨5, .phase⟩, ⟨6, .phase⟩, ⟨7, .phase⟩, ⟨8, .phase⟩, ⟨9, .phase⟩, ⟨10, .phase⟩, ⟨11, .phase⟩], none⟩) rfl (fun K hK => ?_) AllReadyH.nil;go_simp;refine hK.out _ _ ?_ (fun hHeld => ?_)
        ·(try dsimp only); (first | exact hS8 | exact hS7 | exact hS6 | exact hS5 | exact hS4 | exact hS0)
        clear hK K;try simp only [Act.put, pS]
        refine wpAnyH_done (by kernel_rfl) ?_ _;refine NoPanic.normal ?_
        have HO9 : Hid (OwnR encN 7 58 w8 (w.heap.size + 1) vd (ofK T l tier (i + 1))) := by
         show OwnR _ _ _ _ _ _ _;rw [HINS.out];have h9 := own_base HOd.out (show w.heap.size + 1 <= w3.heap.size by omega);rw [show acc.take at_ ++ x :: acc.drop at_ = acc.take at_ ++ [x] ++ acc.drop at_ by simp];exact h9
        have HB9 : Hid (Below (w.heap.size + 1) W0 w8) := HB12.out.trans ((HBX.out.trans (HB8.out.mono HBX.out.size)).mono (by omega));clear HOd HB8 hS8 hS0;go_wp2;go_roundw
        case rel => exact ⟨i + 1, HI.out, by go_num, HO9, HB9⟩
        case measure => have := HI.out; simp [intOf]; omega
       refine AllReadyH.cons (o := ⟨some 50, .buildSlice 36 1 #[(0, .tmp 49)], 36, "ref.go:205", #[⟨5, .data⟩], none⟩) rfl (fun K hK => ?_) AllReadyH.nil;go_simp;have HBn : Hid (Below w3.heap.size w3 (w3.alloc (.cells #[.int .i64 x.nid, .int .i64 x.tier, .int .i64 x.parent, .int .i64 x.at1, .int .i64 x.at2, .int .i64 x.rank, .string x.text] 58))) := bR.alloc (Nat.le_refl _) _;have HIT : Hid (w3.heap.size < (w3.alloc (.cells #[.int .i64 x.nid, .int .i64 x.tier, .int .i64 x.parent, .int .i64 x.at1, .int .i64 x.at2, .int .i64 x.rank, .string x.text] 58)).heap.size /\ (w3.alloc (.cells #[.int .i64 x.nid, .int .i64 x.tier, .int .i64 x.parent, .int .i64 x.at1, .int .i64 x.at2, .int .i64 x.rank, .string x.text] 58)).rangeAt w3.heap.size 0 [.int .i64 x.nid, .int .i64 x.tier, .int .i64 x.parent, .int .i64 x.at1, .int .i64 x.at2, .int .i64 x.rank, .string x.text]) := ⟨by simp, fun j u hu => by rw [Nat.zero_add, World.cell?_alloc_new]; simpa using hu⟩;have hSn : (w3.alloc (.cells #[.int .i64 x.nid, .int .i64 x.tier, .int .i64 x.parent, .int .i64 x.at1, .int .i64 x.at2, .int .i64 x.rank, .string x.text] 58)).rangeAt w0.heap.size 0 [.int .i64 x.nid, .int .i64 x.tier, .int .i64 x.parent, .int .i64 x.at1, .int .i64 x.at2, .int .i64 x.rank, .string x.text] := HX3.out _ HBn.out;obtain ⟨w4, hw4⟩ : ∃ w4, (w3.alloc (.cells #[.int .i64 x.nid, .int .i64 x.tier, .int .i64 x.parent, .int .i64 x.at1, .int .i64 x.at2, .int .i64 x.rank, .string x.text] 58)) = w4 := ⟨_, rfl⟩;rw [hw4] at HBn hSn HIT;rw [hw4];clear hw4;have HB4 := HBn;have hS4 := hSn;clear HBn hSn;refine hK.out _ _ ?_ (fun hHeld => ?_)
       ·(try dsimp only); (first | exact hS8 | exact hS7 | exact hS6 | exact hS5 | exact hS4 | exact hS0)
       clear hK K;try simp only [Act.put, pS]
       refine wpAnyH_ready (rs := [0]) (by kernel_rfl) (by simp) ?_;refine AllReadyH.cons (o := ⟨some 44, .buildSlice 36 0 #[], 36, "ref.go:205", #[], none⟩) rfl (fun K hK => ?_) AllReadyH.nil;go_simp;have HOa : Hid (OwnR encN 7 58 (w4.alloc (.cells #[] 58)) w3.heap.size (.slice (some ⟨w4.heap.size, 0, none⟩) 0 0) []) := nt_made w4 w3.heap.size (HB4.out.size);have HBn : Hid (Below w3.heap.size w3 (w4.alloc (.cells #[] 58))) := HB4.out.alloc HB4.out.size _;have HIT2 : Hid (ItemR (w4.alloc (.cells #[] 58)) w3.heap.size [.int .i64 x.nid, .int .i64 x.tier, .int .i64 x.parent, .int .i64 x.at1, .int .i64 x.at2, .int .i64 x.rank, .string x.text] (.slice (some ⟨w4.heap.size, 0, none⟩) 0 0)) := ⟨fun j u hu => (by rw [World.cell?_alloc_lt _ _ _ (by show w3.heap.size < _; exact HIT.out.1)]; exact HIT.out.2 j u hu), (by have := HIT.out.1; simp; omega), (by have := HIT.out.1; simp [Value.ownBlock]; omega)⟩;have hSn : (w4.alloc (.cells #[] 58)).rangeAt w0.heap.size 0 [.int .i64 x.nid, .int .i64 x.tier, .int .i64 x.parent, .int .i64 x.at1, .int .i64 x.at2, .int .i64 x.rank, .string x.text] := HX3.out _ HBn.out;clear HIT HB4 hS4;obtain ⟨w5, hw5⟩ : ∃ w5, (w4.alloc (.cells #[] 58)) = w5 := ⟨_, rfl⟩;obtain ⟨va, hva⟩ : ∃ va, Value.slice (some ⟨w4.heap.size, 0, none⟩) 0 0 = va := ⟨_, rfl⟩;rw [hw5, hva] at HOa;rw [hw5] at HBn hSn;rw [hw5, hva];rw [hw5, hva] at HIT2;clear hw5 hva;have HB5 := HBn;have hS5 := hSn;clear HBn hSn;refine hK.out _ _ ?_ (fun hHeld => ?_)
       ·(try dsimp only); (first | exact hS8 | exact hS7 | exact hS6 | exact hS5 | exact hS4 | exact hS0)
       clear hK K;try simp only [Act.put, pS]
       refine wpAnyH_ready (rs := [4]) (by kernel_rfl) (by simp) ?_;refine AllReadyH.cons (o := ⟨some 48, .call { callee := .builtin .append, args := #[.tmp 44, .tmp 47], argTypes := #[36, 36] }, 36, "ref.go:205", #[⟨0, .data⟩, ⟨3, .data⟩], none⟩) rfl (fun K hK => ?_) AllReadyH.nil;refine step_appR (by rfl) (.tmp 44) (.tmp 47) 36 (by rfl) w3.heap.size 58 7 64 (noteV nt0) info_note rfl (by omega) Tryz.underlying36 (by rfl) HOa.out A at_ c (by rfl) (HR1.out _ HB5.out) (one_notes _) (by simp <;> omega) (by simp <;> omega) HB5.out.size ?_;intro vb w6 hown hg hat7
       have HOb : Hid (OwnR encN 7 58 w6 w3.heap.size vb (acc.take at_)) := by
        show World.ownsRow _ _ _ _ _ _ _;have h9 := hown;rw [List.length_take, HML.out, show min at_ m = 0 + at_ by omega]; exact h9
       have HB6 : Hid (Below w3.heap.size w3 w6) := below_app HB5.out HOa.out hg (Nat.le_refl _) HB5.out.size;have HIT3 : Hid (ItemR w6 w3.heap.size [.int .i64 x.nid, .int .i64 x.tier, .int .i64 x.parent, .int .i64 x.at1, .int .i64 x.at2, .int .i64 x.rank, .string x.text] vb) := HIT2.out.grown hg hat7;clear HIT2;have HIT2 := HIT3;clear HIT3;have hS6 : w6.rangeAt w0.heap.size 0 [.int .i64 x.nid, .int .i64 x.tier, .int .i64 x.parent, .int .i64 x.at1, .int .i64 x.at2, .int .i64 x.rank, .string x.text] := HX3.out _ HB6.out;clear hown hg hat7 HOa HB5 hS5;refine hK.out _ _ ?_ (fun hHeld => ?_)
       ·(try dsimp only); (first | exact hS8 | exact hS7 | exact hS6 | exact hS5 | exact hS4 | exact hS0)
       clear hK K;try simp only [Act.put, pS]
       refine wpAnyH_ready (rs := [7]) (by kernel_rfl) (by simp) ?_;refine AllReadyH.cons (o := ⟨some 51, .call { callee := .builtin .append, args := #[.tmp 48, .tmp 50], argTypes := #[36, 36] }, 36, "ref.go:205", #[⟨4, .data⟩, ⟨6, .data⟩, ⟨4, .chain⟩], none⟩) rfl (fun K hK => ?_) AllReadyH.nil;refine step_appR (by rfl) (.tmp 48) (.tmp 50) 36 (by rfl) w3.heap.size 58 7 64 (noteV nt0) info_note rfl (by omega) Tryz.underlying36 (by rfl) HOb.out (some ⟨w3.heap.size, 0, none⟩) 1 1 (by rfl) (HIT2.out.reads rfl) (one_note x) (by rw [List.length_take, HML.out]; omega) (by rw [List.length_take, HML.out]; omega) HB6.out.size ?_;intro vc w7 hown hg hat7
       have HOc : Hid (OwnR encN 7 58 w7 w3.heap.size vc (acc.take at_ ++ [x])) := by
        show World.ownsRow _ _ _ _ _ _ _;have h9 := hown;rw [List.length_append, List.flatMap_append]; simpa [encN] using h9
       have HB7 : Hid (Below w3.heap.size w3 w7) := below_app HB6.out HOb.out hg (Nat.le_refl _) HB6.out.size;have hS7 : w7.rangeAt w0.heap.size 0 [.int .i64 x.nid, .int .i64 x.tier, .int .i64 x.parent, .int .i64 x.at1, .int .i64 x.at2, .int .i64 x.rank, .string x.text] := HX3.out _ HB7.out;clear hown hg hat7 HOb HB6 hS6;refine hK.out _ _ ?_ (fun hHeld => ?_)
       ·(try dsimp only); (first | exact hS8 | exact hS7 | exact hS6 | exact hS5 | exact hS4 | exact hS0)
       clear hK K;try simp only [Act.put, pS]
       refine wpAnyH_ready (rs := [11]) (by kernel_rfl) (by simp) ?_;refine AllReadyH.cons (o := ⟨some 55, .call { callee := .builtin .append, args := #[.tmp 51, .tmp 54], argTypes := #[36, 36] }, 36, "ref.go:205", #[⟨7, .data⟩, ⟨10, .data⟩, ⟨7, .chain⟩], none⟩) rfl (fun K hK => ?_) AllReadyH.nil;refine step_appR (by rfl) (.tmp 51) (.tmp 54) 36 (by rfl) w3.heap.size 58 7 64 (noteV nt0) info_note rfl (by omega) Tryz.underlying36 (by rfl) HOc.out (if c = at_ then A else Option.map (fun x => x.add (at_ * 7)) A) (m - at_) (c - at_) (by rfl) (HR2.out _ HB7.out) (one_notes _) (by rw [List.length_append, List.length_take, HML.out, List.length_singleton]; omega) (by rw [List.length_append, List.length_take, HML.out, List.length_singleton]; omega) HB7.out.size ?_;intro vd w8 hown hg hat7
       have HOd : Hid (OwnR encN 7 58 w8 w3.heap.size vd (acc.take at_ ++ [x] ++ acc.drop at_)) := by
        show World.ownsRow _ _ _ _ _ _ _;have h9 := hown;rw [List.length_append, List.length_drop, HML.out, List.flatMap_append]; exact h9
       have HB8 : Hid (Below w3.heap.size w3 w8) := below_app HB7.out HOc.out hg (Nat.le_refl _) HB7.out.size;have hS8 : w8.rangeAt w0.heap.size 0 [.int .i64 x.nid, .int .i64 x.tier, .int .i64 x.parent, .int .i64 x.at1, .int .i64 x.at2, .int .i64 x.rank, .string x.text] := HX3.out _ HB8.out;clear hown hg hat7 HOc HB7 hS7;refine hK.out _ _ ?_ (fun hHeld => ?_)
       ·(try dsimp only); (first | exact hS8 | exact hS7 | exact hS6 | exact hS5 | exact hS4 | exact hS0)
       clear hK K;try simp only [Act.put, pS]
       refine wpAnyH_ready (rs := [12]) (by kernel_rfl) (by simp) ?_;refine AllReadyH.cons (o := ⟨some 5, .assign (.tmp 55), 36, "ref.go:205", #[⟨11, .data⟩, ⟨11, .chain⟩, ⟨0, .phase⟩, ⟨1, .phase⟩, ⟨2, .phase⟩, ⟨3, .phase⟩, ⟨4, .phase⟩, ⟨5, .phase⟩, ⟨6, .phase⟩, ⟨7, .phase⟩, ⟨8, .phase⟩, ⟨9, .phase⟩, ⟨10, .phase⟩, ⟨11, .phase⟩], none⟩) rfl (fun K hK => ?_) AllReadyH.nil;go_simp;refine hK.out _ _ ?_ (fun hHeld => ?_)
       ·(try dsimp only); (first | exact hS8 | exact hS7 | exact hS6 | exact hS5 | exact hS4 | exact hS0)
       clear hK K;try simp only [Act.put, pS]
       refine wpAnyH_done (by kernel_rfl) ?_ _;refine NoPanic.normal ?_
       have HO9 : Hid (OwnR encN 7 58 w8 (w.heap.size + 1) vd (ofK T l tier (i + 1))) := by
        show OwnR _ _ _ _ _ _ _;rw [HINS.out];have h9 := own_base HOd.out (show w.heap.size + 1 <= w3.heap.size by omega);rw [show acc.take at_ ++ x :: acc.drop at_ = acc.take at_ ++ [x] ++ acc.drop at_ by simp];exact h9
       have HB9 : Hid (Below (w.heap.size + 1) W0 w8) := HB12.out.trans ((HBX.out.trans (HB8.out.mono HBX.out.size)).mono (by omega));clear HOd HB8 hS8 hS0;go_wp2;go_roundw
       case rel => exact ⟨i + 1, HI.out, by go_num, HO9, HB9⟩
       case measure => have := HI.out; simp [intOf]; omega
   ·have hbt : (x.tier != tier) = true := bne_iff_ne.2 ht0;have HO2 : Hid (OwnR encN 7 58 W1 (w.heap.size + 1) u5 (ofK T l tier (i + 1))) := by rw [HNX.out, if_neg ht0]; exact HO1.out
    clear ht0 HNX HO1;go_wp2;go_roundw
    case rel => exact ⟨i + 1, HI.out, by go_num, HO2, HB12⟩
    case measure => have := HI.out; simp [intOf]; omega
  ·obtain rfl : nn = i := by omega
   have hiz : ¬ (nn : Int) < (nn : Int) := by omega
   have hml : (ofK T l tier nn).length <= nn := by
    have h1 := (ofK_perm (T := T) (tier := tier) nn (by rw [HLN.out]; omega)).length_eq;have h2 := List.length_filter_le (fun x : Nt => decide (x.tier = tier)) (l.take nn);rw [List.length_take] at h2;omega
   obtain ⟨acc, hacc⟩ : ∃ acc, ofK T l tier nn = acc := ⟨_, rfl⟩;have HACC : Hid (ofK T l tier l.length = acc) := by show _ = _; rw [HLN.out, hacc]
   rw [hacc] at HO hml;clear hacc;obtain ⟨A, c, rfl, hmc, hc63, hrd⟩ := OwnR.form HO.out;have HNR : Hid (NotesR w0 w0.heap.size A acc.length acc) := hrd;obtain ⟨m, hm⟩ : ∃ m, acc.length = m := ⟨_, rfl⟩;have HML := hI hm;rw [hm] at HNR hml hmc |-;clear hrd hm HO HC0 HL HB;go_upto_region 12 with fail
   obtain ⟨W3, hW3⟩ : ∃ W3, (w0.alloc (.cells #[] 3)) = W3 := ⟨_, rfl⟩;have HB3 : Hid (Below w0.heap.size w0 W3) := by rw [<- hW3]; exact bR.alloc (Nat.le_refl _) _
   have hz3 : W3.heap.size = w0.heap.size + 1 := by rw [<- hW3]; simp
   have HOI : Hid (OwnI W3 w0.heap.size (.slice (some ⟨w0.heap.size, 0, none⟩) 0 0) []) := by rw [<- hW3]; exact int_made w0 w0.heap.size (Nat.le_refl _)
   (try rw [hW3])
   clear hW3 k6;go_wp2_with fail
   go_loopw [9, 10] (fun v9 v10 wr => ∃ j : Nat, j <= m /\ v10 = .int .i64 j /\ Hid (OwnI wr w0.heap.size v9 ((acc.take j).map Nt.nid)) /\ Hid (Below w0.heap.size w0 wr)) (fun _ v10 _ => m - (intOf v10).toNat)
   case atStart => exact ⟨0, Nat.zero_le _, rfl, (by rw [List.take_zero]; exact HOI.out), HB3.out⟩
   case round =>
    clear HOI HB3 hz3;obtain ⟨j, hj, rfl, HO, HB4⟩ := hrel;obtain ⟨w4, hw4⟩ : ∃ w4, wr = w4 := ⟨_, rfl⟩;rw [hw4] at HO HB4 |-;clear hw4;by_cases hjm : j < m
    ·have hjz : (j : Int) < (m : Int) := by omega
     have hjA : (0 : Int) <= (j : Int) := by omega
     obtain ⟨ad, y, rfl, hab, hy, hcells⟩ := HNR.out.at_ hjm;obtain ⟨q0, q1, q2, q3, q4, q5, q6⟩ := hcells w4 HB4.out;have HJ := hI hjm;have HNX : Hid ((acc.take (j + 1)).map Nt.nid = (acc.take j).map Nt.nid ++ [y.nid]) := by show _ = _; rw [take_at2 hy, List.map_append]; rfl
     have hsz := HB4.out.size;have hlls : ((acc.take j).map Nt.nid).length <= j := by rw [List.length_map, List.length_take]; omega
     obtain ⟨ll, hlq⟩ : ∃ ll, (acc.take j).map Nt.nid = ll := ⟨_, rfl⟩;rw [hlq] at HO HNX hlls;have hj1 : j + 1 <= m := hjm;clear hy hcells hlq;have HO1 : Hid (World.ownsRow w4 w0.heap.size 3 1 u9 ll.length (intV ll)) := HO.out;go_wp2_with (at_builtin; refine wpList_app1 rfl (.tmp 63) (.tmp 69) 32 rfl w0.heap.size 3 8 (.int .i64 0) info_int rfl Tryz.underlying32 rfl HO1.out rfl rfl (by omega) (by omega) (by omega) ?_; rintro v7' w5 hown7 hb7 _ _)
     have HO3 : Hid (OwnI w5 w0.heap.size v7' ((acc.take (j + 1)).map Nt.nid)) := by
      show OwnI _ _ _ _;rw [HNX.out];exact own_i hown7
     have HB5 : Hid (Below w0.heap.size w0 w5) := HB4.out.trans hb7;clear HNX hown7 hb7 HO HO1;go_wp2;go_roundw
     case rel => exact ⟨j + 1, hj1, by go_num, HO3, HB5⟩
     case measure => have := HJ.out; simp [intOf]; omega
    ·obtain rfl : m = j := by omega
     have hjz : ¬ (m : Int) < (m : Int) := by omega
     have HF : Hid (OwnI w4 w0.heap.size u9 (acc.map Nt.nid)) := by
      have h := HO.out;rw [List.take_of_length_le (by rw [HML.out]; exact Nat.le_refl _)] at h;exact h
     go_wp2;go_ret;exact ⟨_, rfl, by rw [HACC.out]; exact own_base HF.out (by omega), HBW.out.trans (HB4.out.mono (by omega))⟩
end
section
open Go Go.RowKit
variable {P : Program} {ops : Array Oper} {Q : Exit → Act → World → Prop}
theorem slot_put_other {a : Act} {o oj : Oper} {i j : Nat} {v : Value} (hdist : distB ops = true) (hij : i ≠ j) (ho : ops[i]? = some o) (hj : ops[j]? = some oj) : slotV oj (a.put o.dst v) = slotV oj a := by
 unfold slotV
 cases hd : o.dst with
 | none => rfl
 | some t =>
  cases hdj : oj.dst with
  | none => rfl
  | some s =>
   have hne : t ≠ s := fun e2 => hij (dist_of hdist i j o oj t ho hj hd (by rw [hdj, e2]))
   show (a.tmps.setIfInBounds t v).getD s undef = a.tmps.getD s undef;rw [Array.getD_eq_getD_getElem?, Array.getD_eq_getD_getElem?, Array.getElem?_setIfInBounds_ne hne]
end
end Go.Proofs.YthcabnfcgjnlnaaGreatDoor
