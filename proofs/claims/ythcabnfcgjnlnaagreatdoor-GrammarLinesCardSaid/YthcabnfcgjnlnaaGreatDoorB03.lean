import Derived.Test.YthcabnfcgjnlnaaGreatDoorB02
import Derived.OrdersIn
import Derived.TacticsIn
import Derived.RangeFuncCalls
import Derived.OrdersHeld
import Derived.Deep.RegionHeld3
set_option linter.unusedVariables false
set_option linter.unusedSimpArgs false
namespace Go.Proofs.YthcabnfcgjnlnaaGreatDoor
section
open Ru
theorem ixs_split : ∀ (pre : List (Nat × Nat)) (o : Nat) (d : List Nat) (x : Nat × Nat) (rest : List (Nat × Nat)), ixs o d = pre ++ x :: rest -> x.1 = o + (encS (pre.map (·.2))).length /\ d = pre.map (·.2) ++ x.2 :: rest.map (·.2)
 | [], o, [], x, rest, h => by simp [ixs] at h
 | [], o, p :: t, x, rest, h => by
  simp only [ixs, List.nil_append, List.cons.injEq] at h;obtain ⟨rfl, h2⟩ := h;refine ⟨by simp [encS_nil], ?_⟩;rw [<- h2];simp [ixs_snd]
 | y :: pre, o, [], x, rest, h => by simp [ixs] at h
 | y :: pre, o, p :: t, x, rest, h => by
  simp only [ixs, List.cons_append, List.cons.injEq] at h;obtain ⟨rfl, h2⟩ := h;obtain ⟨h3, h4⟩ := ixs_split pre _ t x rest h2;refine ⟨by rw [h3, List.map_cons, encS_cons, List.length_append]; dsimp only; omega, by rw [List.map_cons, List.cons_append, <- h4]⟩
theorem encS_pos {l : List Nat} (h : l ≠ []) : 0 < (encS l).length := by
 cases l with
 | nil => exact absurd rfl h
 | cons p t =>
  rw [encS_cons, List.length_append];have := (encL_len (p : Int)).1;omega
theorem clus_len (d : List Nat) : (clus d).length <= d.length :=
 seg_ind (P := fun l => (clus l).length <= l.length) (Nat.le_refl _) (fun p ms rest hm hr ih => by
  rw [clus_seg p ms rest hm hr, List.length_cons, List.length_append, List.length_cons];omega) d
def RelP (d : List Nat) (pre : List (Nat × Nat)) (done : List (List Nat)) (c : List Nat) (f : Nat) : Prop :=
 ∃ rest, d = (done.flatten ++ c) ++ rest /\ pre.map (·.2) = done.flatten ++ c /\ f = (encS done.flatten).length /\ ((pre = [] /\ done = [] /\ c = []) ∨ (c ≠ [] /\ clus d = done ++ cluGo c rest))
theorem RelP.start (d : List Nat) : RelP d [] [] [] 0 := ⟨d, rfl, rfl, rfl, .inl ⟨rfl, rfl, rfl⟩⟩
theorem RelP.next {d : List Nat} {pre : List (Nat × Nat)} {done : List (List Nat)} {c : List Nat} {f : Nat} {x : Nat × Nat} (h : RelP d pre done c f) (hn : Nxt d pre x) :
  x.1 = f + (encS c).length /\ ∃ t, d = (done.flatten ++ c) ++ x.2 :: t /\ (c ≠ [] -> clus d = done ++ cluGo c (x.2 :: t)) /\ pre.map (·.2) = done.flatten ++ c /\ f = (encS done.flatten).length /\ (pre = [] -> done = [] /\ c = []) /\ (pre ≠ [] -> c ≠ []) := by
 obtain ⟨rest, h1, h2, h3, h4⟩ := h;obtain ⟨rest', hr⟩ := hn;obtain ⟨i1, i2⟩ := ixs_split pre 0 d x rest' hr;rw [h2] at i1 i2;have e : rest = x.2 :: rest'.map (·.2) := List.append_cancel_left (h1.symm.trans i2);subst e;refine ⟨by rw [i1, encS_app, List.length_append, h3]; omega, _, i2, fun hc => ?_, h2, h3, fun hp => ?_, fun hp => ?_⟩
 ·rcases h4 with ⟨_, _, h5⟩ | ⟨_, h5⟩
  ·exact absurd h5 hc
  ·exact h5
 ·rcases h4 with ⟨_, h5, h6⟩ | ⟨h5, _⟩
  ·exact ⟨h5, h6⟩
  ·rw [hp] at h2;have h7 := congrArg List.length h2;rw [List.length_append] at h7;simp only [List.map_nil, List.length_nil] at h7;exact absurd (List.eq_nil_of_length_eq_zero (by omega)) h5
 ·rcases h4 with ⟨h5, _⟩ | ⟨h5, _⟩
  ·exact absurd h5 hp
  ·exact h5
theorem RelP.first {d : List Nat} {done : List (List Nat)} {c : List Nat} {f : Nat} {x : Nat × Nat} (h : RelP d [] done c f) (hn : Nxt d [] x) : x.1 = 0 /\ f = 0 /\ done = [] /\ RelP d ([] ++ [x]) [] [x.2] 0 := by
 obtain ⟨h1, t, h2, _, h4, h5, h6, _⟩ := h.next hn;obtain ⟨rfl, rfl⟩ := h6 rfl;have hf : f = 0 := by rw [h5]; rfl
 refine ⟨by rw [h1, hf]; rfl, hf, rfl, t, by simpa using h2, by simp, rfl, .inr ⟨by simp, ?_⟩⟩;have e : d = x.2 :: t := by simpa using h2
 rw [e];rfl
theorem RelP.mark {d : List Nat} {pre : List (Nat × Nat)} {done : List (List Nat)} {c : List Nat} {f : Nat} {x : Nat × Nat} (h : RelP d pre done c f) (hn : Nxt d pre x) (hp : pre ≠ []) (hm : mk x.2 = true) : RelP d (pre ++ [x]) done (c ++ [x.2]) f := by
 obtain ⟨h1, t, h2, h3, h4, h5, _, h7⟩ := h.next hn;refine ⟨t, by rw [h2]; simp, by rw [List.map_append, h4]; simp, h5, .inr ⟨by simp, ?_⟩⟩;rw [h3 (h7 hp)];show done ++ (if mk x.2 = true then cluGo (c ++ [x.2]) t else _) = _;rw [if_pos hm]
theorem RelP.base {d : List Nat} {pre : List (Nat × Nat)} {done : List (List Nat)} {c : List Nat} {f : Nat} {x : Nat × Nat} (h : RelP d pre done c f) (hn : Nxt d pre x) (hp : pre ≠ []) (hm : mk x.2 = false) : RelP d (pre ++ [x]) (done ++ [c]) [x.2] x.1 := by
 obtain ⟨h1, t, h2, h3, h4, h5, _, h7⟩ := h.next hn;refine ⟨t, by rw [h2]; simp, by rw [List.map_append, h4]; simp, ?_, .inr ⟨by simp, ?_⟩⟩
 ·rw [h1, h5, List.flatten_append, encS_app, List.length_append];simp
 ·rw [h3 (h7 hp)];show done ++ (if mk x.2 = true then _ else c :: cluGo [x.2] t) = _;rw [hm, if_neg (by simp)];simp
theorem RelP.slice {s : ByteArray} {d : List Nat} {pre : List (Nat × Nat)} {done : List (List Nat)} {c : List Nat} {f : Nat} {x : Nat × Nat} (hs : encS d = s.data.toList) (h : RelP d pre done c f) (hn : Nxt d pre x) (hp : pre ≠ []) :
    s.extract f x.1 = strC c /\ f <= x.1 /\ x.1 <= s.size /\ 0 < x.1 /\ done.length + 1 <= d.length := by
  obtain ⟨h1, t, h2, h3, h4, h5, _, h7⟩ := h.next hn;have hc := h7 hp;have e1 : s.data.toList = encS done.flatten ++ (encS c ++ encS (x.2 :: t)) := by rw [<- hs, h2, encS_app, encS_app, List.append_assoc]
  have e2 : s.size = f + (encS c).length + (encS (x.2 :: t)).length := by rw [Lib.size_eq, e1, List.length_append, List.length_append, h5]; omega
  have hcp := encS_pos hc;refine ⟨strL_of ?_, by omega, by omega, by omega, ?_⟩
  · rw [Lib.extract_data, e1, h5, List.drop_left, h1, h5, Nat.add_sub_cancel_left, List.take_left]
  · have h8 := clus_len d
    rw [h3 hc] at h8
    have h9 : 1 <= (cluGo c (x.2 :: t)).length := by
      unfold cluGo;split
      · have : ∀ (r : List Nat) (q : List Nat), 1 <= (cluGo q r).length := by
          intro r;induction r with
          | nil => intro q; simp [cluGo]
          | cons a r ih =>
            intro q;unfold cluGo;split
            · exact ih _
            · simp
        exact this _ _
      · simp
    rw [List.length_append] at h8;omega
theorem RelP.fin {s : ByteArray} {d : List Nat} {done : List (List Nat)} {c : List Nat} {f : Nat} (hs : encS d = s.data.toList) (h : RelP d (ixs 0 d) done c f) :
  (s.size = 0 /\ f = 0 /\ done = [] /\ clus d = []) ∨ (f < s.size /\ s.extract f s.size = strC c /\ clus d = done ++ [c] /\ done.length + 1 <= d.length) := by
 obtain ⟨rest, h1, h2, h3, h4⟩ := h;rw [ixs_snd] at h2
 have hr : rest = [] := by
  have := h1;rw [<- h2] at this;have h5 := congrArg List.length this;rw [List.length_append] at h5;exact List.eq_nil_of_length_eq_zero (by omega)
 subst hr;rcases h4 with ⟨h5, rfl, rfl⟩ | ⟨hc, h6⟩
 ·left
  have hd : d = [] := by simpa using h2
  subst hd;refine ⟨by rw [Lib.size_eq, <- hs]; rfl, by rw [h3]; rfl, rfl, rfl⟩
 ·right
  have e1 : s.data.toList = encS done.flatten ++ encS c := by rw [<- hs, h2, encS_app]
  have e2 : s.size = f + (encS c).length := by rw [Lib.size_eq, e1, List.length_append, h3]
  have hcp := encS_pos hc;refine ⟨by omega, strL_of ?_, h6, ?_⟩
  ·rw [Lib.extract_data, e1, h3, List.drop_left, List.take_of_length_le];omega
  ·have h8 := clus_len d;have h6' : clus d = done ++ [c] := h6;rw [h6', List.length_append] at h8;simpa using h8
end
section
open Go
variable {P : Program} {ops : Array Oper} {Q : Exit → Act → World → Prop}
theorem operIn_of {l n : Nat} {o : Oper} {a : Act} {w : World} {K : Act -> World -> Prop} (hd : ∀ c, o.op ≠ .defer c) (h : o.wp P a w K Q) : o.wpIn (Fence.wide.inRound l) n P a w K Q := by
 refine ⟨fun _ _ => trivial, ?_⟩;have e : o.semAt (Fence.wide.inRound l).round a.eval = execOp a.eval o := Oper.semAt_some l a.eval o hd;rw [e];unfold Oper.wp at h;generalize (execOp a.eval o).run P w = r at h |-
 cases r with
 | ok x w' =>
  cases x with
  | value v => exact h
  | skip => exact h
  | defer d => exact h
  | enter f args =>
   refine ⟨fun hh => ?_, CallsIn.inRound l (callsIn_wide.2 h)⟩
   cases hh
  | row row args =>
   refine ⟨fun hh => ?_, fun c cs _ => ?_⟩
   ·cases hh
   ·obtain ⟨v, w2, h1, h2⟩ := h c cs;exact ⟨v, w2, h1, stepsIn_wide.2 h2⟩
  | _ => exact h.elim
 | halt x w' =>
  cases x with
  | panic v => exact h
  | _ => exact h.elim
theorem wpAnyIn_of {l n : Nat} (hd : ∀ (i : Nat) (o : Oper) c, ops[i]? = some o -> o.op ≠ .defer c) (hQ : ¬ LetsOut Q) : ∀ (fuel : Nat) (listed : Array Bool) (a : Act) (w : World),
  wpAny P .any ops Q fuel listed a w -> wpAnyIn (Fence.wide.inRound l) n P .any ops Q fuel listed a w
 | 0, _, _, _, h => h
 | fuel + 1, listed, a, w, h => by
  refine ⟨h.1, fun i hi => ?_⟩;have h2 := h.2 i hi;unfold wpOp at h2;unfold wpOpIn
  cases ho : ops[i]? with
  | none =>
   rw [ho] at h2;exact wpAnyIn_of hd hQ fuel _ a w h2
  | some o =>
   rw [ho] at h2;simp only at h2 |-;split
   ·rename_i hw
    rw [if_pos hw] at h2;rcases h2 with h2 | h2
    ·exact operIn_of (fun c => hd i o c ho) (Oper.wp_mono (fun a' w' h' => wpAnyIn_of hd hQ fuel _ a' w' h') h2)
    ·exact absurd h2.2 hQ
   ·rename_i hw
    rw [if_neg hw] at h2;exact ⟨fun _ _ => trivial, wpAnyIn_of hd hQ fuel _ _ w h2⟩
theorem wpIn_region_held {l n id : Nat} {a : Act} {w : World} (S : World -> Prop) (hm : P.follows .mixedOrders = true) (hd : (ops.all fun o => match o.op with | .defer _ => false | _ => true) = true) (hQ : ¬ LetsOut Q)
  (h : wpAnyH P .any ops Q S ops.size (Array.replicate ops.size false) a w.drew) : (Code.region id ops true).wpIn (Fence.wide.inRound l) n P Q a w := by
 refine wpIn_region_any hm (wpAnyIn_of ?_ hQ _ _ _ _ (wpAny_of_held _ _ _ _ h));intro i o c ho e;have hi := (Array.getElem?_eq_some_iff.1 ho).1;have := Array.all_eq_true.1 hd i hi;rw [(Array.getElem?_eq_some_iff.1 ho).2, e] at this
 cases this
theorem wpIn_region_calm {l n id : Nat} {a : Act} {w : World} (S : World -> Prop) (hm : P.follows .mixedOrders = true) (hd : (ops.all fun o => match o.op with | .defer _ => false | _ => true) = true) (hQ : ∀ a w, ¬ Q .outgrown a w)
  (h : wpAnyH P .any ops (NoPanic Q) S ops.size (Array.replicate ops.size false) a w.drew) : (Code.region id ops true).wpIn (Fence.wide.inRound l) n P Q a w :=
 Go.wpIn_mono (wpIn_region_held (Q := NoPanic Q) S hm hd (by rintro ⟨a1, w1, h1⟩; exact hQ a1 w1 h1) h) NoPanic.imp
end
section
open Go.RowKit Go.Shelf Ru
attribute [local go_sem] Oper.semAt_some
def CluI (w1 : World) (B : Nat) (d : List Nat) (pre : List (Nat × Nat)) (W : World) : Prop :=
 ∃ (v : Value) (done : List (List Nat)) (c : List Nat) (f : Nat), Boxed W B 45 v /\ W.ownsRow B 9 1 v done.length (strV done) /\ Boxed W (B + 1) 3 (.int .i64 (f : Int)) /\ RelP d pre done c f /\ Below B w1 W
theorem cluI_own (w1 : World) (B n : Nat) (d : List Nat) (hn : B <= n) : OwnFrom n (CluI w1 B d) := by
 rintro pre X Y row ⟨v, done, c, f, h1, h2, h3, h4, h5⟩ hg hrow
 have hx : ∀ {k : Nat} {t : TypeId} {u : Value}, Boxed X k t u -> some k ≠ row := by
  intro k t u hv e';obtain ⟨_, o, ho, hc⟩ := hrow k e'.symm;rw [show X.heap[k]? = _ from hv] at ho; cases ho; cases hc
 refine ⟨v, done, c, f, h1.kept hg (hx h1), h2.kept hg ?_, h3.kept hg (hx h3), h4, h5.grown hg ?_ fun r e => ?_⟩
 ·rcases h2.2 with ⟨rfl, _⟩ | ⟨g, cap, cur, rfl, _, hgb, _⟩
  ·exact .inl rfl
  ·refine .inr fun e' => ?_
   obtain ⟨_, o, ho, hc⟩ := hrow g (by simpa [Value.ownBlock] using e'.symm);rw [hgb] at ho; cases ho; cases hc
 ·have := h1.lt;omega
 ·exact Nat.le_trans hn (hrow r e).1
theorem cell_new1 {w w1 : World} {v : Value} {t : TypeId} (hb1 : Below (w.alloc (.cells #[v] t)).heap.size (w.alloc (.cells #[v] t)) w1) : w1.cell? ⟨w.heap.size, 0, none⟩ = some v := by
 rw [hb1.cell (by simp), World.cell?_alloc_at _ _ _ _ rfl];rfl
theorem size_new1 {w w1 : World} {v : Value} {t : TypeId} (hb1 : Below (w.alloc (.cells #[v] t)).heap.size (w.alloc (.cells #[v] t)) w1) : w.heap.size + 1 <= w1.heap.size := by
 have := hb1.size;simpa using this
theorem cell_new2 {w w1 : World} {v : Value} {t : TypeId} (hb1 : Below (w.alloc (.cells #[v] t)).heap.size (w.alloc (.cells #[v] t)) w1) (o p : Obj) : ((w1.alloc o).alloc p).cell? ⟨w.heap.size, 0, none⟩ = some v := by
 have := size_new1 hb1;rw [World.cell?_alloc_lt _ _ _ (by simp; omega), World.cell?_alloc_lt _ _ _ (by show w.heap.size < w1.heap.size; omega)];exact cell_new1 hb1
theorem below_new1 {w w1 : World} {v : Value} {t : TypeId} (hb1 : Below (w.alloc (.cells #[v] t)).heap.size (w.alloc (.cells #[v] t)) w1) : Below w.heap.size w w1 := (below_new w _).trans (hb1.mono (by simp))
set_option maxRecDepth 100000 in
set_option maxHeartbeats 4000000 in
theorem clusters_any (s : ByteArray) (w : World) (hs : s.size <= 1099511627) (hT : Tabs w) :
  Calls Tryz.prog 120 #[.string s] w fun e w' => ∃ v, e = .returned v /\ w'.ownsRow w.heap.size 9 1 v (clusB s.data.toList).length ((clusB s.data.toList).map .string) /\ Below w.heap.size w w' := by
 have HV := hI fun W (hW : Below w.heap.size w W) => valid_any s W (by omega) (hT.on hW)
 obtain ⟨o, ho⟩ : ∃ o, Hid (points s.data.toList = o) := ⟨_, rfl⟩;rw [ho.out] at HV
 cases o with
 | none =>
  have HRES : Hid (clusB s.data.toList = []) := by
   show _ = _;unfold clusB;rw [ho.out]
  rw [HRES.out];go_enter Tryz.func120, Tryz.ntmps120
  go_wp2_with fail
  refine (HV.out _ (below_new _ _)).mono ?_;rintro e w1 ⟨rfl, hb1⟩;go_wp2;go_ret;exact ⟨_, rfl, World.ownsRow_nil _ _ _ _, (below_new w _).trans (hb1.mono (by simp))⟩
 | some d =>
  have HRES : Hid (clusB s.data.toList = (clus d).map strC) := by
   show _ = _;unfold clusB;rw [ho.out]
  have HE : Hid (encS d = s.data.toList) := encS_points ho.out
  have hdl : d.length <= 1099511627 := by
   have := points_length _ _ _ (Nat.le_refl _) ho.out;rw [<- Lib.size_eq] at this;omega
  rw [HRES.out];refine (callsIn_wide (n := 4)).1 ?_;refine callsIn_of_wp_marks Tryz.func120 rfl trivial ?_ rfl;simp only [Tryz.ntmps120, List.size_toArray, List.length_cons, List.length_nil, Nat.reduceAdd, Nat.reduceSub, Array.replicate_succ, Array.replicate_zero, List.push_toArray, List.append_toArray, List.nil_append, List.cons_append]
  gi_wp2_with (first
   | (refine ⟨trivial, ?_⟩; gi_at_call 137; refine (callsIn_wide.2 (scalars_any s _)).mono ?_; rintro e w2 ⟨rfl, rfl⟩)
   | (refine ⟨trivial, ?_⟩; gi_at_call 136; refine (callsIn_wide.2 (HV.out _ (below_new _ _))).mono ?_; rintro e w1 ⟨rfl, hb1⟩; have hbs := cell_new1 hb1; have hbs2 := cell_new2 hb1 (.cells #[.slice none 0 0] 45) (.cells #[.int .i64 0] 3); have hsz1 := size_new1 hb1))
  have hb1' := below_new1 hb1;have hbox0 := (Boxed.new w1 45 (.slice none 0 0)).alloc (.cells #[.int .i64 0] 3);have hbox1 := Boxed.new (w1.alloc (.cells #[.slice none 0 0] 45)) 3 (.int .i64 0);rw [World.size_alloc] at hbox1;have hbox0 := hbox0.alloc (.cells #[.string s] 9);have hbox1 := hbox1.alloc (.cells #[.string s] 9)
  have hcs : (((w1.alloc (.cells #[.slice none 0 0] 45)).alloc (.cells #[.int .i64 0] 3)).alloc (.cells #[.string s] 9)).cell? ⟨w1.heap.size + 1 + 1, 0, none⟩ = some (.string s) := by
   rw [World.cell?_alloc_at _ _ _ _ (by simp)];rfl
  have hb2 : Below w1.heap.size w1 (((w1.alloc (.cells #[.slice none 0 0] 45)).alloc (.cells #[.int .i64 0] 3)).alloc (.cells #[.string s] 9)) := ((bR.alloc (Nat.le_refl _) _).alloc (by simp) _).alloc (by simp; omega) _;have hz2 : (((w1.alloc (.cells #[.slice none 0 0] 45)).alloc (.cells #[.int .i64 0] 3)).alloc (.cells #[.string s] 9)).heap.size = w1.heap.size + 3 := by simp
  obtain ⟨W2, hW2⟩ : ∃ W2, W2 = (((w1.alloc (.cells #[.slice none 0 0] 45)).alloc (.cells #[.int .i64 0] 3)).alloc (.cells #[.string s] 9)) := ⟨_, rfl⟩;rw [<- hW2] at hbox0 hbox1 hcs hb2 hz2 |-;clear hW2 hbs2 hb1;obtain ⟨B, hB⟩ : ∃ B, w1.heap.size = B := ⟨_, rfl⟩;rw [hB] at hbox0 hbox1 hcs hb2 hz2 hsz1 |-;obtain ⟨p0, hp0⟩ : ∃ p0, w.heap.size = p0 := ⟨_, rfl⟩;have HB1 : Hid (Below w.heap.size w w1) := hb1';have HP0 := hI hp0;have HBz := hI hB;rw [hp0] at hbs hsz1;simp only [hp0];clear hb1' hp0 hB
  refine wpIn_range_next rfl (by omega) (gf := 155) (lb := #[.pointer (some ⟨B + 1 + 1, 0, none⟩)]) rfl trivial (enters_of Tryz.func155 (by kernel_rfl) rfl)
   (scalars_next Fence.wide _ trivial rfl (by omega) (B + 1 + 1) s d (by omega) ho.out W2 (by omega) hcs) bR (fun _ => rfl)
   (CluI w1 B d) (cluI_own w1 B _ d (by omega)) ⟨_, [], [], 0, hbox0, World.ownsRow_nil _ _ _ _, hbox1, RelP.start d, hb2⟩
   (fun x => { tmps := #[.string s, .pointer (some ⟨p0, 0, none⟩), .slice none 0 0, .pointer (some ⟨B, 0, none⟩), .pointer (some ⟨B + 1, 0, none⟩), .int .i64 (x.1 : Int), .int .i64 (x.2 : Int), .string s, .bool true, .bool false, .string s, .func (.func 155) #[] #[.pointer (some ⟨B + 1 + 1, 0, none⟩)], .int .i64 (x.1 : Int), .int .i64 (x.2 : Int), undef, undef, undef, undef, undef, undef, undef, undef, undef, undef, undef, undef, undef, undef, undef, undef, undef, undef, undef, undef, undef, undef, undef, undef, undef, undef], defers := [] })
   ?assign ?body ?done
  case assign =>
   intro l x W K hK;unfold encX;gi_wp2
   exact hK
  case body =>
   rintro l pre x W ⟨v, done, c, f, hbx, hrow, hbf, hrel, hbw⟩ hnx;by_cases hp : pre = []
   ·subst hp;obtain ⟨hx0, hf0, rfl, hrel2⟩ := hrel.first hnx;have hd0 : decide ((0 : Int) < (x.1 : Int)) = false := decide_eq_false (by omega);subst hf0;have hni : ¬ (0 : Int) < (x.1 : Int) := by omega
    gi_wp2_with (first | (exfalso; omega) | refine ⟨trivial, ?_⟩)
    exact ⟨KeepsOthers.refl _, KeepsWalks.refl _, v, [], [x.2], 0, hbx, hrow, hbf, hrel2, hbw⟩
   ·obtain ⟨hx1, hx2, hx3, hx4, hx5⟩ := hrel.slice HE.out hnx hp;have hd0 : decide ((0 : Int) < (x.1 : Int)) = true := decide_eq_true (by omega);obtain ⟨mp, hmp⟩ : ∃ b, Hid (mk x.2 = b) := ⟨_, rfl⟩;have HMK : Hid (∀ W, Calls Tryz.prog 138 #[.int .i64 (x.2 : Int)] W fun e w' => e = .returned (.bool mp) /\ W = w') := fun W => mono_eq (mark_any x.2 W) (by rw [<- hmp.out]; rfl)
    cases mp with
    | true =>
     have hrel2 := hrel.mark hnx hp hmp.out;have HREL2 := hI hrel2;clear hrel2 hrel;gi_wp2_with (refine ⟨trivial, ?_⟩; gi_at_call 138; refine (CallsIn.inRound _ (callsIn_wide.2 (HMK.out _))).mono ?_; rintro e w2 ⟨rfl, rfl⟩)
     exact ⟨KeepsOthers.refl _, KeepsWalks.refl _, v, done, c ++ [x.2], f, hbx, hrow, hbf, HREL2.out, hbw⟩
    | false =>
     have HREL2 := hI (hrel.base hnx hp hmp.out);clear hrel;gi_wp2_with (refine ⟨trivial, ?_⟩; gi_at_call 138; refine (CallsIn.inRound _ (callsIn_wide.2 (HMK.out _))).mono ?_; rintro e w2 ⟨rfl, rfl⟩)
     have hS0 : Below B w1 W.drew /\ Boxed W.drew (B + 1) 3 (.int .i64 (f : Int)) := ⟨hbw.drew, hbf⟩;have hbx0 : Boxed W.drew B 45 v := hbx;have hrow0 : W.drew.ownsRow B 9 1 v done.length (strV done) := hrow;have hko : KeepsOthers W W.drew := ⟨Nat.le_refl _, fun _ _ h _ => h⟩;have hkw : KeepsWalks W W.drew := ⟨Nat.le_refl _, fun _ _ h _ => h⟩;refine wpIn_region_calm (fun W => Below B w1 W /\ Boxed W (B + 1) 3 (.int .i64 (f : Int))) (by kernel_rfl) (by kernel_rfl) (fun _ _ h => h) ?_;have hcx0 := hbx0.cell;have hszw : B <= W.drew.heap.size := Nat.le_of_lt hbx0.lt;obtain ⟨W0, hW0⟩ : ∃ W0, W0 = W.drew := ⟨_, rfl⟩;rw [<- hW0] at hS0 hbx0 hrow0 hko hkw hcx0 hszw |-;clear hW0;have hcxa := (hbx0.alloc (.cells #[.string (strC c)] 9)).cell;have hSa : Below B w1 (W0.alloc (.cells #[.string (strC c)] 9)) /\ Boxed (W0.alloc (.cells #[.string (strC c)] 9)) (B + 1) 3 (.int .i64 (f : Int)) := ⟨hS0.1.trans ((Below.refl B W0).alloc hszw _), hS0.2.alloc _⟩;have hHeld : (fun W => Below B w1 W /\ Boxed W (B + 1) 3 (.int .i64 (f : Int))) W0 := hS0;refine wpAnyH_take (i := 1) (oi := ⟨some 22, .load 9 (.tmp 1), 9, "runes.go:70", #[], none⟩) (v := ?_) rfl (by kernel_rfl) (by kernel_rfl) (by kernel_rfl) (fun _ _ _ h => h) (Or.inl ⟨by rfl, ?_⟩) (by assumption) ?_;rotate_left
     ·(intro w hSw; (try dsimp only at hSw); have hc := (hSw.1.cell (p := ⟨p0, 0, none⟩) (by show p0 < B; omega)).trans hbs; go_simp; try with_reducible rfl)
     rotate_left;try simp only [Act.put, pS]
     refine wpAnyH_take (i := 2) (oi := ⟨some 23, .load 3 (.tmp 4), 3, "runes.go:70", #[], none⟩) (v := ?_) rfl (by kernel_rfl) (by kernel_rfl) (by kernel_rfl) (fun _ _ _ h => h) (Or.inl ⟨by rfl, ?_⟩) (by assumption) ?_;rotate_left
     ·(intro w hSw; (try dsimp only at hSw); have hc := hSw.2.cell; go_simp; try with_reducible rfl)
     rotate_left;try simp only [Act.put, pS]
     refine wpAnyH_take (i := 3) (oi := ⟨some 24, .move (.tmp 5), 3, "runes.go:70", #[], none⟩) (v := ?_) rfl (by kernel_rfl) (by kernel_rfl) (by kernel_rfl) (fun _ _ _ h => h) (Or.inl ⟨by rfl, ?_⟩) (by assumption) ?_;rotate_left
     ·(intro w hSw; (try dsimp only at hSw); go_simp; try with_reducible rfl)
     rotate_left;try simp only [Act.put, pS]
     refine wpAnyH_take (i := 4) (oi := ⟨some 25, .slice 9 (.tmp 22) (some (.tmp 23)) (some (.tmp 24)) none, 9, "runes.go:70", #[⟨1, .data⟩, ⟨2, .data⟩, ⟨3, .data⟩], none⟩) (v := ?_) rfl (by kernel_rfl) (by kernel_rfl) (by kernel_rfl) (fun _ _ _ h => h) (Or.inl ⟨by rfl, ?_⟩) (by assumption) ?_;rotate_left
     ·(intro w hSw; (try dsimp only at hSw); go_simp; try with_reducible rfl)
     rotate_left;try simp only [Act.put, pS]
     refine wpAnyH_ready (rs := [0, 5]) (by kernel_rfl) (by simp) ?_;refine AllReadyH.cons (o := ⟨some 21, .load 45 (.tmp 3), 45, "runes.go:70", #[], none⟩) rfl (fun K hK => ?_) ?_
     ·go_simp;refine hK.out _ _ ?_ (fun hHeld => ?_)
      ·(try dsimp only); (first | exact hS0 | exact hSa | exact hS3 | exact hS7)
      clear hK K;try simp only [Act.put, pS]
      refine wpAnyH_ready (rs := [5]) (by kernel_rfl) (by simp) ?_;refine AllReadyH.cons (o := ⟨some 26, .buildSlice 45 1 #[(0, .tmp 25)], 45, "runes.go:70", #[⟨4, .data⟩], none⟩) rfl (fun K hK => ?_) AllReadyH.nil;go_simp;refine hK.out _ _ ?_ (fun hHeld => ?_)
      ·(try dsimp only); (first | exact hS0 | exact hSa | exact hS3 | exact hS7)
      clear hK K;try simp only [Act.put, pS]
      refine wpAnyH_ready (rs := [6]) (by kernel_rfl) (by simp) ?_;refine AllReadyH.cons (o := ⟨some 27, .call { callee := .builtin .append, args := #[.tmp 21, .tmp 26], argTypes := #[45, 45] }, 45, "runes.go:70", #[⟨0, .data⟩, ⟨5, .data⟩], none⟩) rfl (fun K hK => ?_) AllReadyH.nil;have hrowa := hrow0.alloc (.cells #[.string (strC c)] 9);refine step_app rfl (.tmp 21) (.tmp 26) 45 rfl B 9 16 (.string .empty) info_string rfl Tryz.underlying45 rfl hrowa rfl (reads_one rfl) (by simp [Value.oneCell']) (by omega) (by omega) (by simp; omega) ?_;intro v' w3 hown' hgrow _;obtain ⟨g', cap', rfl⟩ := ownsRow_succ hown';obtain ⟨hv1, hv2, hr2, hk2, hbb2⟩ := hbx0.appended (by decide) hrow0 hszw (Nat.le_refl _) hown' hgrow;have hcx3 := hv1.cell;have hfx3 := hv1.frozen;have hf3 := (hS0.2.alloc (.cells #[.string (strC c)] 9)).kept hgrow ((hS0.2).not_row (by decide) hrow0);have hS3 : Below B w1 w3 /\ Boxed w3 (B + 1) 3 (.int .i64 (f : Int)) := ⟨(hS0.1.trans ((Below.refl B W0).alloc hszw _)).grown hgrow (by simp; omega) fun k hk => (hrow0.lt k hk).1, hf3⟩;have hS7 : Below B w1 (w3.setCell ⟨B, 0, none⟩ (.slice (some ⟨g', 0, none⟩) (done.length + 1) cap')) /\ Boxed (w3.setCell ⟨B, 0, none⟩ (.slice (some ⟨g', 0, none⟩) (done.length + 1) cap')) (B + 1) 3 (.int .i64 (f : Int)) := ⟨hS0.1.trans hbb2, hf3.kept (grownBy_setCell' w3 B _) (by simp)⟩;refine hK.out _ _ ?_ (fun hHeld => ?_)
      ·(try dsimp only); (first | exact hS0 | exact hSa | exact hS3 | exact hS7)
      clear hK K;try simp only [Act.put, pS]
      refine wpAnyH_ready (rs := [7]) (by kernel_rfl) (by simp) ?_;refine AllReadyH.cons (o := ⟨none, .store 45 (.tmp 3) (.tmp 27), 0, "runes.go:70", #[⟨6, .data⟩, ⟨6, .chain⟩, ⟨0, .phase⟩, ⟨1, .phase⟩, ⟨2, .phase⟩, ⟨3, .phase⟩, ⟨4, .phase⟩, ⟨5, .phase⟩, ⟨6, .phase⟩], none⟩) rfl (fun K hK => ?_) AllReadyH.nil;go_simp;refine hK.out _ _ ?_ (fun hHeld => ?_)
      ·(try dsimp only); (first | exact hS0 | exact hSa | exact hS3 | exact hS7)
      clear hK K;try simp only [Act.put, pS]
      refine wpAnyH_done (by kernel_rfl) ?_ _;refine NoPanic.normal ?_;have hcf4 := hS7.2.cell;have hff4 := hS7.2.frozen;gi_wp2
      have hK5 := (hko.trans hk2).trans (KeepsOthers.setCell (w3.setCell ⟨B, 0, none⟩ (.slice (some ⟨g', 0, none⟩) (done.length + 1) cap')) ⟨B + 1, 0, none⟩ (.int .i64 (x.1 : Int)));have hr5 := hr2.kept (grownBy_setCell' (w3.setCell ⟨B, 0, none⟩ (.slice (some ⟨g', 0, none⟩) (done.length + 1) cap')) (B + 1) (.int .i64 (x.1 : Int))) (.inr (hS7.2.not_row (by decide) hr2).symm);refine ⟨hK5, ⟨hK5.size, fun k o h1 h2 => hK5.same k o h1 (Obj.not_cells_of_walk h2)⟩, _, done ++ [c], [x.2], x.1, hv2.kept (grownBy_setCell' _ (B + 1) _) (by simp), ?_, hS7.2.set _, HREL2.out, hS7.1.setCell (p := ⟨B + 1, 0, none⟩) (by show B <= B + 1; omega) _⟩;rw [List.length_append];unfold strV at hr5 |-;rw [List.map_append];exact hr5
     refine AllReadyH.cons (o := ⟨some 26, .buildSlice 45 1 #[(0, .tmp 25)], 45, "runes.go:70", #[⟨4, .data⟩], none⟩) rfl (fun K hK => ?_) AllReadyH.nil;go_simp;refine hK.out _ _ ?_ (fun hHeld => ?_)
     ·(try dsimp only); (first | exact hS0 | exact hSa | exact hS3 | exact hS7)
     clear hK K;try simp only [Act.put, pS]
     refine wpAnyH_ready (rs := [0]) (by kernel_rfl) (by simp) ?_;refine AllReadyH.cons (o := ⟨some 21, .load 45 (.tmp 3), 45, "runes.go:70", #[], none⟩) rfl (fun K hK => ?_) AllReadyH.nil;go_simp;refine hK.out _ _ ?_ (fun hHeld => ?_)
     ·(try dsimp only); (first | exact hS0 | exact hSa | exact hS3 | exact hS7)
     clear hK K;try simp only [Act.put, pS]
     refine wpAnyH_ready (rs := [6]) (by kernel_rfl) (by simp) ?_;refine AllReadyH.cons (o := ⟨some 27, .call { callee := .builtin .append, args := #[.tmp 21, .tmp 26], argTypes := #[45, 45] }, 45, "runes.go:70", #[⟨0, .data⟩, ⟨5, .data⟩], none⟩) rfl (fun K hK => ?_) AllReadyH.nil;have hrowa := hrow0.alloc (.cells #[.string (strC c)] 9);refine step_app rfl (.tmp 21) (.tmp 26) 45 rfl B 9 16 (.string .empty) info_string rfl Tryz.underlying45 rfl hrowa rfl (reads_one rfl) (by simp [Value.oneCell']) (by omega) (by omega) (by simp; omega) ?_;intro v' w3 hown' hgrow _;obtain ⟨g', cap', rfl⟩ := ownsRow_succ hown';obtain ⟨hv1, hv2, hr2, hk2, hbb2⟩ := hbx0.appended (by decide) hrow0 hszw (Nat.le_refl _) hown' hgrow;have hcx3 := hv1.cell;have hfx3 := hv1.frozen;have hf3 := (hS0.2.alloc (.cells #[.string (strC c)] 9)).kept hgrow ((hS0.2).not_row (by decide) hrow0);have hS3 : Below B w1 w3 /\ Boxed w3 (B + 1) 3 (.int .i64 (f : Int)) := ⟨(hS0.1.trans ((Below.refl B W0).alloc hszw _)).grown hgrow (by simp; omega) fun k hk => (hrow0.lt k hk).1, hf3⟩;have hS7 : Below B w1 (w3.setCell ⟨B, 0, none⟩ (.slice (some ⟨g', 0, none⟩) (done.length + 1) cap')) /\ Boxed (w3.setCell ⟨B, 0, none⟩ (.slice (some ⟨g', 0, none⟩) (done.length + 1) cap')) (B + 1) 3 (.int .i64 (f : Int)) := ⟨hS0.1.trans hbb2, hf3.kept (grownBy_setCell' w3 B _) (by simp)⟩;refine hK.out _ _ ?_ (fun hHeld => ?_)
     ·(try dsimp only); (first | exact hS0 | exact hSa | exact hS3 | exact hS7)
     clear hK K;try simp only [Act.put, pS]
     refine wpAnyH_ready (rs := [7]) (by kernel_rfl) (by simp) ?_;refine AllReadyH.cons (o := ⟨none, .store 45 (.tmp 3) (.tmp 27), 0, "runes.go:70", #[⟨6, .data⟩, ⟨6, .chain⟩, ⟨0, .phase⟩, ⟨1, .phase⟩, ⟨2, .phase⟩, ⟨3, .phase⟩, ⟨4, .phase⟩, ⟨5, .phase⟩, ⟨6, .phase⟩], none⟩) rfl (fun K hK => ?_) AllReadyH.nil;go_simp;refine hK.out _ _ ?_ (fun hHeld => ?_)
     ·(try dsimp only); (first | exact hS0 | exact hSa | exact hS3 | exact hS7)
     clear hK K;try simp only [Act.put, pS]
     refine wpAnyH_done (by kernel_rfl) ?_ _;refine NoPanic.normal ?_;have hcf4 := hS7.2.cell;have hff4 := hS7.2.frozen;gi_wp2
     have hK5 := (hko.trans hk2).trans (KeepsOthers.setCell (w3.setCell ⟨B, 0, none⟩ (.slice (some ⟨g', 0, none⟩) (done.length + 1) cap')) ⟨B + 1, 0, none⟩ (.int .i64 (x.1 : Int)));have hr5 := hr2.kept (grownBy_setCell' (w3.setCell ⟨B, 0, none⟩ (.slice (some ⟨g', 0, none⟩) (done.length + 1) cap')) (B + 1) (.int .i64 (x.1 : Int))) (.inr (hS7.2.not_row (by decide) hr2).symm);refine ⟨hK5, ⟨hK5.size, fun k o h1 h2 => hK5.same k o h1 (Obj.not_cells_of_walk h2)⟩, _, done ++ [c], [x.2], x.1, hv2.kept (grownBy_setCell' _ (B + 1) _) (by simp), ?_, hS7.2.set _, HREL2.out, hS7.1.setCell (p := ⟨B + 1, 0, none⟩) (by show B <= B + 1; omega) _⟩;rw [List.length_append];unfold strV at hr5 |-;rw [List.map_append];exact hr5
  case done =>
   rintro D xs W hD rfl ⟨v, done, c, f, hbx, hrow, hbf, hrel, hbw⟩ hK;have hcs3 : W.cell? ⟨p0, 0, none⟩ = some (.string s) := (hbw.cell (p := ⟨p0, 0, none⟩) (by show p0 < B; omega)).trans hbs;have hcf := hbf.cell;have hcx := hbx.cell;have hszB : w.heap.size <= B := by rw [HP0.out]; omega
   rcases hrel.fin HE.out with ⟨h1, h2, rfl, h4⟩ | ⟨h1, h2, h3, h4⟩
   ·have hni : ¬ (f : Int) < (s.size : Int) := by omega
    have hni' : decide ((f : Int) < (s.size : Int)) = false := decide_eq_false hni;gi_wp2_with (exfalso; omega)
    refine ⟨by simp, .inl ⟨_, _, rfl, run_takeDeferred hK, ?_⟩⟩;refine ⟨_, results_tmp rfl _ _ _, ?_⟩;have hfin := ownsRow_putObj hrow (.deferred none) hK rfl;exact ⟨v, rfl, own_base hfin hszB, (HB1.out.trans (hbw.mono hszB)).trans (belowK_b (w := w) (Nat.le_refl _) W D _ (.deferred none) (by omega) hK rfl rfl)⟩
   ·have hlt : (f : Int) < (s.size : Int) := by omega
    have hlt' : decide ((f : Int) < (s.size : Int)) = true := decide_eq_true hlt;gi_wp2_with (exfalso; omega)
    have hle : f <= s.size := Nat.le_of_lt h1;refine wpIn_wide.2 ?_;have hS0 : Below B w1 W.drew /\ Boxed W.drew (B + 1) 3 (.int .i64 (f : Int)) := ⟨hbw.drew, hbf⟩;have hbx0 : Boxed W.drew B 45 v := hbx;have hrow0 : W.drew.ownsRow B 9 1 v done.length (strV done) := hrow;have hko : KeepsOthers W W.drew := ⟨Nat.le_refl _, fun _ _ h _ => h⟩;have hkw : KeepsWalks W W.drew := ⟨Nat.le_refl _, fun _ _ h _ => h⟩;refine wp_region_noPanic ?_;refine wp_region_held_drew (S := (fun W => Below B w1 W /\ Boxed W (B + 1) 3 (.int .i64 (f : Int)))) (by kernel_rfl) hS0 (fun hHeld0 => ?_);clear hHeld0;have hcx0 := hbx0.cell;have hszw : B <= W.drew.heap.size := Nat.le_of_lt hbx0.lt;obtain ⟨W0, hW0⟩ : ∃ W0, W0 = W.drew := ⟨_, rfl⟩;rw [<- hW0] at hS0 hbx0 hrow0 hko hkw hcx0 hszw |-;clear hW0;have hcxa := (hbx0.alloc (.cells #[.string (strC c)] 9)).cell;have hSa : Below B w1 (W0.alloc (.cells #[.string (strC c)] 9)) /\ Boxed (W0.alloc (.cells #[.string (strC c)] 9)) (B + 1) 3 (.int .i64 (f : Int)) := ⟨hS0.1.trans ((Below.refl B W0).alloc hszw _), hS0.2.alloc _⟩;have hHeld : (fun W => Below B w1 W /\ Boxed W (B + 1) 3 (.int .i64 (f : Int))) W0 := hS0;refine wpAnyH_take (i := 1) (oi := ⟨some 34, .load 9 (.tmp 1), 9, "runes.go:75", #[], none⟩) (v := ?_) rfl (by kernel_rfl) (by kernel_rfl) (by kernel_rfl) (fun _ _ _ h => h) (Or.inl ⟨by rfl, ?_⟩) (by assumption) ?_;rotate_left
    ·(intro w hSw; (try dsimp only at hSw); have hc := (hSw.1.cell (p := ⟨p0, 0, none⟩) (by show p0 < B; omega)).trans hbs; go_simp; try with_reducible rfl)
    rotate_left;try simp only [Act.put, pS]
    refine wpAnyH_take (i := 2) (oi := ⟨some 35, .load 3 (.tmp 4), 3, "runes.go:75", #[], none⟩) (v := ?_) rfl (by kernel_rfl) (by kernel_rfl) (by kernel_rfl) (fun _ _ _ h => h) (Or.inl ⟨by rfl, ?_⟩) (by assumption) ?_;rotate_left
    ·(intro w hSw; (try dsimp only at hSw); have hc := hSw.2.cell; go_simp; try with_reducible rfl)
    rotate_left;try simp only [Act.put, pS]
    refine wpAnyH_take (i := 3) (oi := ⟨some 36, .slice 9 (.tmp 34) (some (.tmp 35)) none none, 9, "runes.go:75", #[⟨1, .data⟩, ⟨2, .data⟩], none⟩) (v := ?_) rfl (by kernel_rfl) (by kernel_rfl) (by kernel_rfl) (fun _ _ _ h => h) (Or.inl ⟨by rfl, ?_⟩) (by assumption) ?_;rotate_left
    ·(intro w hSw; (try dsimp only at hSw); go_simp; try with_reducible rfl)
    rotate_left;try simp only [Act.put, pS]
    refine wpAnyH_ready (rs := [0, 4]) (by kernel_rfl) (by simp) ?_;refine AllReadyH.cons (o := ⟨some 33, .load 45 (.tmp 3), 45, "runes.go:75", #[], none⟩) rfl (fun K hK => ?_) ?_
    ·go_simp;refine hK.out _ _ ?_ (fun hHeld => ?_)
     ·(try dsimp only); (first | exact hS0 | exact hSa | exact hS3 | exact hS7)
     clear hK K;try simp only [Act.put, pS]
     refine wpAnyH_ready (rs := [4]) (by kernel_rfl) (by simp) ?_;refine AllReadyH.cons (o := ⟨some 37, .buildSlice 45 1 #[(0, .tmp 36)], 45, "runes.go:75", #[⟨3, .data⟩], none⟩) rfl (fun K hK => ?_) AllReadyH.nil;go_simp;refine hK.out _ _ ?_ (fun hHeld => ?_)
     ·(try dsimp only); (first | exact hS0 | exact hSa | exact hS3 | exact hS7)
     clear hK K;try simp only [Act.put, pS]
     refine wpAnyH_ready (rs := [5]) (by kernel_rfl) (by simp) ?_;refine AllReadyH.cons (o := ⟨some 38, .call { callee := .builtin .append, args := #[.tmp 33, .tmp 37], argTypes := #[45, 45] }, 45, "runes.go:75", #[⟨0, .data⟩, ⟨4, .data⟩], none⟩) rfl (fun K hK => ?_) AllReadyH.nil;have hrowa := hrow0.alloc (.cells #[.string (strC c)] 9);refine step_app rfl (.tmp 33) (.tmp 37) 45 rfl B 9 16 (.string .empty) info_string rfl Tryz.underlying45 rfl hrowa rfl (reads_one rfl) (by simp [Value.oneCell']) (by omega) (by omega) (by simp; omega) ?_;intro v' w3 hown' hgrow _;obtain ⟨g', cap', rfl⟩ := ownsRow_succ hown';obtain ⟨hv1, hv2, hr2, hk2, hbb2⟩ := hbx0.appended (by decide) hrow0 hszw (Nat.le_refl _) hown' hgrow;have hcx3 := hv1.cell;have hfx3 := hv1.frozen;have hf3 := (hS0.2.alloc (.cells #[.string (strC c)] 9)).kept hgrow ((hS0.2).not_row (by decide) hrow0);have hS3 : Below B w1 w3 /\ Boxed w3 (B + 1) 3 (.int .i64 (f : Int)) := ⟨(hS0.1.trans ((Below.refl B W0).alloc hszw _)).grown hgrow (by simp; omega) fun k hk => (hrow0.lt k hk).1, hf3⟩;have hS7 : Below B w1 (w3.setCell ⟨B, 0, none⟩ (.slice (some ⟨g', 0, none⟩) (done.length + 1) cap')) /\ Boxed (w3.setCell ⟨B, 0, none⟩ (.slice (some ⟨g', 0, none⟩) (done.length + 1) cap')) (B + 1) 3 (.int .i64 (f : Int)) := ⟨hS0.1.trans hbb2, hf3.kept (grownBy_setCell' w3 B _) (by simp)⟩;refine hK.out _ _ ?_ (fun hHeld => ?_)
     ·(try dsimp only); (first | exact hS0 | exact hSa | exact hS3 | exact hS7)
     clear hK K;try simp only [Act.put, pS]
     refine wpAnyH_ready (rs := [6]) (by kernel_rfl) (by simp) ?_;refine AllReadyH.cons (o := ⟨none, .store 45 (.tmp 3) (.tmp 38), 0, "runes.go:75", #[⟨5, .data⟩, ⟨5, .chain⟩, ⟨0, .phase⟩, ⟨1, .phase⟩, ⟨2, .phase⟩, ⟨3, .phase⟩, ⟨4, .phase⟩, ⟨5, .phase⟩], none⟩) rfl (fun K hK => ?_) AllReadyH.nil;go_simp;refine hK.out _ _ ?_ (fun hHeld => ?_)
     ·(try dsimp only); (first | exact hS0 | exact hSa | exact hS3 | exact hS7)
     clear hK K;try simp only [Act.put, pS]
     refine wpAnyH_done (by kernel_rfl) ?_ _;refine NoPanic.normal ?_;have hK7 : (w3.setCell ⟨B, 0, none⟩ (.slice (some ⟨g', 0, none⟩) (done.length + 1) cap')).heap[D]? = some (Obj.deferred (some [])) := (hko.trans hk2).same _ _ hK rfl;have hcx7 := hv2.cell;gi_wp2
     refine ⟨by simp, .inl ⟨_, _, rfl, run_takeDeferred hK7, ?_⟩⟩;refine ⟨_, results_tmp rfl _ _ _, ?_⟩;have hfin := ownsRow_putObj hr2 (.deferred none) hK7 rfl;exact ⟨_, rfl, own_base hfin hszB, (HB1.out.trans (hS7.1.mono hszB)).trans (belowK_b (w := w) (Nat.le_refl _) _ D _ (.deferred none) (by have := hbw.size; omega) hK7 rfl rfl)⟩
    refine AllReadyH.cons (o := ⟨some 37, .buildSlice 45 1 #[(0, .tmp 36)], 45, "runes.go:75", #[⟨3, .data⟩], none⟩) rfl (fun K hK => ?_) AllReadyH.nil;go_simp;refine hK.out _ _ ?_ (fun hHeld => ?_)
    ·(try dsimp only); (first | exact hS0 | exact hSa | exact hS3 | exact hS7)
    clear hK K;try simp only [Act.put, pS]
    refine wpAnyH_ready (rs := [0]) (by kernel_rfl) (by simp) ?_;refine AllReadyH.cons (o := ⟨some 33, .load 45 (.tmp 3), 45, "runes.go:75", #[], none⟩) rfl (fun K hK => ?_) AllReadyH.nil;go_simp;refine hK.out _ _ ?_ (fun hHeld => ?_)
    ·(try dsimp only); (first | exact hS0 | exact hSa | exact hS3 | exact hS7)
    clear hK K;try simp only [Act.put, pS]
    refine wpAnyH_ready (rs := [5]) (by kernel_rfl) (by simp) ?_;refine AllReadyH.cons (o := ⟨some 38, .call { callee := .builtin .append, args := #[.tmp 33, .tmp 37], argTypes := #[45, 45] }, 45, "runes.go:75", #[⟨0, .data⟩, ⟨4, .data⟩], none⟩) rfl (fun K hK => ?_) AllReadyH.nil;have hrowa := hrow0.alloc (.cells #[.string (strC c)] 9);refine step_app rfl (.tmp 33) (.tmp 37) 45 rfl B 9 16 (.string .empty) info_string rfl Tryz.underlying45 rfl hrowa rfl (reads_one rfl) (by simp [Value.oneCell']) (by omega) (by omega) (by simp; omega) ?_;intro v' w3 hown' hgrow _;obtain ⟨g', cap', rfl⟩ := ownsRow_succ hown';obtain ⟨hv1, hv2, hr2, hk2, hbb2⟩ := hbx0.appended (by decide) hrow0 hszw (Nat.le_refl _) hown' hgrow;have hcx3 := hv1.cell;have hfx3 := hv1.frozen;have hf3 := (hS0.2.alloc (.cells #[.string (strC c)] 9)).kept hgrow ((hS0.2).not_row (by decide) hrow0);have hS3 : Below B w1 w3 /\ Boxed w3 (B + 1) 3 (.int .i64 (f : Int)) := ⟨(hS0.1.trans ((Below.refl B W0).alloc hszw _)).grown hgrow (by simp; omega) fun k hk => (hrow0.lt k hk).1, hf3⟩;have hS7 : Below B w1 (w3.setCell ⟨B, 0, none⟩ (.slice (some ⟨g', 0, none⟩) (done.length + 1) cap')) /\ Boxed (w3.setCell ⟨B, 0, none⟩ (.slice (some ⟨g', 0, none⟩) (done.length + 1) cap')) (B + 1) 3 (.int .i64 (f : Int)) := ⟨hS0.1.trans hbb2, hf3.kept (grownBy_setCell' w3 B _) (by simp)⟩;refine hK.out _ _ ?_ (fun hHeld => ?_)
    ·(try dsimp only); (first | exact hS0 | exact hSa | exact hS3 | exact hS7)
    clear hK K;try simp only [Act.put, pS]
    refine wpAnyH_ready (rs := [6]) (by kernel_rfl) (by simp) ?_;refine AllReadyH.cons (o := ⟨none, .store 45 (.tmp 3) (.tmp 38), 0, "runes.go:75", #[⟨5, .data⟩, ⟨5, .chain⟩, ⟨0, .phase⟩, ⟨1, .phase⟩, ⟨2, .phase⟩, ⟨3, .phase⟩, ⟨4, .phase⟩, ⟨5, .phase⟩], none⟩) rfl (fun K hK => ?_) AllReadyH.nil;go_simp;refine hK.out _ _ ?_ (fun hHeld => ?_)
    ·(try dsimp only); (first | exact hS0 | exact hSa | exact hS3 | exact hS7)
    clear hK K;try simp only [Act.put, pS]
    refine wpAnyH_done (by kernel_rfl) ?_ _;refine NoPanic.normal ?_;have hK7 : (w3.setCell ⟨B, 0, none⟩ (.slice (some ⟨g', 0, none⟩) (done.length + 1) cap')).heap[D]? = some (Obj.deferred (some [])) := (hko.trans hk2).same _ _ hK rfl;have hcx7 := hv2.cell;gi_wp2
    refine ⟨by simp, .inl ⟨_, _, rfl, run_takeDeferred hK7, ?_⟩⟩;refine ⟨_, results_tmp rfl _ _ _, ?_⟩;have hfin := ownsRow_putObj hr2 (.deferred none) hK7 rfl;exact ⟨_, rfl, own_base hfin hszB, (HB1.out.trans (hS7.1.mono hszB)).trans (belowK_b (w := w) (Nat.le_refl _) _ D _ (.deferred none) (by have := hbw.size; omega) hK7 rfl rfl)⟩
end
section
open Go.RowKit Ru
theorem ir_new (w : World) (e : TypeId) (l : List Int) (c : Array Value) (hc : c.toList = l.map (.int .i64)) (n : Nat) (hn : n = l.length) : IR (w.alloc (.cells c e)) (w.alloc (.cells c e)).heap.size (some ⟨w.heap.size, 0, none⟩) n l := by
 subst hn;have h := reads_new w e c;have e1 : c.size = l.length := by rw [<- Array.length_toList, hc, List.length_map]
 rw [hc, e1] at h;exact h
theorem sr_new (w : World) (e : TypeId) (l : List ByteArray) (c : Array Value) (hc : c.toList = l.map .string) (n : Nat) (hn : n = l.length) : SR (w.alloc (.cells c e)) (w.alloc (.cells c e)).heap.size (some ⟨w.heap.size, 0, none⟩) n l := by
 subst hn;have h := reads_new w e c;have e1 : c.size = l.length := by rw [<- Array.length_toList, hc, List.length_map]
 rw [hc, e1] at h;exact h
theorem points_some (s : ByteArray) (d : List Nat) (w : World) (hs : s.size <= 1099511627776) (hT : Tabs w) (hd : points s.data.toList = some d) :
  Calls Tryz.prog 119 #[.string s] w fun e w' => ∃ A c, e = .returned (.tuple #[.slice A d.length c, .bool true]) /\ IR w' w'.heap.size A d.length (d.map fun (p : Nat) => (p : Int)) /\ Below w.heap.size w w' := by
 refine (points_any s w hs hT).mono ?_;rw [hd];rintro e w' ⟨_, h2, hb⟩;obtain ⟨v, rfl, hown⟩ := h2 d rfl;obtain ⟨A, c, rfl, _, _, hr⟩ := own_form hown;exact ⟨A, c, rfl, NR.ints hr, hb⟩
end
end Go.Proofs.YthcabnfcgjnlnaaGreatDoor
namespace Go.Proofs.YthcabnfcgjnlnaaGreatDoor.Lay
open Go.Proofs.YthcabnfcgjnlnaaGreatDoor Go.Proofs.YthcabnfcgjnlnaaGreatDoor.Ru
def wid (s : List UInt8) : Nat :=
 match points s with
 | none => s.length
 | some d => (clus d).length
def widB (s : ByteArray) : Nat := wid s.data.toList
def sp (n : Nat) : List UInt8 := List.replicate n 32
def pad (s : List UInt8) (n : Int) : List UInt8 := if (wid s : Int) < n /\ n <= 4000 then s ++ sp (n - wid s).toNat else s
def cellB (r : List ByteArray) (k : Nat) : ByteArray := r.getD k ⟨#[]⟩
def nmax : List (List ByteArray) -> Nat
 | [] => 0
 | r :: t => max r.length (nmax t)
def colAt : List (List ByteArray) -> Nat -> Nat
 | [], _ => 0
 | r :: t, k => max (widB (cellB r k)) (colAt t k)
def cols (L : List (List ByteArray)) : List Int := (List.range (nmax L)).map fun k => (colAt L k : Int)
def colsG (n : Nat) (L : List (List ByteArray)) (r : List ByteArray) (j : Nat) : List Int :=
 (List.range n).map fun k => if k < j then max (colAt L k : Int) (widB (cellB r k) : Int) else (colAt L k : Int)
def gst (c : List Int) (W : Int) : Nat -> List (Nat × Nat) × Int
 | 0 => ([], 0)
 | i + 1 =>
  if 0 < i /\ (gst c W i).2 <= W /\ max (c.getD i 0) 0 <= W - (gst c W i).2 - 1 then
   ((gst c W i).1.dropLast ++ [(((gst c W i).1.getLast?.getD (0, 0)).1, i + 1)], (gst c W i).2 + 1 + max (c.getD i 0) 0)
  else ((gst c W i).1 ++ [(i, i + 1)], max (c.getD i 0) 0)
def groups (c : List Int) (W : Int) : List (Nat × Nat) := (gst c W c.length).1
def lineG (c : List Int) (r : List ByteArray) : Nat -> List UInt8
 | 0 => []
 | k + 1 => lineG c r k ++ (if 0 < k then [32] else []) ++ pad (cellB r k).data.toList (c.getD k 0)
def trimR (l : List UInt8) : List UInt8 := (l.reverse.dropWhile fun b => b == 32).reverse
def lineL (c : List Int) (r : List ByteArray) : ByteArray := strL (trimR (lineG c r c.length))
def alignL (L : List (List ByteArray)) : List ByteArray := L.map fun r => lineL (cols L) r
def partP (L : List (List ByteArray)) (g : Nat × Nat) : List (List ByteArray) := L.map fun r => (r.take (min g.2 r.length)).drop (min g.1 r.length)
def wrapG (f : Nat × Nat -> List ByteArray) (G : List (Nat × Nat)) : Nat -> List ByteArray
 | 0 => []
 | i + 1 => wrapG f G i ++ (if 0 < i then [⟨#[]⟩] else []) ++ f (G.getD i (0, 0))
def wrapL (L : List (List ByteArray)) (W : Int) : List ByteArray := wrapG (fun g => alignL (partP L g)) (groups (cols L) W) (groups (cols L) W).length
theorem clus_len_le (l : List Nat) : (clus l).length <= l.length :=
 seg_ind (P := fun l => (clus l).length <= l.length) (Nat.le_refl _) (fun p ms rest hm hr ih => by
  rw [clus_seg p ms rest hm hr, List.length_cons, List.length_append, List.length_cons];omega) l
theorem wid_le (s : List UInt8) : wid s <= s.length := by
 unfold wid
 cases h : points s with
 | none => exact Nat.le_refl _
 | some d => exact Nat.le_trans (clus_len_le d) (points_length _ _ _ (Nat.le_refl _) h)
theorem widB_empty : widB ⟨#[]⟩ = 0 := rfl
theorem widB_le (s : ByteArray) : widB s <= s.size := by rw [Lib.size_eq]; exact wid_le _
theorem wid_clusB (s : List UInt8) (h : (points s).isSome = true) : wid s = (clusB s).length := by
 unfold wid clusB
 cases hp : points s with
 | none => rw [hp] at h; cases h
 | some d => simp
theorem cellB_none {r : List ByteArray} {k : Nat} (h : r.length <= k) : cellB r k = ⟨#[]⟩ := by
 unfold cellB;rw [List.getD, List.getElem?_eq_none h];rfl
theorem cellB_some {r : List ByteArray} {k : Nat} {s : ByteArray} (h : r[k]? = some s) : cellB r k = s := by
 unfold cellB;rw [List.getD, h];rfl
theorem nmax_le {L : List (List ByteArray)} {n : Nat} (h : ∀ r ∈ L, r.length <= n) : nmax L <= n := by
 induction L with
 | nil => exact Nat.zero_le _
 | cons r t ih => exact Nat.max_le.2 ⟨h r (by simp), ih fun x hx => h x (by simp [hx])⟩
theorem le_nmax {L : List (List ByteArray)} {r : List ByteArray} (h : r ∈ L) : r.length <= nmax L := by
 induction L with
 | nil => cases h
 | cons x t ih =>
  rcases List.mem_cons.1 h with rfl | h
  ·exact Nat.le_max_left _ _
  ·exact Nat.le_trans (ih h) (Nat.le_max_right _ _)
theorem colAt_big {L : List (List ByteArray)} {k : Nat} (h : nmax L <= k) : colAt L k = 0 := by
 induction L with
 | nil => rfl
 | cons r t ih =>
  have h1 := Nat.max_le.1 (show max r.length (nmax t) <= k from h);show max _ _ = _;rw [ih h1.2, cellB_none h1.1, widB_empty];rfl
theorem nmax_snoc (L : List (List ByteArray)) (r : List ByteArray) : nmax (L ++ [r]) = max (nmax L) r.length := by
 induction L with
 | nil => show max r.length 0 = max 0 r.length; omega
 | cons x t ih =>
  show max x.length (nmax (t ++ [r])) = max (max x.length (nmax t)) r.length;rw [ih]; omega
theorem colAt_snoc (L : List (List ByteArray)) (r : List ByteArray) (k : Nat) : colAt (L ++ [r]) k = max (colAt L k) (widB (cellB r k)) := by
 induction L with
 | nil => show max _ 0 = max 0 _; omega
 | cons x t ih =>
  show max _ (colAt (t ++ [r]) k) = max (max _ (colAt t k)) _;rw [ih]; omega
theorem colAt_le {L : List (List ByteArray)} {k n : Nat} (h : ∀ r ∈ L, ∀ s ∈ r, s.size <= n) : colAt L k <= n := by
 induction L with
 | nil => exact Nat.zero_le _
 | cons r t ih =>
  refine Nat.max_le.2 ⟨?_, ih fun x hx => h x (by simp [hx])⟩;refine Nat.le_trans (widB_le _) ?_
  cases hk : r[k]? with
  | none =>
   rw [cellB_none (by
    rw [List.getElem?_eq_none_iff] at hk; exact hk)]
   exact Nat.zero_le _
  | some s =>
   rw [cellB_some hk];exact h r (by simp) s (List.mem_of_getElem? hk)
theorem cols_len (L : List (List ByteArray)) : (cols L).length = nmax L := by unfold cols; simp
theorem cols_at {L : List (List ByteArray)} {k : Nat} (h : k < nmax L) : (cols L)[k]? = some (colAt L k : Int) := by
 unfold cols;rw [List.getElem?_map, List.getElem?_range h];rfl
theorem cols_getD (L : List (List ByteArray)) (k : Nat) : (cols L).getD k 0 = (colAt L k : Int) := by
 by_cases h : k < nmax L
 ·rw [List.getD, cols_at h]; rfl
 ·rw [List.getD, List.getElem?_eq_none (by rw [cols_len]; omega), colAt_big (by omega)]; rfl
theorem colsG_len (n : Nat) (L : List (List ByteArray)) (r : List ByteArray) (j : Nat) : (colsG n L r j).length = n := by unfold colsG; simp
theorem colsG_at {n : Nat} {L : List (List ByteArray)} {r : List ByteArray} {j k : Nat} (h : k < n) : (colsG n L r j)[k]? = some (if k < j then max (colAt L k : Int) (widB (cellB r k) : Int) else (colAt L k : Int)) := by
 unfold colsG;rw [List.getElem?_map, List.getElem?_range h];rfl
theorem colsG_zero (n : Nat) (L : List (List ByteArray)) (r : List ByteArray) : colsG n L r 0 = (List.range n).map fun k => (colAt L k : Int) := by
 unfold colsG;refine List.map_congr_left fun k _ => ?_
 rw [if_neg (by omega)]
theorem colsG_set {n : Nat} {L : List (List ByteArray)} {r : List ByteArray} {j : Nat} (h : j < n) :
  (colsG n L r j).set j (max (colAt L j : Int) (widB (cellB r j) : Int)) = colsG n L r (j + 1) := by
 refine List.ext_getElem? fun k => ?_
 rw [List.getElem?_set, colsG_len];by_cases hk : k < n
 ·rw [colsG_at hk, colsG_at hk];by_cases e : j = k
  ·subst e;rw [if_pos rfl, if_pos hk, if_pos (by omega)]
  ·rw [if_neg e];by_cases h2 : k < j
   ·rw [if_pos h2, if_pos (by omega)]
   ·rw [if_neg h2, if_neg (by omega)]
 ·rw [if_neg (by omega), List.getElem?_eq_none (by rw [colsG_len]; omega), List.getElem?_eq_none (by rw [colsG_len]; omega)]
theorem colsG_more {n : Nat} {L : List (List ByteArray)} {r : List ByteArray} {j : Nat} (h : nmax L <= n) (hj : j <= n) : colsG n L r j ++ [0] = colsG (n + 1) L r j := by
 refine List.ext_getElem? fun k => ?_
 by_cases hk : k < n
 ·rw [List.getElem?_append_left (by rw [colsG_len]; exact hk), colsG_at hk, colsG_at (by omega)]
 ·rw [List.getElem?_append_right (by rw [colsG_len]; omega), colsG_len];by_cases e : k = n
  ·subst e;rw [Nat.sub_self, colsG_at (by omega), if_neg (by omega), colAt_big h];rfl
  ·rw [List.getElem?_eq_none (by simp; omega), List.getElem?_eq_none (by rw [colsG_len]; omega)]
theorem colsG_end {n : Nat} {L : List (List ByteArray)} {r : List ByteArray} {j : Nat} (hj : r.length <= j) : colsG n L r j = (List.range n).map fun k => (colAt (L ++ [r]) k : Int) := by
 unfold colsG;refine List.map_congr_left fun k _ => ?_
 rw [colAt_snoc];by_cases h : k < j
 ·rw [if_pos h]; omega
 ·rw [if_neg h, cellB_none (by omega), widB_empty]; omega
theorem colsG_fin {L : List (List ByteArray)} {r : List ByteArray} : colsG (max (nmax L) r.length) L r r.length = cols (L ++ [r]) := by
 rw [colsG_end (Nat.le_refl _)];unfold cols;rw [nmax_snoc]
theorem sp_len (n : Nat) : (sp n).length = n := by unfold sp; simp
theorem pad_len (s : List UInt8) (n : Int) : (pad s n).length <= s.length + 4000 := by
 unfold pad;split
 ·rw [List.length_append, sp_len]; omega
 ·omega
theorem pad_id {s : List UInt8} {n : Int} (h : 4000 < n ∨ n <= wid s) : pad s n = s := by
 unfold pad;rw [if_neg (by omega)]
end Go.Proofs.YthcabnfcgjnlnaaGreatDoor.Lay
namespace Go.Proofs.YthcabnfcgjnlnaaGreatDoor
section
open Go.RowKit Go.Shelf Ru Lay
def intsO : Option (List Nat) -> List Int
 | none => []
 | some d => d.map fun (p : Nat) => (p : Int)
theorem PointsPost.val {w w' : World} {o : Option (List Nat)} {e : Ending} (h : PointsPost w o e w') :
  ∃ A n c, e = .returned (.tuple #[.slice A n c, .bool o.isSome]) /\ IR w' w'.heap.size A n (intsO o) /\ n <= 9223372036854775807 /\ Below w.heap.size w w' := by
 obtain ⟨h1, h2, h3⟩ := h
 cases o with
 | none => exact ⟨none, 0, 0, h1 rfl, Reads.none_, by omega, h3⟩
 | some d =>
  obtain ⟨v, rfl, hown⟩ := h2 d rfl;obtain ⟨A, c, rfl, h5, h6, hr⟩ := own_form hown;exact ⟨A, _, c, rfl, NR.ints hr, by omega, h3⟩
theorem widB_none {s : ByteArray} (h : points s.data.toList = none) : widB s = s.size := by
 unfold widB wid;rw [h, Lib.size_eq]
theorem widB_some {s : ByteArray} {d : List Nat} (h : points s.data.toList = some d) : widB s = (clusB s.data.toList).length := wid_clusB _ (by rw [h]; rfl)
def padB (s : ByteArray) (n : Int) : ByteArray := strL (pad s.data.toList n)
theorem padB_size (s : ByteArray) (n : Int) : (padB s n).size <= s.size + 4000 := by
 unfold padB;rw [strL_size, Lib.size_eq];exact pad_len _ _
theorem padB_id {s : ByteArray} {n : Int} (h : 4000 < n ∨ n <= widB s) : padB s n = s := by
 unfold padB;rw [pad_id h];exact (strL_of rfl).symm
set_option maxHeartbeats 1000000 in
theorem width_any (s : ByteArray) (w : World) (hs : s.size <= 1099511627) (hT : Tabs w) :
  Calls Tryz.prog 94 #[.string s] w fun e w' => e = .returned (.int .i64 (widB s : Int)) /\ Below w.heap.size w w' := by
 have HT := hI hT;have HP := hI (points_any s w (by omega) HT.out);have HC := hI fun W (hb : Below w.heap.size w W) => clusters_any s W (by omega) (HT.out.on hb)
 clear hT;obtain ⟨o, ho⟩ : ∃ o, points s.data.toList = o := ⟨_, rfl⟩;rw [ho] at HP
 cases o with
 | none =>
  have HW : Hid ((s.size : Int) = (widB s : Int)) := by show _ = _; rw [widB_none ho]
  clear ho;go_enter Tryz.func94, Tryz.ntmps94
  go_wp2_with fail
  refine HP.out.mono ?_;intro e w1 hpp;obtain ⟨A1, n1, c1, rfl, _, _, hb⟩ := hpp.val;have HB1 : Hid (Below w.heap.size w w1) := hb;clear hpp hb;go_wp2;go_ret;exact ⟨ret_i64 HW.out, HB1.out⟩
 | some d =>
  have HW : Hid (((clusB s.data.toList).length : Int) = (widB s : Int)) := by show _ = _; rw [widB_some ho]
  clear ho;go_enter Tryz.func94, Tryz.ntmps94
  go_wp2_with fail
  refine HP.out.mono ?_;intro e w1 hpp;obtain ⟨A1, n1, c1, rfl, _, _, hb⟩ := hpp.val;have HB1 : Hid (Below w.heap.size w w1) := hb;clear hpp hb;go_wp2_with fail
  refine (HC.out _ HB1.out).mono ?_;rintro e w2 ⟨v, rfl, hown, hb⟩;obtain ⟨A2, c2, rfl, _, _, _⟩ := own_form hown;have HB2 : Hid (Below w.heap.size w w2) := HB1.out.trans (hb.mono HB1.out.size);clear hown hb;go_wp2;go_ret;exact ⟨ret_i64 HW.out, HB2.out⟩
theorem repeat_sp (n : Nat) : Lib.repeatL [32] n = sp n := by
 induction n with
 | zero => rfl
 | succ n ih => show [32] ++ Lib.repeatL [32] n = _; rw [ih]; rfl
set_option maxHeartbeats 1000000 in
theorem pad_any (s : ByteArray) (n : Int) (w : World) (hs : s.size <= 1099511627) (hT : Tabs w) :
  Calls Tryz.prog 96 #[.string s, .int .i64 n] w fun e w' => e = .returned (.string (padB s n)) /\ Below w.heap.size w w' := by
 have HW := hI (width_any s w hs hT);have hwl := widB_le s;obtain ⟨k, hk⟩ : ∃ k, widB s = k := ⟨_, rfl⟩;have HK := hI hk;rw [hk] at HW hwl;clear hk;by_cases h1 : (k : Int) < n
 ·have hd1 : decide ((k : Int) < n) = true := decide_eq_true h1;by_cases h2 : n <= 4000
  ·have hd2 : decide (n <= 4000) = true := decide_eq_true h2;obtain ⟨m, hm⟩ : ∃ m : Nat, n = (k : Int) + (m : Int) := ⟨(n - k).toNat, by omega⟩;have hnk : n - (k : Int) = (m : Int) := by omega
   have HM := hI hm;have HR := hI fun W => Tryz.strings_Repeat ⟨#[32]⟩ m W (by omega) (by show 1 * m <= _; omega)
   have hsz : (⟨(Lib.repeatL (⟨#[32]⟩ : ByteArray).data.toList m).toArray⟩ : ByteArray).size <= 4000 := by
    rw [Lib.size_eq];show (Lib.repeatL [32] m).length <= _;rw [repeat_sp, sp_len];omega
   have HRES : Hid (s ++ (⟨(Lib.repeatL (⟨#[32]⟩ : ByteArray).data.toList m).toArray⟩ : ByteArray) = padB s n) := by
    show _ = _;refine ba_ext ?_;rw [app_data];unfold padB;rw [strL_data];unfold pad;rw [show wid s.data.toList = k from HK.out, if_pos ⟨h1, h2⟩];show _ ++ Lib.repeatL [32] m = _;rw [repeat_sp, hnk];rfl
   obtain ⟨x, hx⟩ : ∃ x, (⟨(Lib.repeatL (⟨#[32]⟩ : ByteArray).data.toList m).toArray⟩ : ByteArray) = x := ⟨_, rfl⟩;rw [hx] at HR hsz HRES;clear hx hm;have hcat : s.size + x.size <= 9223372036854775807 := by omega
   go_enter Tryz.func96, Tryz.ntmps96
   go_wp2_with fail
   refine HW.out.mono ?_;rintro e w1 ⟨rfl, hb⟩;have HB1 : Hid (Below w.heap.size w w1) := hb;clear hb;go_wp2_with fail
   refine (HR.out _).mono ?_;rintro e w2 ⟨rfl, hb⟩;have HB2 : Hid (Below w.heap.size w w2) := HB1.out.trans (hb.mono HB1.out.size);clear hb;go_wp2;go_ret;exact ⟨ret_str HRES.out, HB2.out⟩
  ·have hd2 : decide (n <= 4000) = false := decide_eq_false h2;have HRES : Hid (s = padB s n) := (padB_id (.inl (by omega))).symm;go_enter Tryz.func96, Tryz.ntmps96
   go_wp2_with fail
   refine HW.out.mono ?_;rintro e w1 ⟨rfl, hb⟩;have HB1 : Hid (Below w.heap.size w w1) := hb;clear hb;go_wp2;go_ret;exact ⟨ret_str HRES.out, HB1.out⟩
 ·have hd1 : decide ((k : Int) < n) = false := decide_eq_false h1;have HRES : Hid (s = padB s n) := (padB_id (.inr (by rw [HK.out]; omega))).symm;go_enter Tryz.func96, Tryz.ntmps96
  go_wp2_with fail
  refine HW.out.mono ?_;rintro e w1 ⟨rfl, hb⟩;have HB1 : Hid (Below w.heap.size w w1) := hb;clear hb;go_wp2;go_ret;exact ⟨ret_str HRES.out, HB1.out⟩
end
end Go.Proofs.YthcabnfcgjnlnaaGreatDoor
