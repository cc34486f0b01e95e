import Derived.Test.YthcabnfcgjnlnaaGreatDoorK03
import Derived.Deep.RegionWith
import Derived.Deep.DrawnRows
import Derived.OrdersIn
import Derived.TacticsIn
import Derived.RangeFuncCalls
import Derived.OrdersHeld
import Derived.Deep.RegionHeld3
namespace Go.Proofs.YthcabnfcgjnlnaaGreatDoor
open Go.RowKit Ru
attribute [local go_sem ↓] Go.wp_at_zero Go.wp_at_succ
set_option linter.unusedVariables false
set_option linter.unusedSimpArgs false

def strC (c : List Nat) : ByteArray := strL (encS c)
/-- The clusters of a string; none if it is not valid. -/
def clusB (s : List UInt8) : List ByteArray :=
  match points s with
  | none => []
  | some d => (clus d).map strC
/-- What has been collected when i points are over. -/
def CluRel (d : List Nat) (i : Nat) (cs : List (List Nat)) : Prop :=
  (i = 0 ∧ cs = []) ∨ (0 < i ∧ ∃ done c, cs = done ++ [c] ∧ c.length ≤ i ∧ clus d = done ++ cluGo c (d.drop i))
theorem CluRel.start {d : List Nat} {p : Nat} (hp : d[0]? = some p) : CluRel d 1 [[p]] := by
  refine .inr ⟨by omega, [], [p], rfl, by simp, ?_⟩
  cases d with
  | nil => simp at hp
  | cons x t => simp at hp; subst hp; rfl
theorem CluRel.mark {d : List Nat} {i p : Nat} {done : List (List Nat)} {c : List Nat} (h : clus d = done ++ cluGo c (d.drop i)) (hl : c.length ≤ i) (hp : d[i]? = some p) (hm : mk p = true) : CluRel d (i + 1) (done ++ [c ++ [p]]) := by
  refine .inr ⟨by omega, done, c ++ [p], rfl, by simp; omega, ?_⟩
  rw [h, drop_at hp]
  show done ++ (if mk p = true then cluGo (c ++ [p]) (d.drop (i + 1)) else _) = _
  rw [if_pos hm]
theorem CluRel.base {d : List Nat} {i p : Nat} {done : List (List Nat)} {c : List Nat} (h : clus d = done ++ cluGo c (d.drop i)) (hl : c.length ≤ i) (hp : d[i]? = some p) (hm : mk p = false) : CluRel d (i + 1) ((done ++ [c]) ++ [[p]]) := by
  refine .inr ⟨by omega, done ++ [c], [p], rfl, by simp, ?_⟩
  rw [h, drop_at hp]
  show done ++ (if mk p = true then _ else c :: cluGo [p] (d.drop (i + 1))) = _
  rw [hm, if_neg (by simp)]
  simp
theorem CluRel.fin {d : List Nat} {cs : List (List Nat)} (h : CluRel d d.length cs) : clus d = cs := by
  rcases h with ⟨h0, rfl⟩ | ⟨_, done, c, rfl, _, h⟩
  · have : d = [] := List.eq_nil_of_length_eq_zero h0
    subst this
    rfl
  · rw [h, List.drop_length]
    rfl
def strV (cs : List (List Nat)) : List Value := cs.map fun c => Value.string (strC c)
end Go.Proofs.YthcabnfcgjnlnaaGreatDoor
/-
  PLAIN LAW: what the program's loop over the points has collected, round by round.
-/
set_option linter.unusedVariables false
set_option linter.unusedSimpArgs false
namespace Go.Proofs.YthcabnfcgjnlnaaGreatDoor
open Ru

theorem ixs_split : ∀ (pre : List (Nat × Nat)) (o : Nat) (d : List Nat) (x : Nat × Nat) (rest : List (Nat × Nat)), ixs o d = pre ++ x :: rest → x.1 = o + (encS (pre.map (·.2))).length ∧ d = pre.map (·.2) ++ x.2 :: rest.map (·.2)
  | [], o, [], x, rest, h => by simp [ixs] at h
  | [], o, p :: t, x, rest, h => by
    simp only [ixs, List.nil_append, List.cons.injEq] at h
    obtain ⟨rfl, h2⟩ := h
    refine ⟨by simp [encS_nil], ?_⟩
    rw [← h2]
    simp [ixs_snd]
  | y :: pre, o, [], x, rest, h => by simp [ixs] at h
  | y :: pre, o, p :: t, x, rest, h => by
    simp only [ixs, List.cons_append, List.cons.injEq] at h
    obtain ⟨rfl, h2⟩ := h
    obtain ⟨h3, h4⟩ := ixs_split pre _ t x rest h2
    refine ⟨by rw [h3, List.map_cons, encS_cons, List.length_append]; dsimp only; omega, by rw [List.map_cons, List.cons_append, ← h4]⟩
theorem encS_pos {l : List Nat} (h : l ≠ []) : 0 < (encS l).length := by
  cases l with
  | nil => exact absurd rfl h
  | cons p t =>
    rw [encS_cons, List.length_append]
    have := (encL_len (p : Int)).1
    omega
theorem clus_len (d : List Nat) : (clus d).length ≤ d.length :=
  seg_ind (P := fun l => (clus l).length ≤ l.length) (Nat.le_refl _) (fun p ms rest hm hr ih => by
    rw [clus_seg p ms rest hm hr, List.length_cons, List.length_append, List.length_cons]
    omega) d
def RelP (d : List Nat) (pre : List (Nat × Nat)) (done : List (List Nat)) (c : List Nat) (f : Nat) : Prop :=
  ∃ rest, d = (done.flatten ++ c) ++ rest ∧ pre.map (·.2) = done.flatten ++ c ∧ f = (encS done.flatten).length ∧ ((pre = [] ∧ done = [] ∧ c = []) ∨ (c ≠ [] ∧ clus d = done ++ cluGo c rest))
theorem RelP.start (d : List Nat) : RelP d [] [] [] 0 := ⟨d, rfl, rfl, rfl, .inl ⟨rfl, rfl, rfl⟩⟩
theorem RelP.next {d : List Nat} {pre : List (Nat × Nat)} {done : List (List Nat)} {c : List Nat} {f : Nat} {x : Nat × Nat} (h : RelP d pre done c f) (hn : Nxt d pre x) :
    x.1 = f + (encS c).length ∧ ∃ t, d = (done.flatten ++ c) ++ x.2 :: t ∧ (c ≠ [] → clus d = done ++ cluGo c (x.2 :: t)) ∧ pre.map (·.2) = done.flatten ++ c ∧ f = (encS done.flatten).length ∧ (pre = [] → done = [] ∧ c = []) ∧ (pre ≠ [] → c ≠ []) := by
  obtain ⟨rest, h1, h2, h3, h4⟩ := h
  obtain ⟨rest', hr⟩ := hn
  obtain ⟨i1, i2⟩ := ixs_split pre 0 d x rest' hr
  rw [h2] at i1 i2
  have e : rest = x.2 :: rest'.map (·.2) := List.append_cancel_left (h1.symm.trans i2)
  subst e
  refine ⟨by rw [i1, encS_app, List.length_append, h3]; omega, _, i2, fun hc => ?_, h2, h3, fun hp => ?_, fun hp => ?_⟩
  · rcases h4 with ⟨_, _, h5⟩ | ⟨_, h5⟩
    · exact absurd h5 hc
    · exact h5
  · rcases h4 with ⟨_, h5, h6⟩ | ⟨h5, _⟩
    · exact ⟨h5, h6⟩
    · rw [hp] at h2
      have h7 := congrArg List.length h2
      rw [List.length_append] at h7
      simp only [List.map_nil, List.length_nil] at h7
      exact absurd (List.eq_nil_of_length_eq_zero (by omega)) h5
  · rcases h4 with ⟨h5, _⟩ | ⟨h5, _⟩
    · exact absurd h5 hp
    · exact h5
theorem RelP.first {d : List Nat} {done : List (List Nat)} {c : List Nat} {f : Nat} {x : Nat × Nat} (h : RelP d [] done c f) (hn : Nxt d [] x) : x.1 = 0 ∧ f = 0 ∧ done = [] ∧ RelP d ([] ++ [x]) [] [x.2] 0 := by
  obtain ⟨h1, t, h2, _, h4, h5, h6, _⟩ := h.next hn
  obtain ⟨rfl, rfl⟩ := h6 rfl
  have hf : f = 0 := by rw [h5]; rfl
  refine ⟨by rw [h1, hf]; rfl, hf, rfl, t, by simpa using h2, by simp, rfl, .inr ⟨by simp, ?_⟩⟩
  have e : d = x.2 :: t := by simpa using h2
  rw [e]
  rfl
theorem RelP.mark {d : List Nat} {pre : List (Nat × Nat)} {done : List (List Nat)} {c : List Nat} {f : Nat} {x : Nat × Nat} (h : RelP d pre done c f) (hn : Nxt d pre x) (hp : pre ≠ []) (hm : mk x.2 = true) : RelP d (pre ++ [x]) done (c ++ [x.2]) f := by
  obtain ⟨h1, t, h2, h3, h4, h5, _, h7⟩ := h.next hn
  refine ⟨t, by rw [h2]; simp, by rw [List.map_append, h4]; simp, h5, .inr ⟨by simp, ?_⟩⟩
  rw [h3 (h7 hp)]
  show done ++ (if mk x.2 = true then cluGo (c ++ [x.2]) t else _) = _
  rw [if_pos hm]
theorem RelP.base {d : List Nat} {pre : List (Nat × Nat)} {done : List (List Nat)} {c : List Nat} {f : Nat} {x : Nat × Nat} (h : RelP d pre done c f) (hn : Nxt d pre x) (hp : pre ≠ []) (hm : mk x.2 = false) : RelP d (pre ++ [x]) (done ++ [c]) [x.2] x.1 := by
  obtain ⟨h1, t, h2, h3, h4, h5, _, h7⟩ := h.next hn
  refine ⟨t, by rw [h2]; simp, by rw [List.map_append, h4]; simp, ?_, .inr ⟨by simp, ?_⟩⟩
  · rw [h1, h5, List.flatten_append, encS_app, List.length_append]
    simp
  · rw [h3 (h7 hp)]
    show done ++ (if mk x.2 = true then _ else c :: cluGo [x.2] t) = _
    rw [hm, if_neg (by simp)]
    simp
theorem RelP.slice {s : ByteArray} {d : List Nat} {pre : List (Nat × Nat)} {done : List (List Nat)} {c : List Nat} {f : Nat} {x : Nat × Nat} (hs : encS d = s.data.toList) (h : RelP d pre done c f) (hn : Nxt d pre x) (hp : pre ≠ []) :
    s.extract f x.1 = strC c ∧ f ≤ x.1 ∧ x.1 ≤ s.size ∧ 0 < x.1 ∧ done.length + 1 ≤ d.length := by
  obtain ⟨h1, t, h2, h3, h4, h5, _, h7⟩ := h.next hn
  have hc := h7 hp
  have e1 : s.data.toList = encS done.flatten ++ (encS c ++ encS (x.2 :: t)) := by rw [← hs, h2, encS_app, encS_app, List.append_assoc]
  have e2 : s.size = f + (encS c).length + (encS (x.2 :: t)).length := by rw [Lib.size_eq, e1, List.length_append, List.length_append, h5]; omega
  have hcp := encS_pos hc
  refine ⟨strL_of ?_, by omega, by omega, by omega, ?_⟩
  · rw [Lib.extract_data, e1, h5, List.drop_left, h1, h5, Nat.add_sub_cancel_left, List.take_left]
  · have h8 := clus_len d
    rw [h3 hc] at h8
    have h9 : 1 ≤ (cluGo c (x.2 :: t)).length := by
      unfold cluGo
      split
      · have : ∀ (r : List Nat) (q : List Nat), 1 ≤ (cluGo q r).length := by
          intro r
          induction r with
          | nil => intro q; simp [cluGo]
          | cons a r ih =>
            intro q
            unfold cluGo
            split
            · exact ih _
            · simp
        exact this _ _
      · simp
    rw [List.length_append] at h8
    omega
theorem RelP.fin {s : ByteArray} {d : List Nat} {done : List (List Nat)} {c : List Nat} {f : Nat} (hs : encS d = s.data.toList) (h : RelP d (ixs 0 d) done c f) :
    (s.size = 0 ∧ f = 0 ∧ done = [] ∧ clus d = []) ∨ (f < s.size ∧ s.extract f s.size = strC c ∧ clus d = done ++ [c] ∧ done.length + 1 ≤ d.length) := by
  obtain ⟨rest, h1, h2, h3, h4⟩ := h
  rw [ixs_snd] at h2
  have hr : rest = [] := by
    have := h1
    rw [← h2] at this
    have h5 := congrArg List.length this
    rw [List.length_append] at h5
    exact List.eq_nil_of_length_eq_zero (by omega)
  subst hr
  rcases h4 with ⟨h5, rfl, rfl⟩ | ⟨hc, h6⟩
  · left
    have hd : d = [] := by simpa using h2
    subst hd
    refine ⟨by rw [Lib.size_eq, ← hs]; rfl, by rw [h3]; rfl, rfl, rfl⟩
  · right
    have e1 : s.data.toList = encS done.flatten ++ encS c := by rw [← hs, h2, encS_app]
    have e2 : s.size = f + (encS c).length := by rw [Lib.size_eq, e1, List.length_append, h3]
    have hcp := encS_pos hc
    refine ⟨by omega, strL_of ?_, h6, ?_⟩
    · rw [Lib.extract_data, e1, h3, List.drop_left, List.take_of_length_le]
      omega
    · have h8 := clus_len d
      have h6' : clus d = done ++ [c] := h6
      rw [h6', List.length_append] at h8
      simpa using h8
end Go.Proofs.YthcabnfcgjnlnaaGreatDoor
/-
  A REGION THAT DRAWS ITS ORDER, IN A ROUND: what holds of it outside of a round holds in a round.
-/
namespace Go.Proofs.YthcabnfcgjnlnaaGreatDoor
open Go
set_option linter.unusedVariables false
variable {P : Program} {ops : Array Oper} {Q : Exit → Act → World → Prop}

theorem operIn_of {l n : Nat} {o : Oper} {a : Act} {w : World} {K : Act → World → Prop} (hd : ∀ c, o.op ≠ .defer c) (h : o.wp P a w K Q) : o.wpIn (Fence.wide.inRound l) n P a w K Q := by
  refine ⟨fun _ _ => trivial, ?_⟩
  have e : o.semAt (Fence.wide.inRound l).round a.eval = execOp a.eval o := Oper.semAt_some l a.eval o hd
  rw [e]
  unfold Oper.wp at h
  generalize (execOp a.eval o).run P w = r at h ⊢
  cases r with
  | ok x w' =>
    cases x with
    | value v => exact h
    | skip => exact h
    | defer d => exact h
    | enter f args =>
      refine ⟨fun hh => ?_, CallsIn.inRound l (callsIn_wide.2 h)⟩
      cases hh
    | row row args =>
      refine ⟨fun hh => ?_, fun c cs _ => ?_⟩
      · cases hh
      · obtain ⟨v, w2, h1, h2⟩ := h c cs
        exact ⟨v, w2, h1, stepsIn_wide.2 h2⟩
    | _ => exact h.elim
  | halt x w' =>
    cases x with
    | panic v => exact h
    | _ => exact h.elim
theorem wpAnyIn_of {l n : Nat} (hd : ∀ (i : Nat) (o : Oper) c, ops[i]? = some o → o.op ≠ .defer c) (hQ : ¬ LetsOut Q) : ∀ (fuel : Nat) (listed : Array Bool) (a : Act) (w : World),
    wpAny P .any ops Q fuel listed a w → wpAnyIn (Fence.wide.inRound l) n P .any ops Q fuel listed a w
  | 0, _, _, _, h => h
  | fuel + 1, listed, a, w, h => by
    refine ⟨h.1, fun i hi => ?_⟩
    have h2 := h.2 i hi
    unfold wpOp at h2
    unfold wpOpIn
    cases ho : ops[i]? with
    | none =>
      rw [ho] at h2
      exact wpAnyIn_of hd hQ fuel _ a w h2
    | some o =>
      rw [ho] at h2
      simp only at h2 ⊢
      split
      · rename_i hw
        rw [if_pos hw] at h2
        rcases h2 with h2 | h2
        · exact operIn_of (fun c => hd i o c ho) (Oper.wp_mono (fun a' w' h' => wpAnyIn_of hd hQ fuel _ a' w' h') h2)
        · exact absurd h2.2 hQ
      · rename_i hw
        rw [if_neg hw] at h2
        exact ⟨fun _ _ => trivial, wpAnyIn_of hd hQ fuel _ _ w h2⟩
/-- **The region in a round, from the walk of all orders under S.** -/
theorem wpIn_region_held {l n id : Nat} {a : Act} {w : World} (S : World → Prop) (hm : P.follows .mixedOrders = true) (hd : (ops.all fun o => match o.op with | .defer _ => false | _ => true) = true) (hQ : ¬ LetsOut Q)
    (h : wpAnyH P .any ops Q S ops.size (Array.replicate ops.size false) a w.drew) : (Code.region id ops true).wpIn (Fence.wide.inRound l) n P Q a w := by
  refine wpIn_region_any hm (wpAnyIn_of ?_ hQ _ _ _ _ (wpAny_of_held _ _ _ _ h))
  intro i o c ho e
  have hi := (Array.getElem?_eq_some_iff.1 ho).1
  have := Array.all_eq_true.1 hd i hi
  rw [(Array.getElem?_eq_some_iff.1 ho).2, e] at this
  cases this
theorem wpIn_region_calm {l n id : Nat} {a : Act} {w : World} (S : World → Prop) (hm : P.follows .mixedOrders = true) (hd : (ops.all fun o => match o.op with | .defer _ => false | _ => true) = true) (hQ : ∀ a w, ¬ Q .outgrown a w)
    (h : wpAnyH P .any ops (NoPanic Q) S ops.size (Array.replicate ops.size false) a w.drew) : (Code.region id ops true).wpIn (Fence.wide.inRound l) n P Q a w :=
  Go.wpIn_mono (wpIn_region_held (Q := NoPanic Q) S hm hd (by rintro ⟨a1, w1, h1⟩; exact hQ a1 w1 h1) h) NoPanic.imp
end Go.Proofs.YthcabnfcgjnlnaaGreatDoor
