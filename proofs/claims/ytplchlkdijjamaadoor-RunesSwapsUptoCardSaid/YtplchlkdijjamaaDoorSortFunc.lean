/-
  slices.SortStableFunc ON A PART OF A ROW OF INTEGERS, by the difference of the classes.
-/
import Derived.Test.YtplchlkdijjamaaDoorSortStable
import Derived.Test.YtplchlkdijjamaaDoorClass
import Derived.Test.YtplchlkdijjamaaDoorPlainBack
import Derived.Test.YtplchlkdijjamaaDoorOwn
import Derived.Shelf.Abstract
namespace Go.Proofs.YtplchlkdijjamaaDoor
open Go.RowKit Srt Col
set_option linter.unusedVariables false
set_option linter.unusedSimpArgs false

set_option maxHeartbeats 400000 in
theorem ssf_any (c : Int → Int → Int) (hc : IsCmp c) (Q : Int → Prop) (g : Nat) (cb : Array Value) (blk off cap n : Nat) (d0 : Nat → Tag Int) (w : World)
    (eg : ∀ args w, (callFunc g args).run Tryd.prog w = .ok (.enter g args) w) (hcmp : CmpOKS g cb c Q w blk off n) (hQ : ∀ j, j < n → Q (d0 j).1) (S : SS encS w blk off n d0 w)
    (hsz : n ≤ 140737488355328) (h0 : ∀ k, (d0 k).2 = k) :
    Calls Tryd.prog 37 #[.slice (some ⟨blk, off, none⟩) n cap, .func (.func g) #[] cb] w fun e w' => e = .returned (.tuple #[]) ∧
      ∃ d', SS encS w blk off n d' w' ∧ PermOn 0 n d0 d' ∧ SortedOn c d' 0 n := by
  have hc' := Lib.hid (stable_any c hc Q g cb blk off cap n d0 w w eg hcmp hQ S hsz h0)
  clear hcmp hQ S h0
  go_enter Tryd.func37, Tryd.ntmps37
  go_wp2_with fail
  refine hc'.out.mono ?_
  rintro e w1 ⟨rfl, h⟩
  have H := Lib.hid h; clear h
  go_wp2
  go_end0
  exact ⟨rfl, H.out⟩

/-- Part of a row of the call's own, told again. -/
theorem SS.ownedPart {α : Type} {enc : α → Value} {w0 W : World} {blk off m : Nat} {d : Nat → α} {base e c n : Nat} {A C C' R : List Value} (h : SS enc w0 blk off m d W)
    (ho : w0.ownsRow base e 1 (.slice (some ⟨blk, 0, none⟩) n c) n (A ++ C ++ R)) (hA : A.length = off) (hC : C.length = m) (hl : C'.length = m) (hy : ∀ j, j < m → C'[j]? = some (enc (d j))) :
    W.ownsRow base e 1 (.slice (some ⟨blk, 0, none⟩) n c) n (A ++ C' ++ R) := by
  have hlen := ho.1
  refine ⟨by simp only [List.length_append] at hlen ⊢; omega, ?_⟩
  rcases ho.2 with ⟨h1, _⟩ | ⟨g, cap, cur, hv, hg, hh, hn, hm, hs, ht⟩
  · cases h1
  · injection hv with hv1 hv2 hv3
    injection hv1 with hv1
    injection hv1 with hv1
    subst hv1 hv3
    obtain ⟨c1, c', e', fr, h1, h2, h3, h4⟩ := h.obj
    rw [hh] at h1
    cases h1
    refine .inr ⟨blk, c, c', rfl, hg, h2, hn, hm, by rw [h3]; exact hs, ?_⟩
    simp only [Nat.mul_one] at ht ⊢
    apply List.ext_getElem?
    intro j
    have hj := congrArg (fun l => l[j]?) ht
    replace hj : (cur.toList.take n)[j]? = (A ++ C ++ R)[j]? := by simpa using hj
    rw [List.getElem?_take] at hj ⊢
    by_cases h5 : j < off
    · rw [show c'.toList[j]? = cur.toList[j]? by simpa using h4 j (.inl h5), hj, List.append_assoc, List.append_assoc, List.getElem?_append_left (by omega), List.getElem?_append_left (by omega)]
    · by_cases h6 : j < off + m
      · have hc := h.cells (j - off) (by omega)
        rw [show off + (j - off) = j by omega] at hc
        simp only [World.cell?, h2] at hc
        have hjn : j < n := by simp only [List.length_append] at hlen; omega
        rw [if_pos hjn, List.append_assoc, List.getElem?_append_right (by omega), hA, List.getElem?_append_left (by omega), hy _ (by omega)]
        simpa using hc
      · rw [show c'.toList[j]? = cur.toList[j]? by simpa using h4 j (.inr (by omega)), hj, List.append_assoc, List.append_assoc, List.getElem?_append_right (by omega), List.getElem?_append_right (by omega), List.getElem?_append_right (by omega), List.getElem?_append_right (by omega), hC, hl]

theorem stableOf_map {α β : Type} {c : β → β → Int} (f : α → β) {xs ys : List α} (h : StableOf (fun x y => c (f x) (f y)) xs ys) : StableOf c (xs.map f) (ys.map f) := by
  obtain ⟨p, h1, h2, rfl⟩ := h
  refine ⟨p.map fun x => (f x.1, x.2), ?_, ?_, by simp [List.map_map, Function.comp_def]⟩
  · rw [List.zipIdx_map]
    exact h1.map _
  · rw [List.pairwise_map]
    exact h2
def cI (x y : Int) : Int := Ru.classI x - Ru.classI y
theorem cI_is : IsCmp cI := IsCmp.diff Ru.classI
theorem sort_nat {c : List Nat} {ys : List Int} (h : StableOf cI (c.map fun (p : Nat) => (p : Int)) ys) : ys = (Ru.sortC c).map fun (p : Nat) => (p : Int) :=
  h.unique cI_is (stableOf_map (fun (p : Nat) => (p : Int)) (Ru.sortC_stable c))

def natV (l : List Nat) : List Value := l.map fun (p : Nat) => Value.int .i64 (p : Int)
theorem natV_app (a b : List Nat) : natV (a ++ b) = natV a ++ natV b := List.map_append
theorem natV_len (a : List Nat) : (natV a).length = a.length := List.length_map ..

set_option maxHeartbeats 400000 in
theorem order1_any (x y : Int) (w : World) : Calls Tryd.prog 38 #[.int .i64 x, .int .i64 y] w fun e w' => e = .returned (.int .i64 (cI x y)) ∧ Below w.heap.size w w' := by
  have h1 := class_range x
  have h2 := class_range y
  have hx := Lib.hid (class_any x)
  have hy := Lib.hid (class_any y)
  obtain ⟨a, ha⟩ : ∃ a, Ru.classI x = a := ⟨_, rfl⟩
  obtain ⟨b, hb⟩ : ∃ b, Ru.classI y = b := ⟨_, rfl⟩
  have HR : Hid (cI x y = a - b) := by show _ = _; unfold cI; rw [ha, hb]
  rw [ha] at hx h1
  rw [hb] at hy h2
  clear ha hb
  have hw : IntKind.i64.wrap (a - b) = a - b := IntWalk.i64_in _ (by omega)
  go_enter Tryd.func38, Tryd.ntmps38
  go_wp2_with fail
  refine (hx.out _).mono ?_
  rintro e w1 ⟨rfl, rfl⟩
  go_wp2_with fail
  refine (hy.out _).mono ?_
  rintro e w1 ⟨rfl, rfl⟩
  go_wp2
  go_ret
  exact ⟨by rw [HR.out]; rfl, Below.refl _ _⟩
theorem enters_order1 : ∀ args w, (callFunc 38 args).run Tryd.prog w = .ok (.enter 38 args) w := enters_of Tryd.func38 (by kernel_rfl) rfl

theorem own_cells {w : World} {base e n c g : Nat} {xs : List Value} (h : w.ownsRow base e 1 (.slice (some ⟨g, 0, none⟩) n c) n xs) :
    (∀ j u, xs[j]? = some u → w.cell? ⟨g, j, none⟩ = some u) ∧ (∀ j, w.frozen? ⟨g, j, none⟩ = false) ∧ g < w.heap.size ∧ base ≤ g ∧ ∃ cur e' fr, w.heap[g]? = some (.cells cur e' fr) := by
  have hlt := h.lt g rfl
  rcases h.2 with ⟨h1, _⟩ | ⟨g', cap, cur, hv, hg, hh, hn, hm, hs, ht⟩
  · cases h1
  · injection hv with hv1 hv2 hv3
    injection hv1 with hv1
    injection hv1 with hv1
    subst hv1
    refine ⟨fun j u hu => ?_, fun j => ?_, hlt.2, hg, cur, e, _, hh⟩
    · rw [← ht, List.getElem?_take] at hu
      split at hu
      · simp [World.cell?, hh] at hu ⊢
        exact hu
      · cases hu
    · simp [World.frozen?, hh]

/-- **Part of a row of points, put in order.** -/
theorem part_any {A C R : List Nat} {g cap cap2 n f m base : Nat} {w : World} (hown : w.ownsRow base 3 1 (.slice (some ⟨g, 0, none⟩) n cap) n (natV (A ++ C ++ R))) (hA : A.length = f) (hC : C.length = m)
    (hn : m ≤ 140737488355328) :
    Calls Tryd.prog 37 #[.slice (some ⟨g, f, none⟩) m cap2, .func (.func 38) #[] #[]] w fun e w' => e = .returned (.tuple #[]) ∧
      w'.ownsRow base 3 1 (.slice (some ⟨g, 0, none⟩) n cap) n (natV (A ++ Ru.sortC C ++ R)) ∧ Below base w w' := by
  obtain ⟨o1, o2, o3, o4, o5⟩ := own_cells hown
  have hcl : ∀ j, j < m → w.cell? ⟨g, f + j, none⟩ = some (encS (tagged (C.map fun (p : Nat) => (p : Int)) j)) := by
    intro j hj
    refine o1 (f + j) _ ?_
    have hj' : j < C.length := by omega
    unfold natV
    rw [List.append_assoc, List.map_append, List.getElem?_append_right (by rw [List.length_map]; omega), List.length_map, hA, Nat.add_sub_cancel_left, List.map_append, List.getElem?_append_left (by rw [List.length_map]; omega), List.getElem?_map, List.getElem?_eq_getElem hj']
    simp [tagged, encS, List.getD, hj']
  have hS : SS encS w g f m (tagged (C.map fun (p : Nat) => (p : Int))) w := SS.start o3 hcl (fun j _ => o2 _) o5
  refine (ssf_any cI cI_is (fun _ => True) 38 #[] g f cap2 m _ w enters_order1 (fun W d _ x y _ _ p => order1_any x y _) (fun _ _ => trivial) hS hn (fun _ => rfl)).mono ?_
  rintro e w' ⟨rfl, d', h1, h2, h3⟩
  have hCm : (C.map fun (p : Nat) => (p : Int)).length = m := by rw [List.length_map, hC]
  have hst := sort_nat (stableOf_of (c := cI) (xs := C.map fun (p : Nat) => (p : Int)) (d := d') (by rw [hCm]; exact h2) (by rw [hCm]; exact h3))
  rw [hCm] at hst
  refine ⟨rfl, ?_, h1.belowBase o4⟩
  rw [natV_app, natV_app] at hown ⊢
  refine h1.ownedPart hown (by rw [natV_len, hA]) (by rw [natV_len, hC]) (by rw [natV_len, (Ru.sortC_perm C).length_eq, hC]) (fun j hj => ?_)
  have e1 : natV (Ru.sortC C) = ((Ru.sortC C).map fun (p : Nat) => (p : Int)).map (Value.int .i64) := by unfold natV; rw [List.map_map]; rfl
  rw [e1, ← hst]
  simp [listOf, encS, hj]
end Go.Proofs.YtplchlkdijjamaaDoor
