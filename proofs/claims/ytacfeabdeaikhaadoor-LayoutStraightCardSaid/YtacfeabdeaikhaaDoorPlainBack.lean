/-
  PLAIN LAW of the chapter on runes: points and their bytes are inverse; two marks change places. No program in sight.
-/
import Derived.Test.YtacfeabdeaikhaaDoorPlainClus
set_option linter.unusedVariables false
set_option linter.unusedSimpArgs false
namespace Go.Proofs.YtacfeabdeaikhaaDoor.Ru
open Go.Proofs.YtacfeabdeaikhaaDoor.Col Go.Proofs.YtacfeabdeaikhaaDoor.Srt

theorem u8_nat {n : Nat} (h : n < 256) : (UInt8.ofNat n).toNat = n := by
  rw [UInt8.toNat_ofNat']; omega
theorem scalar_iff {p : Nat} : scalarB (p : Int) = true ↔ p ≤ 1114111 ∧ (p < 55296 ∨ 57343 < p) := by
  unfold scalarB
  simp only [Bool.and_eq_true, Bool.or_eq_true, decide_eq_true_eq]
  omega
theorem encL_len (p : Int) : 1 ≤ (encL p).length ∧ (encL p).length ≤ 4 := by
  unfold encL encI
  repeat' split
  all_goals simp
set_option maxRecDepth 100000 in
theorem first_enc {p : Nat} (h : scalarB (p : Int) = true) (rest : List UInt8) : firstL (encL (p : Int) ++ rest) = some (p, (encL (p : Int)).length) := by
  have hs := scalar_iff.1 h
  by_cases h1 : p < 128
  · have e : encL (p : Int) = [UInt8.ofNat p] := by unfold encL encI; rw [if_pos (by omega)]; simp
    have el : lead (UInt8.ofNat p).toNat = (p, 1) := by rw [u8_nat (by omega)]; unfold lead; rw [if_neg (by omega), if_neg (by omega), if_neg (by omega)]
    rw [e]
    simp only [List.cons_append, List.nil_append, firstL, el]
    simp only [Nat.sub_self, List.take_zero, cont, List.foldl_nil]
    rw [if_pos ⟨by omega, h, by rw [e]; simp⟩]
    rfl
  · by_cases h2 : p < 2048
    · have e : encL (p : Int) = [UInt8.ofNat (192 + p / 64), UInt8.ofNat (128 + p % 64)] := by
        unfold encL encI
        rw [if_neg (by omega), if_pos (by omega)]
        simp only [List.map_cons, List.map_nil]
        rw [show (192 + (p : Int) / 64).toNat = 192 + p / 64 by omega, show (128 + (p : Int) % 64).toNat = 128 + p % 64 by omega]
      have el : lead (UInt8.ofNat (192 + p / 64)).toNat = (p / 64, 2) := by
        rw [u8_nat (by omega)]; unfold lead; rw [if_neg (by omega), if_neg (by omega), if_pos (by omega)]
        congr 1; omega
      rw [e]
      simp only [List.cons_append, List.nil_append, firstL, el]
      have ec : cont (p / 64) ((UInt8.ofNat (128 + p % 64) :: rest).take (2 - 1)) = p := by
        simp only [cont, Nat.reduceSub, List.take_succ_cons, List.take_zero, List.foldl_cons, List.foldl_nil]
        rw [u8_nat (by omega)]; omega
      rw [ec, if_pos ⟨by simp, h, by rw [e]; simp⟩]
      rfl
    · by_cases h3 : p < 65536
      · have e : encL (p : Int) = [UInt8.ofNat (224 + p / 4096), UInt8.ofNat (128 + p / 64 % 64), UInt8.ofNat (128 + p % 64)] := by
          unfold encL encI
          rw [if_neg (by omega), if_neg (by omega), if_pos (by omega)]
          simp only [List.map_cons, List.map_nil]
          rw [show (224 + (p : Int) / 4096).toNat = 224 + p / 4096 by omega, show (128 + (p : Int) / 64 % 64).toNat = 128 + p / 64 % 64 by omega, show (128 + (p : Int) % 64).toNat = 128 + p % 64 by omega]
        have el : lead (UInt8.ofNat (224 + p / 4096)).toNat = (p / 4096, 3) := by
          rw [u8_nat (by omega)]; unfold lead; rw [if_neg (by omega), if_pos (by omega)]
          congr 1; omega
        rw [e]
        simp only [List.cons_append, List.nil_append, firstL, el]
        have ec : cont (p / 4096) ((UInt8.ofNat (128 + p / 64 % 64) :: UInt8.ofNat (128 + p % 64) :: rest).take (3 - 1)) = p := by
          simp only [cont, Nat.reduceSub, List.take_succ_cons, List.take_zero, List.foldl_cons, List.foldl_nil]
          rw [u8_nat (by omega), u8_nat (by omega)]; omega
        rw [ec, if_pos ⟨by simp, h, by rw [e]; simp⟩]
        rfl
      · have e : encL (p : Int) = [UInt8.ofNat (240 + p / 262144), UInt8.ofNat (128 + p / 4096 % 64), UInt8.ofNat (128 + p / 64 % 64), UInt8.ofNat (128 + p % 64)] := by
          unfold encL encI
          rw [if_neg (by omega), if_neg (by omega), if_neg (by omega)]
          simp only [List.map_cons, List.map_nil]
          rw [show (240 + (p : Int) / 262144).toNat = 240 + p / 262144 by omega, show (128 + (p : Int) / 4096 % 64).toNat = 128 + p / 4096 % 64 by omega, show (128 + (p : Int) / 64 % 64).toNat = 128 + p / 64 % 64 by omega, show (128 + (p : Int) % 64).toNat = 128 + p % 64 by omega]
        have el : lead (UInt8.ofNat (240 + p / 262144)).toNat = (p / 262144, 4) := by
          rw [u8_nat (by omega)]; unfold lead; rw [if_pos (by omega)]
          congr 1; omega
        rw [e]
        simp only [List.cons_append, List.nil_append, firstL, el]
        have ec : cont (p / 262144) ((UInt8.ofNat (128 + p / 4096 % 64) :: UInt8.ofNat (128 + p / 64 % 64) :: UInt8.ofNat (128 + p % 64) :: rest).take (4 - 1)) = p := by
          simp only [cont, Nat.reduceSub, List.take_succ_cons, List.take_zero, List.foldl_cons, List.foldl_nil]
          rw [u8_nat (by omega), u8_nat (by omega), u8_nat (by omega)]; omega
        rw [ec, if_pos ⟨by simp, h, by rw [e]; simp⟩]
        rfl
theorem points_cons {p : Nat} (h : scalarB (p : Int) = true) (rest : List UInt8) : points (encL (p : Int) ++ rest) = (points rest).map (p :: ·) := by
  rw [points_some (first_enc h rest), List.drop_left]
/-- All are scalars. -/
def Sc (l : List Nat) : Prop := ∀ p ∈ l, scalarB (p : Int) = true
theorem points_encS {l : List Nat} (h : Sc l) : points (encS l) = some l := by
  induction l with
  | nil => rfl
  | cons p t ih =>
    rw [encS_cons, points_cons (h p (by simp)), ih (fun q hq => h q (by simp [hq]))]
    rfl
theorem points_app {l : List Nat} (h : Sc l) (s : List UInt8) : points (encS l ++ s) = (points s).map (l ++ ·) := by
  induction l with
  | nil => rw [encS_nil, List.nil_append]; cases points s <;> simp
  | cons p t ih =>
    rw [encS_cons, List.append_assoc, points_cons (h p (by simp)), ih (fun q hq => h q (by simp [hq]))]
    cases points s <;> simp
theorem points_valid : ∀ (n : Nat) (s : List UInt8) (d : List Nat), s.length ≤ n → points s = some d → Sc d ∧ encS d = s
  | 0, s, d, hn, h => by
    have : s = [] := List.eq_nil_of_length_eq_zero (by omega)
    subst this
    rw [points_nil] at h
    cases h
    exact ⟨fun p hp => by simp at hp, rfl⟩
  | n + 1, s, d, hn, h => by
    by_cases h0 : s = []
    · subst h0
      rw [points_nil] at h
      cases h
      exact ⟨fun p hp => by simp at hp, rfl⟩
    · cases hf : firstL s with
      | none => rw [points_none h0 hf] at h; cases h
      | some pn =>
        obtain ⟨p, m⟩ := pn
        obtain ⟨f1, f2, f3, f4, f5⟩ := firstL_some hf
        rw [points_some hf] at h
        cases hp : points (s.drop m) with
        | none => rw [hp] at h; cases h
        | some d' =>
          rw [hp] at h
          cases h
          obtain ⟨i1, i2⟩ := points_valid n (s.drop m) d' (by rw [List.length_drop]; omega) hp
          refine ⟨fun q hq => ?_, by rw [encS_cons, i2, f5, List.take_append_drop]⟩
          rcases List.mem_cons.1 hq with rfl | hq
          · exact f4
          · exact i1 q hq
theorem points_sc {s : List UInt8} {d : List Nat} (h : points s = some d) : Sc d := (points_valid s.length s d (Nat.le_refl _) h).1
theorem encS_points {s : List UInt8} {d : List Nat} (h : points s = some d) : encS d = s := (points_valid s.length s d (Nat.le_refl _) h).2
theorem Sc.perm {l m : List Nat} (h : Sc l) (hp : m.Perm l) : Sc m := fun p hm => h p (hp.mem_iff.1 hm)
theorem Sc.app {l m : List Nat} (h : Sc l) (k : Sc m) : Sc (l ++ m) := fun p hp => by
  rcases List.mem_append.1 hp with hp | hp
  · exact h p hp
  · exact k p hp
theorem encS_inj {l m : List Nat} (hl : Sc l) (hm : Sc m) (h : encS l = encS m) : l = m := by
  have h1 := points_encS hl
  rw [h, points_encS hm] at h1
  exact (Option.some.inj h1).symm
theorem encS_perm {l m : List Nat} (h : l.Perm m) : (encS l).length = (encS m).length := by
  unfold encS
  exact (h.flatMap_right _).length_eq
theorem mk_scalar {p : Nat} (h : mk p = true) : scalarB (p : Int) = true := by
  rw [scalar_iff]
  unfold mk markB at h
  rw [Bool.and_eq_true, decide_eq_true_eq, decide_eq_true_eq] at h
  omega

def ByCls (l : List Nat) : Prop := l.Pairwise fun x y => cls x ≤ cls y
theorem stable_self {l : List Nat} (hl : ByCls l) (r : List Nat) : ∀ k, k ≤ l.length → StableOf cmpC ((l ++ r).take k) (l.take k)
  | 0, _ => by simpa using stable_nil
  | k + 1, hk => by
    have hx : (l ++ r)[k]? = some (l[k]'(by omega)) := by
      rw [List.getElem?_append_left (by omega)]
      exact List.getElem?_eq_getElem (by omega)
    have h1 := ordR_stable (stable_self hl r k (by omega)) hx
    have h2 : ordR (l.take k) (l[k]'(by omega)) = l.take (k + 1) := by
      rw [ordR_end, List.take_succ_eq_append_getElem (by omega)]
      intro z hz
      obtain ⟨j, hj, rfl⟩ := List.getElem_of_mem hz
      rw [List.length_take] at hj
      rw [List.getElem_take]
      exact List.pairwise_iff_getElem.1 hl j k (by omega) (by omega) (by omega)
    rwa [h2] at h1
theorem stable_one {l : List Nat} (hl : ByCls l) (x : Nat) : StableOf cmpC (l ++ [x]) (ordR l x) := by
  have h1 := stable_self hl [x] l.length (Nat.le_refl _)
  rw [List.take_length] at h1
  have h2 := ordR_stable (x := x) h1 (by simp)
  rwa [List.take_of_length_le (by simp)] at h2
theorem stable_two {l : List Nat} (hl : ByCls l) (x y : Nat) : StableOf cmpC (l ++ [x, y]) (ordR (ordR l x) y) := by
  have h1 := stable_self hl [x, y] l.length (Nat.le_refl _)
  rw [List.take_length] at h1
  have h2 := ordR_stable (x := x) h1 (by simp)
  have h3 := ordR_stable (k := l.length + 1) (x := y) h2 (by simp)
  rwa [List.take_of_length_le (by simp)] at h3
theorem ordR_bycls {l : List Nat} (hl : ByCls l) (x : Nat) : ByCls (ordR l x) := stable_pair (stable_one hl x)
/-- Within one class the stable sort keeps the order. -/
theorem stable_filter {xs ys : List Nat} (h : StableOf cmpC xs ys) (c : Int) : (ys.filter fun z => decide (cls z = c)) = xs.filter fun z => decide (cls z = c) := by
  obtain ⟨p, p1, p2, rfl⟩ := h
  have e1 : (p.map (·.1)).filter (fun z => decide (cls z = c)) = (p.filter fun q => decide (cls q.1 = c)).map (·.1) := by rw [List.filter_map]; rfl
  have e2 : xs.filter (fun z => decide (cls z = c)) = (xs.zipIdx.filter fun q => decide (cls q.1 = c)).map (·.1) := by
    conv => lhs; rw [← List.zipIdx_map_fst 0 xs]
    rw [List.filter_map]; rfl
  rw [e1, e2]
  congr 1
  refine sorted_unique cmpC_is (p1.filter _) (p2.filter _) ?_
  have hz : xs.zipIdx.Pairwise fun a b => a.2 < b.2 := by
    rw [List.pairwise_iff_getElem]
    intro i j hi hj hij
    simp
    exact hij
  rw [List.pairwise_filter]
  refine hz.imp fun {a b} hab ha hb => ?_
  have h1 := of_decide_eq_true ha
  have h2 := of_decide_eq_true hb
  unfold lexLt cmpC
  right
  exact ⟨by omega, hab⟩
theorem by_class : ∀ (l m : List Nat), ByCls l → ByCls m → (∀ c : Int, (l.filter fun z => decide (cls z = c)) = m.filter fun z => decide (cls z = c)) → l = m
  | [], [], _, _, _ => rfl
  | [], y :: m, _, _, h => by
    have := h (cls y)
    simp at this
  | x :: l, [], _, _, h => by
    have := h (cls x)
    simp at this
  | x :: l, y :: m, hl, hm, h => by
    have hx : x ∈ y :: m := by
      have h1 : x ∈ (y :: m).filter (fun z => decide (cls z = cls x)) := by rw [← h (cls x)]; simp
      exact (List.mem_filter.1 h1).1
    have hy : y ∈ x :: l := by
      have h1 : y ∈ (x :: l).filter (fun z => decide (cls z = cls y)) := by rw [h (cls y)]; simp
      exact (List.mem_filter.1 h1).1
    have c1 : cls y ≤ cls x := by
      rcases List.mem_cons.1 hx with rfl | hx
      · exact Int.le_refl _
      · exact (List.pairwise_cons.1 hm).1 x hx
    have c2 : cls x ≤ cls y := by
      rcases List.mem_cons.1 hy with rfl | hy
      · exact Int.le_refl _
      · exact (List.pairwise_cons.1 hl).1 y hy
    have e : cls x = cls y := by omega
    have hxy : x = y := by
      have h1 := h (cls x)
      rw [List.filter_cons_of_pos (by simp), List.filter_cons_of_pos (by simp [e])] at h1
      injection h1
    subst hxy
    congr 1
    refine by_class l m (List.pairwise_cons.1 hl).2 (List.pairwise_cons.1 hm).2 fun c => ?_
    have h1 := h c
    by_cases hc : cls x = c
    · rw [List.filter_cons_of_pos (by simp [hc]), List.filter_cons_of_pos (by simp [hc])] at h1
      injection h1
    · rwa [List.filter_cons_of_neg (by simp [hc]), List.filter_cons_of_neg (by simp [hc])] at h1
theorem ordR_comm {l : List Nat} {a b : Nat} (hl : ByCls l) (h : cls a ≠ cls b) : ordR (ordR l a) b = ordR (ordR l b) a := by
  have hp1 := stable_two hl a b
  have hp2 := stable_two hl b a
  refine by_class _ _ (stable_pair hp1) (stable_pair hp2) fun c => ?_
  rw [stable_filter hp1, stable_filter hp2, List.filter_append, List.filter_append]
  congr 1
  by_cases ha : cls a = c
  · have hb : ¬ cls b = c := fun hb => h (by omega)
    simp [List.filter_cons, ha, hb]
  · by_cases hb : cls b = c <;> simp [List.filter_cons, ha, hb]
theorem ordR_same {l : List Nat} {a b : Nat} (hl : ByCls l) (h : cls a = cls b) (he : ordR (ordR l a) b = ordR (ordR l b) a) : a = b := by
  have h1 := stable_filter (stable_two hl a b) (cls a)
  have h2 := stable_filter (stable_two hl b a) (cls a)
  rw [he, h2, List.filter_append, List.filter_append] at h1
  have h3 := List.append_cancel_left h1
  simp [List.filter_cons, h] at h3
  exact h3.2
/-- The last cluster is open: two marks go into it. -/
theorem ordGo_two (d : List Nat) : ∀ c, ByCls c → ∃ f l, ByCls l ∧ ∀ x y, mk x = true → mk y = true → ordGo c (d ++ [x, y]) = f ++ ordR (ordR l x) y := by
  induction d with
  | nil =>
    intro c hc
    refine ⟨[], c, hc, fun x y hx hy => ?_⟩
    simp [ordGo, hx, hy]
  | cons p t ih =>
    intro c hc
    by_cases hp : mk p = true
    · obtain ⟨f, l, hl, h⟩ := ih (ordR c p) (ordR_bycls hc p)
      refine ⟨f, l, hl, fun x y hx hy => ?_⟩
      rw [List.cons_append]
      show (if mk p = true then ordGo (ordR c p) (t ++ [x, y]) else _) = _
      rw [if_pos hp, h x y hx hy]
    · obtain ⟨f, l, hl, h⟩ := ih [p] (List.pairwise_singleton _ _)
      refine ⟨c ++ f, l, hl, fun x y hx hy => ?_⟩
      rw [List.cons_append]
      show (if mk p = true then _ else c ++ ordGo [p] (t ++ [x, y])) = _
      rw [if_neg hp, h x y hx hy, List.append_assoc]
theorem swaps (d : List Nat) {a b : Nat} (ha : mk a = true) (hb : mk b = true) : (ords (d ++ [a, b]) = ords (d ++ [b, a])) ↔ (a = b ∨ cls a ≠ cls b) := by
  obtain ⟨f, l, hl, h⟩ := ordGo_two d [] List.Pairwise.nil
  unfold ords
  rw [h a b ha hb, h b a hb ha]
  constructor
  · intro he
    by_cases hc : cls a = cls b
    · exact .inl (ordR_same hl hc (List.append_cancel_left he))
    · exact .inr hc
  · rintro (rfl | hc)
    · rfl
    · rw [ordR_comm hl hc]
end Go.Proofs.YtacfeabdeaikhaaDoor.Ru
