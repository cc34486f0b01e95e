/-
  concord.Hit: the line of a note.
-/
import Derived.Test.YtdpllfgnppeneaaGreatDoorG11
import Derived.Test.YtdpllfgnppeneaaGreatDoorG06
import Derived.Lib.MinMax
namespace Go.Proofs.YtdpllfgnppeneaaGreatDoor
open Go.RowKit Ru Lay Srt Col
attribute [local go_sem ↓] Go.wp_at_zero Go.wp_at_succ
set_option linter.unusedVariables false
set_option linter.unusedSimpArgs false

theorem idxOf_at {ks : List Int} {x : Int} (h : x ∈ ks) : ∃ k : Nat, k < ks.length ∧ Lib.idxOf ks x = (k : Int) ∧ ks[k]? = some x := by
  have hex : ∃ k, k < ks.length ∧ ks.getD k 0 = x := by
    obtain ⟨k, hk⟩ := List.getElem?_of_mem h
    exact ⟨k, (List.getElem?_eq_some_iff.1 hk).1, by rw [List.getD, hk]; rfl⟩
  obtain ⟨k, hk, hmin⟩ : ∃ k, (k < ks.length ∧ ks.getD k 0 = x) ∧ ∀ j, j < k → ¬ (j < ks.length ∧ ks.getD j 0 = x) := by
    obtain ⟨k, hk⟩ := hex
    induction k using Nat.strongRecOn with
    | _ k ih =>
      by_cases hm : ∃ j, j < k ∧ j < ks.length ∧ ks.getD j 0 = x
      · obtain ⟨j, hj, h2⟩ := hm
        exact ih j hj h2
      · exact ⟨k, hk, fun j hj h2 => hm ⟨j, hj, h2⟩⟩
  refine ⟨k, hk.1, ?_, ?_⟩
  · have := Lib.idxOf_hit ks ks.length k x hk.1 (Nat.le_refl _) hk.2 (fun j hj h2 => hmin j hj ⟨by omega, h2⟩)
    rw [List.take_length] at this
    exact this
  · have := hk.2
    rw [List.getD, List.getElem?_eq_getElem hk.1] at this
    rw [List.getElem?_eq_getElem hk.1]
    exact congrArg some (by simpa using this)
theorem kids_self {tn : Nat} {l : List Nt} {id : Int} {x : Nt} (h : getN l id = some x) (ht : 0 ≤ x.tier ∧ x.tier < (tn : Int)) : id ∈ kidsL tn l x.parent x.tier := by
  have h1 := List.find?_some h
  have h2 := List.mem_of_find?_eq_some h
  exact kidsL_mem.2 ⟨x, List.mem_filter.2 ⟨h2, by simp [ht.1, ht.2]⟩, by simpa using h1⟩
theorem ir_sub {w : World} {B g n : Nat} {ks : List Int} (h : IR w B (some ⟨g, 0, none⟩) n ks) (lo m : Nat) (hm : lo + m ≤ n) : IR w B (some ⟨g, lo, none⟩) m ((ks.drop lo).take m) := by
  have hl := h.len
  refine ⟨by simp; omega, fun h0 => ⟨_, rfl, ?_, fun j u hu => ?_⟩⟩
  · obtain ⟨ad, e, hb, _⟩ := h.2 (by omega)
    cases e
    exact hb
  · obtain ⟨ad, e, _, hc⟩ := h.2 (by omega)
    cases e
    have hj : j < m := by
      have := (List.getElem?_eq_some_iff.1 hu).1
      simp at this
      omega
    have h3 : (ks.map (Value.int .i64))[lo + j]? = some u := by
      rw [List.getElem?_map] at hu ⊢
      rw [List.getElem?_take, if_pos hj, List.getElem?_drop] at hu
      exact hu
    have h4 := hc (lo + j) u h3
    rw [Addr.add_mid] at h4 ⊢
    rw [Nat.zero_add] at h4
    exact h4
theorem own_fresh {w : World} {base e s n m c : Nat} {A : Option Addr} {xs : List Value} (h : w.ownsRow base e s (.slice A n c) m xs) : ∀ ad, A = some ad → base ≤ ad.block := fun ad he => by
  rcases h.2 with ⟨h1, _⟩ | ⟨g, cap, cur, hv, hg, _⟩
  · cases h1; cases he
  · cases hv; cases he; exact hg
theorem ir_subif {w : World} {B g n : Nat} {ks : List Int} (h : IR w B (some ⟨g, 0, none⟩) n ks) (lo m c : Nat) (hm : lo + m ≤ n) (hc : n ≤ c) : IR w B (if c = lo then some ⟨g, 0, none⟩ else some ⟨g, lo, none⟩) m ((ks.drop lo).take m) := by
  split
  · have hl := h.len
    exact ⟨by simp; omega, fun h0 => by omega⟩
  · exact ir_sub h lo m hm
set_option maxHeartbeats 8000000 in
set_option maxRecDepth 100000 in
theorem hit_any (d : Dv) (l : List Nt) (id n : Int) (w : World) (hl : NotesR w w.heap.size d.na d.nn l) (hn : d.nn < 20) (ht : d.tn ≤ 9223372036854775807) (htr : ∀ x ∈ l, 0 ≤ x.tier ∧ x.tier < (d.tn : Int)) :
    Calls Tryz.prog 7 #[docV d, .int .i64 id, .int .i64 n] w fun e w' => ∃ hv : Hv, e = .returned (.tuple #[.agg (encH hv).toArray, .bool (getN l id).isSome]) ∧ hv.toHt = (hitL d.rid d.tn l id n).getD ht0 ∧ HvR w' w'.heap.size hv ∧ ((∀ ad, hv.la = some ad → w.heap.size ≤ ad.block) ∧ (∀ ad, hv.ra = some ad → w.heap.size ≤ ad.block)) ∧ Below w.heap.size w w' := by
  have HN := Lib.hid fun (W : World) (hW : Below w.heap.size w W) => hl.on hW
  have HG := Lib.hid fun (W : World) (hW : Below w.heap.size w W) => get_any d l id W (hl.on hW) (by omega)
  have HKD := Lib.hid fun (W : World) (hW : Below w.heap.size w W) (i t : Int) => kids_any d l i t W (hl.on hW) hn ht
  have HTR := Lib.hid htr
  clear hl htr
  unfold docV at HG HKD
  unfold docV
  obtain ⟨rid, name, len, day, sa, sn, sc, ta, tn, tc, na, nn, nc⟩ := d
  simp only at HG HKD HN HTR hn ht ⊢
  go_enter Tryz.func7, Tryz.ntmps7
  go_wp2_with fail
  obtain ⟨p, hp⟩ : ∃ p, w.heap.size = p := ⟨_, rfl⟩
  obtain ⟨W0, hW0⟩ : ∃ W0, ((w.alloc (.cells #[.int .i64 rid, .string name, .int .i64 len, .int .i64 day, .slice sa sn sc, .slice ta tn tc, .slice na nn nc] 28)).alloc (.cells #[.int .i64 0, .int .i64 0, .slice none 0 0, .string ⟨#[]⟩, .slice none 0 0] 35)) = W0 := ⟨_, rfl⟩
  have hz0 : W0.heap.size = p + 1 + 1 := by rw [← hW0, ← hp]; simp
  have HB : Hid (Below w.heap.size w W0) := by rw [← hW0]; exact ((Below.refl _ w).alloc (Nat.le_refl _) _).alloc (by simp) _
  have HTH0 : Hid (W0.there (p + 1) 0 5) := by
    have h := there_new (w.alloc (.cells #[.int .i64 rid, .string name, .int .i64 len, .int .i64 day, .slice sa sn sc, .slice ta tn tc, .slice na nn nc] 28)) #[.int .i64 0, .int .i64 0, .slice none 0 0, .string ⟨#[]⟩, .slice none 0 0] 35
    rw [hW0] at h
    show W0.there _ _ _
    rw [← hp]
    simpa using h
  have HD : Hid (∀ W, Below W0.heap.size W0 W → W.rangeAt p 0 [.int .i64 rid, .string name, .int .i64 len, .int .i64 day, .slice sa sn sc, .slice ta tn tc, .slice na nn nc]) := fun W hW => by
    refine range_below hW (by omega) ?_
    intro j v hv
    rw [← hW0, World.cell?_alloc_lt _ _ _ (by rw [← hp]; simp), ← hp, Nat.zero_add, World.cell?_alloc_new w _ _ j, ← hv, ← List.getElem?_toArray]
  have HRZ : Hid (W0.rangeAt (p + 1) 0 [.int .i64 0, .int .i64 0, .slice none 0 0, .string ⟨#[]⟩, .slice none 0 0]) := fun j v hv => by
    rw [← hW0, Nat.zero_add]
    have h := World.cell?_alloc_new (w.alloc (.cells #[.int .i64 rid, .string name, .int .i64 len, .int .i64 day, .slice sa sn sc, .slice ta tn tc, .slice na nn nc] 28)) #[.int .i64 0, .int .i64 0, .slice none 0 0, .string ⟨#[]⟩, .slice none 0 0] 35 j
    rw [show (w.alloc (.cells #[.int .i64 rid, .string name, .int .i64 len, .int .i64 day, .slice sa sn sc, .slice ta tn tc, .slice na nn nc] 28)).heap.size = p + 1 by rw [← hp]; simp] at h
    rw [h, ← hv, ← List.getElem?_toArray]
  rw [hW0]
  rw [hp] at HB HN HG HKD
  simp only [hp]
  clear hW0
  refine (HG.out W0 HB.out).mono ?_
  rintro e w1 ⟨rfl, hb1⟩
  have HB1 : Hid (Below W0.heap.size W0 w1) := hb1
  clear hb1 HG
  obtain ⟨b8, hb8⟩ : ∃ b8, w1.heap.size = b8 := ⟨_, rfl⟩
  have hsz1 : p + 1 + 1 ≤ b8 := by have := HB1.out.size; omega
  obtain ⟨og, hog⟩ : ∃ og, Hid (getN l id = og) := ⟨_, rfl⟩
  rw [hog.out]
  cases og with
  | none =>
    have HBZ : Below W0.heap.size W0 (w1.alloc (.cells #[.int .i64 nt0.nid, .int .i64 nt0.tier, .int .i64 nt0.parent, .int .i64 nt0.at1, .int .i64 nt0.at2, .int .i64 nt0.rank, .string nt0.text] 58)) := HB1.out.alloc HB1.out.size _
    have hk := there_below HBZ (by omega) HTH0.out
    have hr := range_below HBZ (by omega) HRZ.out
    have c0 : (w1.alloc (.cells #[.int .i64 nt0.nid, .int .i64 nt0.tier, .int .i64 nt0.parent, .int .i64 nt0.at1, .int .i64 nt0.at2, .int .i64 nt0.rank, .string nt0.text] 58)).cell? ⟨p + 1, 0, none⟩ = some (.int .i64 0) := hr 0 _ rfl
    have f0 : (w1.alloc (.cells #[.int .i64 nt0.nid, .int .i64 nt0.tier, .int .i64 nt0.parent, .int .i64 nt0.at1, .int .i64 nt0.at2, .int .i64 nt0.rank, .string nt0.text] 58)).frozen? ⟨p + 1, 0, none⟩ = false := (hk 0 (by omega)).2
    have c1 : (w1.alloc (.cells #[.int .i64 nt0.nid, .int .i64 nt0.tier, .int .i64 nt0.parent, .int .i64 nt0.at1, .int .i64 nt0.at2, .int .i64 nt0.rank, .string nt0.text] 58)).cell? ⟨p + 1, 1, none⟩ = some (.int .i64 0) := hr 1 _ rfl
    have f1 : (w1.alloc (.cells #[.int .i64 nt0.nid, .int .i64 nt0.tier, .int .i64 nt0.parent, .int .i64 nt0.at1, .int .i64 nt0.at2, .int .i64 nt0.rank, .string nt0.text] 58)).frozen? ⟨p + 1, 1, none⟩ = false := (hk 1 (by omega)).2
    have c2 : (w1.alloc (.cells #[.int .i64 nt0.nid, .int .i64 nt0.tier, .int .i64 nt0.parent, .int .i64 nt0.at1, .int .i64 nt0.at2, .int .i64 nt0.rank, .string nt0.text] 58)).cell? ⟨p + 1, 2, none⟩ = some (.slice none 0 0) := hr 2 _ rfl
    have f2 : (w1.alloc (.cells #[.int .i64 nt0.nid, .int .i64 nt0.tier, .int .i64 nt0.parent, .int .i64 nt0.at1, .int .i64 nt0.at2, .int .i64 nt0.rank, .string nt0.text] 58)).frozen? ⟨p + 1, 2, none⟩ = false := (hk 2 (by omega)).2
    have c3 : (w1.alloc (.cells #[.int .i64 nt0.nid, .int .i64 nt0.tier, .int .i64 nt0.parent, .int .i64 nt0.at1, .int .i64 nt0.at2, .int .i64 nt0.rank, .string nt0.text] 58)).cell? ⟨p + 1, 3, none⟩ = some (.string ⟨#[]⟩) := hr 3 _ rfl
    have f3 : (w1.alloc (.cells #[.int .i64 nt0.nid, .int .i64 nt0.tier, .int .i64 nt0.parent, .int .i64 nt0.at1, .int .i64 nt0.at2, .int .i64 nt0.rank, .string nt0.text] 58)).frozen? ⟨p + 1, 3, none⟩ = false := (hk 3 (by omega)).2
    have c4 : (w1.alloc (.cells #[.int .i64 nt0.nid, .int .i64 nt0.tier, .int .i64 nt0.parent, .int .i64 nt0.at1, .int .i64 nt0.at2, .int .i64 nt0.rank, .string nt0.text] 58)).cell? ⟨p + 1, 4, none⟩ = some (.slice none 0 0) := hr 4 _ rfl
    have f4 : (w1.alloc (.cells #[.int .i64 nt0.nid, .int .i64 nt0.tier, .int .i64 nt0.parent, .int .i64 nt0.at1, .int .i64 nt0.at2, .int .i64 nt0.rank, .string nt0.text] 58)).frozen? ⟨p + 1, 4, none⟩ = false := (hk 4 (by omega)).2
    have HTW := Lib.hid hk
    have HBE : Hid (Below p w w1) := HB.out.trans (HB1.out.mono (by omega))
    clear hk hr HBZ
    unfold getV noteV
    simp only [Option.getD_none, Option.isSome_none]
    go_wp2
    (try simp only [Exit.inBlock, Exit.then])
    refine bodyPost_ret (v := .tuple #[.agg #[.int .i64 0, .int .i64 0, .slice none 0 0, .string ⟨#[]⟩, .slice none 0 0], .bool false]) ?_ rfl ?_
    · refine results_cell_of rfl _ _ (p + 1) [.int .i64 0, .int .i64 0, .slice none 0 0, .string ⟨#[]⟩, .slice none 0 0] _ _ ?_ ?_ ?_ Tryz.underlying35 rfl (by kernel_rfl)
      · rfl
      · rfl
      · exact World.rangeAt_setCells_same (w1.alloc (.cells #[.int .i64 nt0.nid, .int .i64 nt0.tier, .int .i64 nt0.parent, .int .i64 nt0.at1, .int .i64 nt0.at2, .int .i64 nt0.rank, .string nt0.text] 58)) (p + 1) 0 [.int .i64 0, .int .i64 0, .slice none 0 0, .string ⟨#[]⟩, .slice none 0 0] HTW.out
    · refine ⟨({ toHt := ht0, la := none, ln := 0, lc := 0, ra := none, rn := 0, rc := 0 } : Hv), by rw [hog.out]; rfl, by unfold hitL; rw [hog.out]; rfl, ⟨⟨rfl, fun h => by cases h⟩, ⟨rfl, fun h => by cases h⟩, ⟨Nat.le_refl _, by show 0 ≤ _; omega⟩, ⟨Nat.le_refl _, by show 0 ≤ _; omega⟩⟩, ⟨fun ad h => (by cases h), fun ad h => (by cases h)⟩, ?_⟩
      rw [hp]
      exact below_set (w := (w1.alloc (.cells #[.int .i64 nt0.nid, .int .i64 nt0.tier, .int .i64 nt0.parent, .int .i64 nt0.at1, .int .i64 nt0.at2, .int .i64 nt0.rank, .string nt0.text] 58))) (b := p + 1) (o := 0) (vs := [.int .i64 0, .int .i64 0, .slice none 0 0, .string ⟨#[]⟩, .slice none 0 0]) (HBE.out.alloc (by have := HBE.out.size; omega) _) (by omega) (by simp; omega)
  | some x =>
    have hmem := kids_self (tn := tn) hog.out (HTR.out x (List.mem_of_find?_eq_some hog.out))
    obtain ⟨ks, hks⟩ : ∃ ks, kidsL tn l x.parent x.tier = ks := ⟨_, rfl⟩
    have HKS := Lib.hid hks
    have HLK : Hid (ks.length < 20) := by show _ < _; rw [← hks]; exact Nat.lt_of_le_of_lt kidsL_len (by rw [(HN.out w (Below.refl _ _)).len]; exact hn)
    rw [hks] at hmem
    obtain ⟨k, hk, hix, hkx⟩ := idxOf_at hmem
    have HIX := Lib.hid hix
    have HBE : Hid (Below p w (w1.alloc (.cells #[.int .i64 x.nid, .int .i64 x.tier, .int .i64 x.parent, .int .i64 x.at1, .int .i64 x.at2, .int .i64 x.rank, .string x.text] 58))) := (HB.out.trans (HB1.out.mono (by omega))).alloc (by omega) _
    have HB1E : Hid (Below W0.heap.size W0 (w1.alloc (.cells #[.int .i64 x.nid, .int .i64 x.tier, .int .i64 x.parent, .int .i64 x.at1, .int .i64 x.at2, .int .i64 x.rank, .string x.text] 58))) := HB1.out.alloc HB1.out.size _
    have hr := HD.out _ HB1E.out
    have k0 : (w1.alloc (.cells #[.int .i64 x.nid, .int .i64 x.tier, .int .i64 x.parent, .int .i64 x.at1, .int .i64 x.at2, .int .i64 x.rank, .string x.text] 58)).cell? ⟨p, 0, none⟩ = some (.int .i64 rid) := hr 0 _ rfl
    have k1 : (w1.alloc (.cells #[.int .i64 x.nid, .int .i64 x.tier, .int .i64 x.parent, .int .i64 x.at1, .int .i64 x.at2, .int .i64 x.rank, .string x.text] 58)).cell? ⟨p, 1, none⟩ = some (.string name) := hr 1 _ rfl
    have k2 : (w1.alloc (.cells #[.int .i64 x.nid, .int .i64 x.tier, .int .i64 x.parent, .int .i64 x.at1, .int .i64 x.at2, .int .i64 x.rank, .string x.text] 58)).cell? ⟨p, 2, none⟩ = some (.int .i64 len) := hr 2 _ rfl
    have k3 : (w1.alloc (.cells #[.int .i64 x.nid, .int .i64 x.tier, .int .i64 x.parent, .int .i64 x.at1, .int .i64 x.at2, .int .i64 x.rank, .string x.text] 58)).cell? ⟨p, 3, none⟩ = some (.int .i64 day) := hr 3 _ rfl
    have k4 : (w1.alloc (.cells #[.int .i64 x.nid, .int .i64 x.tier, .int .i64 x.parent, .int .i64 x.at1, .int .i64 x.at2, .int .i64 x.rank, .string x.text] 58)).cell? ⟨p, 4, none⟩ = some (.slice sa sn sc) := hr 4 _ rfl
    have k5 : (w1.alloc (.cells #[.int .i64 x.nid, .int .i64 x.tier, .int .i64 x.parent, .int .i64 x.at1, .int .i64 x.at2, .int .i64 x.rank, .string x.text] 58)).cell? ⟨p, 5, none⟩ = some (.slice ta tn tc) := hr 5 _ rfl
    have k6 : (w1.alloc (.cells #[.int .i64 x.nid, .int .i64 x.tier, .int .i64 x.parent, .int .i64 x.at1, .int .i64 x.at2, .int .i64 x.rank, .string x.text] 58)).cell? ⟨p, 6, none⟩ = some (.slice na nn nc) := hr 6 _ rfl
    have HKC := Lib.hid (HKD.out _ HBE.out x.parent x.tier)
    have h86 : (w1.alloc (.cells #[.int .i64 x.nid, .int .i64 x.tier, .int .i64 x.parent, .int .i64 x.at1, .int .i64 x.at2, .int .i64 x.rank, .string x.text] 58)).cell? ⟨b8, 6, none⟩ = some (.string x.text) := by rw [← hb8, World.cell?_alloc_new]; rfl
    clear hr hmem hix hkx HKD hks
    unfold getV noteV
    simp only [Option.getD_some, Option.isSome_some]
    go_wp2_with fail
    have hsE : (w1.alloc (.cells #[.int .i64 x.nid, .int .i64 x.tier, .int .i64 x.parent, .int .i64 x.at1, .int .i64 x.at2, .int .i64 x.rank, .string x.text] 58)).heap.size = b8 + 1 := by rw [← hb8]; simp
    obtain ⟨W1, hW1⟩ : ∃ W1, (w1.alloc (.cells #[.int .i64 x.nid, .int .i64 x.tier, .int .i64 x.parent, .int .i64 x.at1, .int .i64 x.at2, .int .i64 x.rank, .string x.text] 58)) = W1 := ⟨_, rfl⟩
    rw [hW1] at HBE HB1E HKC h86 hsE ⊢
    clear k0 k1 k2 k3 k4 k5 k6 hW1
    refine HKC.out.mono ?_
    rintro e w2 ⟨v, rfl, hown, hb2⟩
    rw [HKS.out] at hown
    obtain ⟨nk, hnk⟩ : ∃ nk, ks.length = nk := ⟨_, rfl⟩
    have HLN := Lib.hid hnk
    have hnk20 : nk < 20 := by have := HLK.out; omega
    rw [hnk] at hk
    obtain ⟨g, c, hv⟩ : ∃ g c, v = .slice (some ⟨g, 0, none⟩) nk c := by
      rcases hown.2 with ⟨_, h2⟩ | ⟨g, cap, cur, hv, _⟩
      · omega
      · exact ⟨g, cap, by rw [hv, hnk]⟩
    subst hv
    obtain ⟨A0, c0, hv0, hcc, hcm, hir⟩ := OwnI.form hown
    rw [hnk] at hv0 hir hcc
    cases hv0
    have HOW := Lib.hid hown
    have HIR := Lib.hid hir
    have HB2 : Hid (Below W1.heap.size W1 w2) := hb2
    have HW2 : Hid (Below p w w2) := HBE.out.trans (hb2.mono (by have := HBE.out.size; omega))
    clear hown hir hb2 HKC
    have HIDX := Lib.hid (Tryz.slices_Index_int g 0 nk c ks id w2 (by omega) (by omega) (fun j hj => by
      obtain ⟨ad, e, _, hc⟩ := HIR.out.2 (by omega)
      cases e
      have := hc j (.int .i64 (ks.getD j 0)) (by rw [List.getElem?_map, List.getD, List.getElem?_eq_getElem hj]; rfl)
      rw [Addr.add_mid] at this
      exact this))
    have HTK : Hid (Lib.idxOf (ks.take nk) id = (k : Int)) := by show _ = _; rw [← HLN.out, List.take_length]; exact HIX.out
    rw [HTK.out] at HIDX
    obtain ⟨mm, hmm⟩ : ∃ mm : Nat, min (max n 0) (nk : Int) = (mm : Int) := ⟨(min (max n 0) (nk : Int)).toNat, by omega⟩
    have hmk : mm ≤ nk := by omega
    have HMM := Lib.hid hmm
    go_wp2_with fail
    refine HIDX.out.mono ?_
    rintro e w2' ⟨rfl, rfl⟩
    clear HIDX
    go_wp2_with fail
    have HTH : Hid (w2'.there (p + 1) 0 5) := there_below (HB1E.out.trans (HB2.out.mono HB1E.out.size)) (by omega) HTH0.out
    have hz2 : b8 + 1 ≤ w2'.heap.size := by have := HB2.out.size; omega
    have HDX : Hid (∀ W, BelowX (p + 1) w2' W → W.rangeAt p 0 [.int .i64 rid, .string name, .int .i64 len, .int .i64 day, .slice sa sn sc, .slice ta tn tc, .slice na nn nc]) := fun W hW j v hv => by
      rw [hW.cell (p := ⟨p, 0 + j, none⟩) (by show p < _; omega) (by show p ≠ p + 1; omega)]
      exact HD.out w2' (HB1E.out.trans (HB2.out.mono HB1E.out.size)) j v hv
    have HTX : Hid (∀ W, BelowX (p + 1) w2' W → W.cell? ⟨b8, 6, none⟩ = some (.string x.text)) := fun W hW => by
      rw [hW.cell (p := ⟨b8, 6, none⟩) (by show b8 < _; omega) (by show b8 ≠ p + 1; omega), HB2.out.cell (p := ⟨b8, 6, none⟩) (by show b8 < _; omega)]
      exact h86
    have HNX : Hid (∀ W, BelowX (p + 1) w2' W → NotesR W W.heap.size na nn l) := fun W hW => by
      have hb : Below p w2' W := hW.below (by omega) (by omega)
      have := HN.out W (HW2.out.trans hb)
      exact this
    have HIK : Hid (∀ W, BelowX (p + 1) w2' W → IR W W.heap.size (some ⟨g, 0, none⟩) nk ks) := fun W hW => by
      have h1 := ownsRow_X HOW.out (by omega) hW
      obtain ⟨A1, c1, e1, _, _, h2⟩ := OwnI.form (w := W) h1
      rw [HLN.out] at e1 h2
      cases e1
      exact h2
    obtain ⟨B2, hB2⟩ : ∃ B2, w2'.heap.size = B2 := ⟨_, rfl⟩
    have hqB : p + 1 < B2 := by omega
    have hw1 : IntKind.i64.wrap ((k : Int) - (mm : Int)) = (k : Int) - (mm : Int) := IntWalk.i64_in _ (by omega)
    have hw2 : IntKind.i64.wrap ((k : Int) + 1) = (k : Int) + 1 := IntWalk.i64_in _ (by omega)
    have hw3 : IntKind.i64.wrap ((k : Int) + 1 + (mm : Int)) = (k : Int) + 1 + (mm : Int) := IntWalk.i64_in _ (by omega)
    refine wp_region_toldX (q := (p + 1)) 30 [ToldX.is (.pointer (some ⟨p, 0, none⟩)), ToldX.is (.pointer (some ⟨p, 0, none⟩)), ToldX.is (.int .i64 rid), ToldX.is (.int .i64 id), ToldX.is (.agg #[.int .i64 rid, .int .i64 id]), ToldX.is (.agg #[.int .i64 rid, .string name, .int .i64 len, .int .i64 day, .slice sa sn sc, .slice ta tn tc, .slice na nn nc]), ToldX.is (.slice (some ⟨g, 0, none⟩) nk c), ToldX.is (.int .i64 (k : Int)), ToldX.is (.int .i64 (mm : Int)), ToldX.is (.int .i64 ((k : Int) - (mm : Int))), ToldX.is (.int .i64 ((k - mm : Nat) : Int)), ToldX.is (.int .i64 (k : Int)), ToldX.is (.slice (some ⟨g, k - mm, none⟩) (k - (k - mm)) (c - (k - mm))), ToldX.such (fun v w => OwnS w B2 v (textsN l ((ks.take k).drop (k - mm)))) (fun v w w' h hb => ownsRow_X h hqB hb), ToldX.is (.pointer (some ⟨b8, 6, none⟩)), ToldX.is (.string x.text), ToldX.is (.agg #[.int .i64 rid, .string name, .int .i64 len, .int .i64 day, .slice sa sn sc, .slice ta tn tc, .slice na nn nc]), ToldX.is (.slice (some ⟨g, 0, none⟩) nk c), ToldX.is (.int .i64 (k : Int)), ToldX.is (.int .i64 ((k : Int) + 1)), ToldX.is (.slice (some ⟨g, 0, none⟩) nk c), ToldX.is (.int .i64 (nk : Int)), ToldX.is (.int .i64 (k : Int)), ToldX.is (.int .i64 ((k : Int) + 1)), ToldX.is (.int .i64 (mm : Int)), ToldX.is (.int .i64 ((k : Int) + 1 + (mm : Int))), ToldX.is (.int .i64 ((min nk (k + 1 + mm) : Nat) : Int)), ToldX.is (.slice (if c = k + 1 then some ⟨g, 0, none⟩ else some ⟨g, k + 1, none⟩) (min nk (k + 1 + mm) - (k + 1)) (c - (k + 1))), ToldX.such (fun v w => OwnS w B2 v (textsN l ((ks.drop (k + 1)).take mm))) (fun v w w' h hb => ownsRow_X h hqB hb), ToldX.such (fun v w => ∃ A1 n1 c1 A2 n2 c2, v = .agg #[.int .i64 rid, .int .i64 id, .slice A1 n1 c1, .string x.text, .slice A2 n2 c2] ∧ OwnS w B2 (.slice A1 n1 c1) (textsN l ((ks.take k).drop (k - mm))) ∧ OwnS w B2 (.slice A2 n2 c2) (textsN l ((ks.drop (k + 1)).take mm))) (fun v w w' ⟨A1, n1, c1, A2, n2, c2, h1, h2, h3⟩ hb => ⟨A1, n1, c1, A2, n2, c2, h1, ownsRow_X h2 hqB hb, ownsRow_X h3 hqB hb⟩), ToldX.put (fun w => (p + 1) < w.heap.size ∧ ∃ A1 n1 c1 A2 n2 c2, w.rangeAt (p + 1) 0 [.int .i64 rid, .int .i64 id, .slice A1 n1 c1, .string x.text, .slice A2 n2 c2] ∧ OwnS w B2 (.slice A1 n1 c1) (textsN l ((ks.take k).drop (k - mm))) ∧ OwnS w B2 (.slice A2 n2 c2) (textsN l ((ks.drop (k + 1)).take mm))) (fun w w' ⟨h0, A1, n1, c1, A2, n2, c2, h1, h2, h3⟩ hb => ⟨Nat.lt_of_lt_of_le h0 hb.size, A1, n1, c1, A2, n2, c2, range_below hb h0 h1, OwnS.on h2 hb, OwnS.on h3 hb⟩), ToldX.is (.bool true)] (by kernel_rfl) (by kernel_rfl) rfl ?_ ?_
    · refine And.intro (fun w1 vals hB hd a1 ha1 K hK => ?_) ?_
      · clear hd
        subst ha1
        simp only [putAll, Act.put, List.setIfInBounds_toArray, List.set_cons_zero, List.set_cons_succ] at hK ⊢
        obtain ⟨ve, hve⟩ : ∃ f : Nat → Value, f = vals := ⟨_, rfl⟩
        rw [← hve] at hK  ⊢
        clear hve
        refine gwp_none rfl ?_
        go_simp
        exact hK _ _ rfl (.inl (Below.refl _ _))
      refine And.intro (fun w1 vals hB hd a1 ha1 K hK => ?_) ?_
      · have e0 : vals 0 = .pointer (some ⟨p, 0, none⟩) := toldX_at (hd 0 rfl) rfl
        clear hd
        subst ha1
        simp only [putAll, Act.put, List.setIfInBounds_toArray, List.set_cons_zero, List.set_cons_succ] at hK ⊢
        simp only [e0] at hK ⊢
        obtain ⟨ve, hve⟩ : ∃ f : Nat → Value, f = vals := ⟨_, rfl⟩
        rw [← hve] at hK  ⊢
        clear e0 hve
        refine gwp_none rfl ?_
        go_simp
        exact hK _ _ rfl (.inl (Below.refl _ _))
      refine And.intro (fun w1 vals hB hd a1 ha1 K hK => ?_) ?_
      · have e1 : vals 1 = .pointer (some ⟨p, 0, none⟩) := toldX_at (hd 1 rfl) rfl
        clear hd
        subst ha1
        simp only [putAll, Act.put, List.setIfInBounds_toArray, List.set_cons_zero, List.set_cons_succ] at hK ⊢
        simp only [e1] at hK ⊢
        obtain ⟨ve, hve⟩ : ∃ f : Nat → Value, f = vals := ⟨_, rfl⟩
        rw [← hve] at hK  ⊢
        clear e1 hve
        refine gwp_none rfl ?_
        have hc := (HDX.out w1 hB) 0 _ rfl
        go_simp
        exact hK _ _ rfl (.inl (Below.refl _ _))
      refine And.intro (fun w1 vals hB hd a1 ha1 K hK => ?_) ?_
      · clear hd
        subst ha1
        simp only [putAll, Act.put, List.setIfInBounds_toArray, List.set_cons_zero, List.set_cons_succ] at hK ⊢
        obtain ⟨ve, hve⟩ : ∃ f : Nat → Value, f = vals := ⟨_, rfl⟩
        rw [← hve] at hK  ⊢
        clear hve
        refine gwp_none rfl ?_
        go_simp
        exact hK _ _ rfl (.inl (Below.refl _ _))
      refine And.intro (fun w1 vals hB hd a1 ha1 K hK => ?_) ?_
      · have e2 : vals 2 = .int .i64 rid := toldX_at (hd 2 rfl) rfl
        have e3 : vals 3 = .int .i64 id := toldX_at (hd 3 rfl) rfl
        clear hd
        subst ha1
        simp only [putAll, Act.put, List.setIfInBounds_toArray, List.set_cons_zero, List.set_cons_succ] at hK ⊢
        simp only [e2, e3] at hK ⊢
        obtain ⟨ve, hve⟩ : ∃ f : Nat → Value, f = vals := ⟨_, rfl⟩
        rw [← hve] at hK  ⊢
        clear e2 e3 hve
        refine gwp_none rfl ?_
        go_simp
        exact hK _ _ rfl (.inl (Below.refl _ _))
      refine And.intro (fun w1 vals hB hd a1 ha1 K hK => ?_) ?_
      · clear hd
        subst ha1
        simp only [putAll, Act.put, List.setIfInBounds_toArray, List.set_cons_zero, List.set_cons_succ] at hK ⊢
        obtain ⟨ve, hve⟩ : ∃ f : Nat → Value, f = vals := ⟨_, rfl⟩
        rw [← hve] at hK  ⊢
        clear hve
        refine gwp_none rfl ?_
        refine wp_load_mid 28 (.tmp 3) rfl p 0 rfl [.int .i64 rid, .string name, .int .i64 len, .int .i64 day, .slice sa sn sc, .slice ta tn tc, .slice na nn nc] _ (HDX.out w1 hB) Tryz.underlying28 rfl (by kernel_rfl) ?_
        simp only [Act.put, List.setIfInBounds_toArray, List.set_cons_zero, List.set_cons_succ]
        exact hK _ _ rfl (.inl (Below.refl _ _))
      refine And.intro (fun w1 vals hB hd a1 ha1 K hK => ?_) ?_
      · clear hd
        subst ha1
        simp only [putAll, Act.put, List.setIfInBounds_toArray, List.set_cons_zero, List.set_cons_succ] at hK ⊢
        obtain ⟨ve, hve⟩ : ∃ f : Nat → Value, f = vals := ⟨_, rfl⟩
        rw [← hve] at hK  ⊢
        clear hve
        refine gwp_none rfl ?_
        go_simp
        exact hK _ _ rfl (.inl (Below.refl _ _))
      refine And.intro (fun w1 vals hB hd a1 ha1 K hK => ?_) ?_
      · clear hd
        subst ha1
        simp only [putAll, Act.put, List.setIfInBounds_toArray, List.set_cons_zero, List.set_cons_succ] at hK ⊢
        obtain ⟨ve, hve⟩ : ∃ f : Nat → Value, f = vals := ⟨_, rfl⟩
        rw [← hve] at hK  ⊢
        clear hve
        refine gwp_none rfl ?_
        go_simp
        exact hK _ _ rfl (.inl (Below.refl _ _))
      refine And.intro (fun w1 vals hB hd a1 ha1 K hK => ?_) ?_
      · clear hd
        subst ha1
        simp only [putAll, Act.put, List.setIfInBounds_toArray, List.set_cons_zero, List.set_cons_succ] at hK ⊢
        obtain ⟨ve, hve⟩ : ∃ f : Nat → Value, f = vals := ⟨_, rfl⟩
        rw [← hve] at hK  ⊢
        clear hve
        refine gwp_none rfl ?_
        go_simp
        exact hK _ _ rfl (.inl (Below.refl _ _))
      refine And.intro (fun w1 vals hB hd a1 ha1 K hK => ?_) ?_
      · have e7 : vals 7 = .int .i64 (k : Int) := toldX_at (hd 7 rfl) rfl
        have e8 : vals 8 = .int .i64 (mm : Int) := toldX_at (hd 8 rfl) rfl
        clear hd
        subst ha1
        simp only [putAll, Act.put, List.setIfInBounds_toArray, List.set_cons_zero, List.set_cons_succ] at hK ⊢
        simp only [e7, e8] at hK ⊢
        obtain ⟨ve, hve⟩ : ∃ f : Nat → Value, f = vals := ⟨_, rfl⟩
        rw [← hve] at hK  ⊢
        clear e7 e8 hve
        refine gwp_none rfl ?_
        go_simp
        exact hK _ _ rfl (.inl (Below.refl _ _))
      refine And.intro (fun w1 vals hB hd a1 ha1 K hK => ?_) ?_
      · have e9 : vals 9 = .int .i64 ((k : Int) - (mm : Int)) := toldX_at (hd 9 rfl) rfl
        clear hd
        subst ha1
        simp only [putAll, Act.put, List.setIfInBounds_toArray, List.set_cons_zero, List.set_cons_succ] at hK ⊢
        simp only [e9] at hK ⊢
        obtain ⟨ve, hve⟩ : ∃ f : Nat → Value, f = vals := ⟨_, rfl⟩
        rw [← hve] at hK  ⊢
        clear e9 hve
        refine gwp_none rfl ?_
        have hmx : max (0 : Int) ((k : Int) - (mm : Int)) = ((k - mm : Nat) : Int) := by omega
        go_simp
        (try rw [hmx])
        exact hK _ _ rfl (.inl (Below.refl _ _))
      refine And.intro (fun w1 vals hB hd a1 ha1 K hK => ?_) ?_
      · clear hd
        subst ha1
        simp only [putAll, Act.put, List.setIfInBounds_toArray, List.set_cons_zero, List.set_cons_succ] at hK ⊢
        obtain ⟨ve, hve⟩ : ∃ f : Nat → Value, f = vals := ⟨_, rfl⟩
        rw [← hve] at hK  ⊢
        clear hve
        refine gwp_none rfl ?_
        go_simp
        exact hK _ _ rfl (.inl (Below.refl _ _))
      refine And.intro (fun w1 vals hB hd a1 ha1 K hK => ?_) ?_
      · have e6 : vals 6 = .slice (some ⟨g, 0, none⟩) nk c := toldX_at (hd 6 rfl) rfl
        have e10 : vals 10 = .int .i64 ((k - mm : Nat) : Int) := toldX_at (hd 10 rfl) rfl
        have e11 : vals 11 = .int .i64 (k : Int) := toldX_at (hd 11 rfl) rfl
        clear hd
        subst ha1
        simp only [putAll, Act.put, List.setIfInBounds_toArray, List.set_cons_zero, List.set_cons_succ] at hK ⊢
        simp only [e6, e10, e11] at hK ⊢
        obtain ⟨ve, hve⟩ : ∃ f : Nat → Value, f = vals := ⟨_, rfl⟩
        rw [← hve] at hK  ⊢
        clear e6 e10 e11 hve
        refine gwp_none rfl ?_
        have hcne : ¬ c = k - mm := by omega
        have hs1 : ((k - mm : Nat) : Int) ≤ (k : Int) := by omega
        have hs2 : (k : Int) ≤ (c : Int) := by omega
        have hs3 : (0 : Int) ≤ ((k - mm : Nat) : Int) := by omega
        go_simp
        exact hK _ _ rfl (.inl (Below.refl _ _))
      refine And.intro (fun w1 vals hB hd a1 ha1 K hK => ?_) ?_
      · have e5 : vals 5 = .agg #[.int .i64 rid, .string name, .int .i64 len, .int .i64 day, .slice sa sn sc, .slice ta tn tc, .slice na nn nc] := toldX_at (hd 5 rfl) rfl
        have e12 : vals 12 = .slice (some ⟨g, k - mm, none⟩) (k - (k - mm)) (c - (k - mm)) := toldX_at (hd 12 rfl) rfl
        clear hd
        subst ha1
        simp only [putAll, Act.put, List.setIfInBounds_toArray, List.set_cons_zero, List.set_cons_succ] at hK ⊢
        simp only [e5, e12] at hK ⊢
        obtain ⟨ve, hve⟩ : ∃ f : Nat → Value, f = vals := ⟨_, rfl⟩
        rw [← hve] at hK  ⊢
        clear e5 e12 hve
        refine gwp_none rfl ?_
        have h9 : IR w1 w1.heap.size (some ⟨g, k - mm, none⟩) (k - (k - mm)) ((ks.take k).drop (k - mm)) := by
          rw [List.drop_take]
          exact ir_sub (HIK.out w1 hB) (k - mm) (k - (k - mm)) (by omega)
        go_simp
        refine (textsN_any ⟨rid, name, len, day, sa, sn, sc, ta, tn, tc, na, nn, nc⟩ l (some ⟨g, k - mm, none⟩) (k - (k - mm)) (c - (k - mm)) ((ks.take k).drop (k - mm)) w1 (HNX.out w1 hB) (by show nn ≤ _; omega) h9 (by omega)).mono ?_
        rintro e w4 ⟨v4, rfl, h4, hb4⟩
        exact hK _ _ (own_base h4 (by have := hB.size; omega)) (.inl hb4)
      refine And.intro (fun w1 vals hB hd a1 ha1 K hK => ?_) ?_
      · clear hd
        subst ha1
        simp only [putAll, Act.put, List.setIfInBounds_toArray, List.set_cons_zero, List.set_cons_succ] at hK ⊢
        obtain ⟨ve, hve⟩ : ∃ f : Nat → Value, f = vals := ⟨_, rfl⟩
        rw [← hve] at hK  ⊢
        clear hve
        refine gwp_none rfl ?_
        go_simp
        exact hK _ _ rfl (.inl (Below.refl _ _))
      refine And.intro (fun w1 vals hB hd a1 ha1 K hK => ?_) ?_
      · have e14 : vals 14 = .pointer (some ⟨b8, 6, none⟩) := toldX_at (hd 14 rfl) rfl
        clear hd
        subst ha1
        simp only [putAll, Act.put, List.setIfInBounds_toArray, List.set_cons_zero, List.set_cons_succ] at hK ⊢
        simp only [e14] at hK ⊢
        obtain ⟨ve, hve⟩ : ∃ f : Nat → Value, f = vals := ⟨_, rfl⟩
        rw [← hve] at hK  ⊢
        clear e14 hve
        refine gwp_none rfl ?_
        have hc := HTX.out w1 hB
        go_simp
        exact hK _ _ rfl (.inl (Below.refl _ _))
      refine And.intro (fun w1 vals hB hd a1 ha1 K hK => ?_) ?_
      · clear hd
        subst ha1
        simp only [putAll, Act.put, List.setIfInBounds_toArray, List.set_cons_zero, List.set_cons_succ] at hK ⊢
        obtain ⟨ve, hve⟩ : ∃ f : Nat → Value, f = vals := ⟨_, rfl⟩
        rw [← hve] at hK  ⊢
        clear hve
        refine gwp_none rfl ?_
        refine wp_load_mid 28 (.tmp 3) rfl p 0 rfl [.int .i64 rid, .string name, .int .i64 len, .int .i64 day, .slice sa sn sc, .slice ta tn tc, .slice na nn nc] _ (HDX.out w1 hB) Tryz.underlying28 rfl (by kernel_rfl) ?_
        simp only [Act.put, List.setIfInBounds_toArray, List.set_cons_zero, List.set_cons_succ]
        exact hK _ _ rfl (.inl (Below.refl _ _))
      refine And.intro (fun w1 vals hB hd a1 ha1 K hK => ?_) ?_
      · clear hd
        subst ha1
        simp only [putAll, Act.put, List.setIfInBounds_toArray, List.set_cons_zero, List.set_cons_succ] at hK ⊢
        obtain ⟨ve, hve⟩ : ∃ f : Nat → Value, f = vals := ⟨_, rfl⟩
        rw [← hve] at hK  ⊢
        clear hve
        refine gwp_none rfl ?_
        go_simp
        exact hK _ _ rfl (.inl (Below.refl _ _))
      refine And.intro (fun w1 vals hB hd a1 ha1 K hK => ?_) ?_
      · clear hd
        subst ha1
        simp only [putAll, Act.put, List.setIfInBounds_toArray, List.set_cons_zero, List.set_cons_succ] at hK ⊢
        obtain ⟨ve, hve⟩ : ∃ f : Nat → Value, f = vals := ⟨_, rfl⟩
        rw [← hve] at hK  ⊢
        clear hve
        refine gwp_none rfl ?_
        go_simp
        exact hK _ _ rfl (.inl (Below.refl _ _))
      refine And.intro (fun w1 vals hB hd a1 ha1 K hK => ?_) ?_
      · have e18 : vals 18 = .int .i64 (k : Int) := toldX_at (hd 18 rfl) rfl
        clear hd
        subst ha1
        simp only [putAll, Act.put, List.setIfInBounds_toArray, List.set_cons_zero, List.set_cons_succ] at hK ⊢
        simp only [e18] at hK ⊢
        obtain ⟨ve, hve⟩ : ∃ f : Nat → Value, f = vals := ⟨_, rfl⟩
        rw [← hve] at hK  ⊢
        clear e18 hve
        refine gwp_none rfl ?_
        go_simp
        exact hK _ _ rfl (.inl (Below.refl _ _))
      refine And.intro (fun w1 vals hB hd a1 ha1 K hK => ?_) ?_
      · clear hd
        subst ha1
        simp only [putAll, Act.put, List.setIfInBounds_toArray, List.set_cons_zero, List.set_cons_succ] at hK ⊢
        obtain ⟨ve, hve⟩ : ∃ f : Nat → Value, f = vals := ⟨_, rfl⟩
        rw [← hve] at hK  ⊢
        clear hve
        refine gwp_none rfl ?_
        go_simp
        exact hK _ _ rfl (.inl (Below.refl _ _))
      refine And.intro (fun w1 vals hB hd a1 ha1 K hK => ?_) ?_
      · have e20 : vals 20 = .slice (some ⟨g, 0, none⟩) nk c := toldX_at (hd 20 rfl) rfl
        clear hd
        subst ha1
        simp only [putAll, Act.put, List.setIfInBounds_toArray, List.set_cons_zero, List.set_cons_succ] at hK ⊢
        simp only [e20] at hK ⊢
        obtain ⟨ve, hve⟩ : ∃ f : Nat → Value, f = vals := ⟨_, rfl⟩
        rw [← hve] at hK  ⊢
        clear e20 hve
        refine gwp_none rfl ?_
        go_simp
        exact hK _ _ rfl (.inl (Below.refl _ _))
      refine And.intro (fun w1 vals hB hd a1 ha1 K hK => ?_) ?_
      · clear hd
        subst ha1
        simp only [putAll, Act.put, List.setIfInBounds_toArray, List.set_cons_zero, List.set_cons_succ] at hK ⊢
        obtain ⟨ve, hve⟩ : ∃ f : Nat → Value, f = vals := ⟨_, rfl⟩
        rw [← hve] at hK  ⊢
        clear hve
        refine gwp_none rfl ?_
        go_simp
        exact hK _ _ rfl (.inl (Below.refl _ _))
      refine And.intro (fun w1 vals hB hd a1 ha1 K hK => ?_) ?_
      · have e22 : vals 22 = .int .i64 (k : Int) := toldX_at (hd 22 rfl) rfl
        clear hd
        subst ha1
        simp only [putAll, Act.put, List.setIfInBounds_toArray, List.set_cons_zero, List.set_cons_succ] at hK ⊢
        simp only [e22] at hK ⊢
        obtain ⟨ve, hve⟩ : ∃ f : Nat → Value, f = vals := ⟨_, rfl⟩
        rw [← hve] at hK  ⊢
        clear e22 hve
        refine gwp_none rfl ?_
        go_simp
        exact hK _ _ rfl (.inl (Below.refl _ _))
      refine And.intro (fun w1 vals hB hd a1 ha1 K hK => ?_) ?_
      · clear hd
        subst ha1
        simp only [putAll, Act.put, List.setIfInBounds_toArray, List.set_cons_zero, List.set_cons_succ] at hK ⊢
        obtain ⟨ve, hve⟩ : ∃ f : Nat → Value, f = vals := ⟨_, rfl⟩
        rw [← hve] at hK  ⊢
        clear hve
        refine gwp_none rfl ?_
        go_simp
        exact hK _ _ rfl (.inl (Below.refl _ _))
      refine And.intro (fun w1 vals hB hd a1 ha1 K hK => ?_) ?_
      · have e23 : vals 23 = .int .i64 ((k : Int) + 1) := toldX_at (hd 23 rfl) rfl
        have e24 : vals 24 = .int .i64 (mm : Int) := toldX_at (hd 24 rfl) rfl
        clear hd
        subst ha1
        simp only [putAll, Act.put, List.setIfInBounds_toArray, List.set_cons_zero, List.set_cons_succ] at hK ⊢
        simp only [e23, e24] at hK ⊢
        obtain ⟨ve, hve⟩ : ∃ f : Nat → Value, f = vals := ⟨_, rfl⟩
        rw [← hve] at hK  ⊢
        clear e23 e24 hve
        refine gwp_none rfl ?_
        go_simp
        exact hK _ _ rfl (.inl (Below.refl _ _))
      refine And.intro (fun w1 vals hB hd a1 ha1 K hK => ?_) ?_
      · have e21 : vals 21 = .int .i64 (nk : Int) := toldX_at (hd 21 rfl) rfl
        have e25 : vals 25 = .int .i64 ((k : Int) + 1 + (mm : Int)) := toldX_at (hd 25 rfl) rfl
        clear hd
        subst ha1
        simp only [putAll, Act.put, List.setIfInBounds_toArray, List.set_cons_zero, List.set_cons_succ] at hK ⊢
        simp only [e21, e25] at hK ⊢
        obtain ⟨ve, hve⟩ : ∃ f : Nat → Value, f = vals := ⟨_, rfl⟩
        rw [← hve] at hK  ⊢
        clear e21 e25 hve
        refine gwp_none rfl ?_
        have hmx : min (nk : Int) ((k : Int) + 1 + (mm : Int)) = ((min nk (k + 1 + mm) : Nat) : Int) := by omega
        go_simp
        (try rw [hmx])
        exact hK _ _ rfl (.inl (Below.refl _ _))
      refine And.intro (fun w1 vals hB hd a1 ha1 K hK => ?_) ?_
      · have e17 : vals 17 = .slice (some ⟨g, 0, none⟩) nk c := toldX_at (hd 17 rfl) rfl
        have e19 : vals 19 = .int .i64 ((k : Int) + 1) := toldX_at (hd 19 rfl) rfl
        have e26 : vals 26 = .int .i64 ((min nk (k + 1 + mm) : Nat) : Int) := toldX_at (hd 26 rfl) rfl
        clear hd
        subst ha1
        simp only [putAll, Act.put, List.setIfInBounds_toArray, List.set_cons_zero, List.set_cons_succ] at hK ⊢
        simp only [e17, e19, e26] at hK ⊢
        obtain ⟨ve, hve⟩ : ∃ f : Nat → Value, f = vals := ⟨_, rfl⟩
        rw [← hve] at hK  ⊢
        clear e17 e19 e26 hve
        refine gwp_none rfl ?_
        have hs1 : (k : Int) + 1 ≤ ((min nk (k + 1 + mm) : Nat) : Int) := by omega
        have hs2 : ((min nk (k + 1 + mm) : Nat) : Int) ≤ (c : Int) := by omega
        have hs3 : (0 : Int) ≤ (k : Int) + 1 := by omega
        go_simp
        exact hK _ _ rfl (.inl (Below.refl _ _))
      refine And.intro (fun w1 vals hB hd a1 ha1 K hK => ?_) ?_
      · have e16 : vals 16 = .agg #[.int .i64 rid, .string name, .int .i64 len, .int .i64 day, .slice sa sn sc, .slice ta tn tc, .slice na nn nc] := toldX_at (hd 16 rfl) rfl
        have e27 : vals 27 = .slice (if c = k + 1 then some ⟨g, 0, none⟩ else some ⟨g, k + 1, none⟩) (min nk (k + 1 + mm) - (k + 1)) (c - (k + 1)) := toldX_at (hd 27 rfl) rfl
        clear hd
        subst ha1
        simp only [putAll, Act.put, List.setIfInBounds_toArray, List.set_cons_zero, List.set_cons_succ] at hK ⊢
        simp only [e16, e27] at hK ⊢
        obtain ⟨ve, hve⟩ : ∃ f : Nat → Value, f = vals := ⟨_, rfl⟩
        rw [← hve] at hK  ⊢
        clear e16 e27 hve
        refine gwp_none rfl ?_
        have h9 : IR w1 w1.heap.size (if c = k + 1 then some ⟨g, 0, none⟩ else some ⟨g, k + 1, none⟩) (min nk (k + 1 + mm) - (k + 1)) ((ks.drop (k + 1)).take mm) := by
          rw [List.take_eq_take_iff.2 (show min mm (ks.drop (k + 1)).length = min (min nk (k + 1 + mm) - (k + 1)) (ks.drop (k + 1)).length by rw [List.length_drop, HLN.out]; omega)]
          exact ir_subif (HIK.out w1 hB) (k + 1) (min nk (k + 1 + mm) - (k + 1)) c (by omega) (by omega)
        go_simp
        refine (textsN_any ⟨rid, name, len, day, sa, sn, sc, ta, tn, tc, na, nn, nc⟩ l (if c = k + 1 then some ⟨g, 0, none⟩ else some ⟨g, k + 1, none⟩) (min nk (k + 1 + mm) - (k + 1)) (c - (k + 1)) ((ks.drop (k + 1)).take mm) w1 (HNX.out w1 hB) (by show nn ≤ _; omega) h9 (by omega)).mono ?_
        rintro e w4 ⟨v4, rfl, h4, hb4⟩
        exact hK _ _ (own_base h4 (by have := hB.size; omega)) (.inl hb4)
      refine And.intro (fun w1 vals hB hd a1 ha1 K hK => ?_) ?_
      · have e4 : vals 4 = .agg #[.int .i64 rid, .int .i64 id] := toldX_at (hd 4 rfl) rfl
        have p13 := toldX_at (t := ToldX.such (fun v w => OwnS w B2 v (textsN l ((ks.take k).drop (k - mm)))) (fun v w w' h hb => ownsRow_X h hqB hb)) (hd 13 rfl) rfl
        simp only [ToldX.holds] at p13
        have e15 : vals 15 = .string x.text := toldX_at (hd 15 rfl) rfl
        have p28 := toldX_at (t := ToldX.such (fun v w => OwnS w B2 v (textsN l ((ks.drop (k + 1)).take mm))) (fun v w w' h hb => ownsRow_X h hqB hb)) (hd 28 rfl) rfl
        simp only [ToldX.holds] at p28
        clear hd
        obtain ⟨x13, hx13⟩ : ∃ x, vals 13 = x := ⟨_, rfl⟩
        rw [hx13] at p13
        obtain ⟨x28, hx28⟩ : ∃ x, vals 28 = x := ⟨_, rfl⟩
        rw [hx28] at p28
        subst ha1
        simp only [putAll, Act.put, List.setIfInBounds_toArray, List.set_cons_zero, List.set_cons_succ] at hK ⊢
        simp only [e4, e15, hx13, hx28] at hK ⊢
        obtain ⟨ve, hve⟩ : ∃ f : Nat → Value, f = vals := ⟨_, rfl⟩
        rw [← hve] at hK  ⊢
        clear e4 e15 hx13 hx28 hve
        refine gwp_none rfl ?_
        obtain ⟨A1, c1, rfl, _, _, _⟩ := OwnS.form p13
        obtain ⟨A2, c2, rfl, _, _, _⟩ := OwnS.form p28
        go_simp
        exact hK _ _ ⟨_, _, _, _, _, _, rfl, p13, p28⟩ (.inl (Below.refl _ _))
      refine And.intro (fun w1 vals hB hd a1 ha1 K hK => ?_) ?_
      · have p29 := toldX_at (t := ToldX.such (fun v w => ∃ A1 n1 c1 A2 n2 c2, v = .agg #[.int .i64 rid, .int .i64 id, .slice A1 n1 c1, .string x.text, .slice A2 n2 c2] ∧ OwnS w B2 (.slice A1 n1 c1) (textsN l ((ks.take k).drop (k - mm))) ∧ OwnS w B2 (.slice A2 n2 c2) (textsN l ((ks.drop (k + 1)).take mm))) (fun v w w' ⟨A1, n1, c1, A2, n2, c2, h1, h2, h3⟩ hb => ⟨A1, n1, c1, A2, n2, c2, h1, ownsRow_X h2 hqB hb, ownsRow_X h3 hqB hb⟩)) (hd 29 rfl) rfl
        simp only [ToldX.holds] at p29
        clear hd
        obtain ⟨x29, hx29⟩ : ∃ x, vals 29 = x := ⟨_, rfl⟩
        rw [hx29] at p29
        refine gwp_none rfl ?_
        obtain ⟨A1, n1, c1, A2, n2, c2, hag, h2, h3⟩ := p29
        have hth := hB.keep 5 HTH.out
        have hev1 : a1.eval (.tmp 6) = .pointer (some ⟨p + 1, 0, none⟩) := by rw [ha1]; exact (eval_old (by kernel_rfl)).trans rfl
        have hev2 : a1.eval (.tmp 64) = .agg #[.int .i64 rid, .int .i64 id, .slice A1 n1 c1, .string x.text, .slice A2 n2 c2] := by rw [ha1]; exact (eval_slot (i := 29) (by kernel_rfl) (by kernel_rfl) rfl).trans (hx29.trans hag)
        clear ha1
        obtain ⟨wS, hwS⟩ : ∃ wS, w1.setCells (p + 1) 0 (#[.int .i64 rid, .int .i64 id, .slice A1 n1 c1, .string x.text, .slice A2 n2 c2] : Array Value).toList = wS := ⟨_, rfl⟩
        have hX : BelowX (p + 1) w1 wS := by rw [← hwS]; exact BelowX.set _ _ _
        have hR : wS.rangeAt (p + 1) 0 [.int .i64 rid, .int .i64 id, .slice A1 n1 c1, .string x.text, .slice A2 n2 c2] := by rw [← hwS]; exact World.rangeAt_setCells_same w1 (p + 1) 0 [.int .i64 rid, .int .i64 id, .slice A1 n1 c1, .string x.text, .slice A2 n2 c2] hth
        have hSz : p + 1 < wS.heap.size := Nat.lt_of_lt_of_le (there_lt hth (by omega)) hX.size
        refine wp_store_mid 35 (.tmp 6) (.tmp 64) rfl (p + 1) 0 #[.int .i64 rid, .int .i64 id, .slice A1 n1 c1, .string x.text, .slice A2 n2 c2] hev1 hev2 hth (by kernel_rfl) (by simp [Value.oneCell']) ?_
        rw [hwS]
        exact hK undef wS ⟨hSz, A1, n1, c1, A2, n2, c2, hR, ownsRow_X h2 hqB hX, ownsRow_X h3 hqB hX⟩ (.inr ⟨rfl, hX⟩)
      refine And.intro (fun w1 vals hB hd a1 ha1 K hK => ?_) ?_
      · clear hd
        subst ha1
        simp only [putAll, Act.put, List.setIfInBounds_toArray, List.set_cons_zero, List.set_cons_succ] at hK ⊢
        obtain ⟨ve, hve⟩ : ∃ f : Nat → Value, f = vals := ⟨_, rfl⟩
        rw [← hve] at hK  ⊢
        clear hve
        refine gwp_none rfl ?_
        go_simp
        exact hK _ _ rfl (.inl (Below.refl _ _))
      exact trivial
    · intro w1 vals hB hd
      have p30 := toldX_at (t := ToldX.put (fun w => (p + 1) < w.heap.size ∧ ∃ A1 n1 c1 A2 n2 c2, w.rangeAt (p + 1) 0 [.int .i64 rid, .int .i64 id, .slice A1 n1 c1, .string x.text, .slice A2 n2 c2] ∧ OwnS w B2 (.slice A1 n1 c1) (textsN l ((ks.take k).drop (k - mm))) ∧ OwnS w B2 (.slice A2 n2 c2) (textsN l ((ks.drop (k + 1)).take mm))) (fun w w' ⟨h0, A1, n1, c1, A2, n2, c2, h1, h2, h3⟩ hb => ⟨Nat.lt_of_lt_of_le h0 hb.size, A1, n1, c1, A2, n2, c2, range_below hb h0 h1, OwnS.on h2 hb, OwnS.on h3 hb⟩)) (hd 30 (by decide)) rfl
      simp only [ToldX.holds] at p30
      have e31 : vals 31 = .bool true := toldX_at (hd 31 (by decide)) rfl
      clear hd
      simp only [putAll, Act.put, List.setIfInBounds_toArray, List.set_cons_zero, List.set_cons_succ]
      simp only [e31]
      obtain ⟨ve, hve⟩ : ∃ f : Nat → Value, f = vals := ⟨_, rfl⟩
      rw [← hve]
      clear e31 hve
      obtain ⟨h0, A1, n1, c1, A2, n2, c2, h1, h2, h3⟩ := p30
      have H1 := Lib.hid h1
      clear h1
      obtain ⟨A1', c1', e1, g1, g2, g3⟩ := OwnS.form h2
      obtain ⟨A2', c2', e2, g4, g5, g6⟩ := OwnS.form h3
      cases e1
      cases e2
      have HG3 := Lib.hid g3
      have HG6 := Lib.hid g6
      have HG1 := Lib.hid g1
      have HG4 := Lib.hid g4
      have HF1 := Lib.hid (own_fresh h2)
      have HF2 := Lib.hid (own_fresh h3)
      clear h2 h3 g1 g3 g4 g6
      go_wp2
      refine bodyPost_ret (v := .tuple #[.agg #[.int .i64 rid, .int .i64 id, .slice A1 (textsN l ((ks.take k).drop (k - mm))).length c1, .string x.text, .slice A2 (textsN l ((ks.drop (k + 1)).take mm)).length c2], .bool true]) ?_ rfl ?_
      · exact results_cell_of rfl _ _ (p + 1) [.int .i64 rid, .int .i64 id, .slice A1 (textsN l ((ks.take k).drop (k - mm))).length c1, .string x.text, .slice A2 (textsN l ((ks.drop (k + 1)).take mm)).length c2] _ _ rfl rfl H1.out Tryz.underlying35 rfl (by kernel_rfl)
      · refine ⟨({ toHt := { rid := rid, nid := id, left := textsN l ((ks.take k).drop (k - mm)), key := x.text, right := textsN l ((ks.drop (k + 1)).take mm) }, la := A1, ln := _, lc := c1, ra := A2, rn := _, rc := c2 } : Hv), by rw [hog.out]; rfl, ?_, ⟨HG3.out, HG6.out, ⟨HG1.out, g2⟩, ⟨HG4.out, g5⟩⟩, ⟨fun ad h => Nat.le_trans (by omega) (HF1.out ad h), fun ad h => Nat.le_trans (by omega) (HF2.out ad h)⟩, ?_⟩
        · unfold hitL
          rw [hog.out]
          show _ = hitK rid id x l (kidsL tn l x.parent x.tier) n
          rw [HKS.out]
          unfold hitK
          rw [HIX.out, HLN.out, HMM.out]
          simp only [Int.toNat_natCast]
        · rw [hp]
          exact HW2.out.trans (hB.below (by omega) (by omega))
end Go.Proofs.YtdpllfgnppeneaaGreatDoor
