/-
  The laws' awake: the example of the chapter.
-/
import Derived.Test.YtdpllfgnppeneaaGreatDoorG13
import Derived.Test.YtdpllfgnppeneaaGreatDoorG16
import Derived.Test.YtdpllfgnppeneaaGreatDoorG06
namespace Go.Proofs.YtdpllfgnppeneaaGreatDoor
open Go.RowKit Ru Lay Srt Col
attribute [local go_sem ↓] Go.wp_at_zero Go.wp_at_succ
set_option linter.unusedVariables false
set_option linter.unusedSimpArgs false

def exH3 : Ht := ⟨1, 3, [⟨#[98, 97]⟩], ⟨#[109, 105]⟩, []⟩
def exH2 : Ht := ⟨1, 2, [], ⟨#[98, 97]⟩, [⟨#[109, 105]⟩]⟩
def exL : List (List ByteArray) := [[⟨#[109]⟩], [⟨#[98]⟩]]
set_option maxRecDepth 100000 in
theorem ex_all : hitsL 1 2 exN [3, 9, 2] 1 = [exH3, exH2] := by rfl
set_option maxRecDepth 100000 in
theorem ex_hit : hitL 1 2 exN 2 1 = some exH2 := by rfl
theorem ex_no : getN exN 9 = none := by rfl
set_option maxRecDepth 100000 in
theorem ex_cmp : cmpL exL ⟨#[109, 105]⟩ ⟨#[98, 97]⟩ = -1 := by decide +kernel
set_option maxRecDepth 100000 in
theorem ex_lines : linesL [exH2, exH3] = [⟨#[32, 32, 32, 91, 98, 97, 93, 32, 109, 105]⟩, ⟨#[98, 97, 32, 91, 109, 105, 93]⟩] := by decide +kernel
theorem ex_lt : cmpH exL exH3 exH2 = -1 := by
  unfold cmpH
  rw [orI_cons, show cmpL exL exH3.key exH2.key = -1 from ex_cmp]
  rfl
theorem two_of {hs : List Hv} {a b : Ht} (h : hs.map Hv.toHt = [a, b]) : ∃ x y, hs = [x, y] ∧ x.toHt = a ∧ y.toHt = b := by
  cases hs with
  | nil => cases h
  | cons x t => cases t with
    | nil => simp at h
    | cons y u => cases u with
      | nil => injection h with h1 h2; injection h2 with h3 _; exact ⟨x, y, rfl, h1, h3⟩
      | cons z v => simp at h
theorem stable_two {α : Type} {c : α → α → Int} {x y : α} (h : c x y < 0) : StableOf c [x, y] [x, y] := ⟨[(x, 0), (y, 1)], List.Perm.refl _, by
  rw [List.pairwise_cons]
  exact ⟨fun z hz => by rw [List.mem_singleton] at hz; subst hz; exact .inl h, List.pairwise_singleton _ _⟩, rfl⟩
theorem rows_ex (w : World) : RowsR (((w.alloc (.cells #[.string ⟨#[109]⟩] 9)).alloc (.cells #[.string ⟨#[98]⟩] 9)).alloc (.cells #[.slice (some ⟨w.heap.size, 0, none⟩) 1 1, .slice (some ⟨w.heap.size + 1, 0, none⟩) 1 1] 33)) (w.heap.size + 3) (some ⟨w.heap.size + 2, 0, none⟩) 2 exL := by
  have hb0 : Below (w.alloc (.cells #[.string ⟨#[109]⟩] 9)).heap.size (w.alloc (.cells #[.string ⟨#[109]⟩] 9)) (((w.alloc (.cells #[.string ⟨#[109]⟩] 9)).alloc (.cells #[.string ⟨#[98]⟩] 9)).alloc (.cells #[.slice (some ⟨w.heap.size, 0, none⟩) 1 1, .slice (some ⟨w.heap.size + 1, 0, none⟩) 1 1] 33)) := ((Below.refl _ _).alloc (Nat.le_refl _) _).alloc (by simp) _
  have hb1 : Below ((w.alloc (.cells #[.string ⟨#[109]⟩] 9)).alloc (.cells #[.string ⟨#[98]⟩] 9)).heap.size ((w.alloc (.cells #[.string ⟨#[109]⟩] 9)).alloc (.cells #[.string ⟨#[98]⟩] 9)) (((w.alloc (.cells #[.string ⟨#[109]⟩] 9)).alloc (.cells #[.string ⟨#[98]⟩] 9)).alloc (.cells #[.slice (some ⟨w.heap.size, 0, none⟩) 1 1, .slice (some ⟨w.heap.size + 1, 0, none⟩) 1 1] 33)) := (Below.refl _ _).alloc (Nat.le_refl _) _
  have h0 := (sr_new w 9 [⟨#[109]⟩] #[.string ⟨#[109]⟩] rfl 1 rfl).below' hb0
  have h1 := (sr_new (w.alloc (.cells #[.string ⟨#[109]⟩] 9)) 9 [⟨#[98]⟩] #[.string ⟨#[98]⟩] rfl 1 rfl).below' hb1
  have h2 := reads_new ((w.alloc (.cells #[.string ⟨#[109]⟩] 9)).alloc (.cells #[.string ⟨#[98]⟩] 9)) 33 #[.slice (some ⟨w.heap.size, 0, none⟩) 1 1, .slice (some ⟨w.heap.size + 1, 0, none⟩) 1 1]
  rw [show (w.alloc (.cells #[.string ⟨#[109]⟩] 9)).heap.size = w.heap.size + 1 by simp] at h0 h1
  rw [show ((w.alloc (.cells #[.string ⟨#[109]⟩] 9)).alloc (.cells #[.string ⟨#[98]⟩] 9)).heap.size = w.heap.size + 2 by simp] at h1 h2
  refine ⟨_, Reads.more h2 (by simp), rfl, fun i l hil => ?_⟩
  match i, hil with
  | 0, hil => cases hil; exact ⟨_, _, _, rfl, Reads.more h0 (by omega)⟩
  | 1, hil => cases hil; exact ⟨_, _, _, rfl, Reads.more h1 (by omega)⟩
theorem exZL : SizedL exL := ⟨by decide, fun l hl => by
  simp only [exL, List.mem_cons, List.not_mem_nil, or_false] at hl
  rcases hl with rfl | rfl <;> exact ⟨by decide, fun s hs => by rw [List.mem_singleton] at hs; subst hs; decide⟩⟩
theorem hits_two (w : World) (a b : Hv) (ha : HvR w w.heap.size a) (hb : HvR w w.heap.size b) : HitsR (w.alloc (.cells #[.int .i64 a.rid, .int .i64 a.nid, .slice a.la a.ln a.lc, .string a.key, .slice a.ra a.rn a.rc, .int .i64 b.rid, .int .i64 b.nid, .slice b.la b.ln b.lc, .string b.key, .slice b.ra b.rn b.rc] 35)) (w.alloc (.cells #[.int .i64 a.rid, .int .i64 a.nid, .slice a.la a.ln a.lc, .string a.key, .slice a.ra a.rn a.rc, .int .i64 b.rid, .int .i64 b.nid, .slice b.la b.ln b.lc, .string b.key, .slice b.ra b.rn b.rc] 35)).heap.size (some ⟨w.heap.size, 0, none⟩) 2 [a, b] := by
  have hbe := (Below.refl w.heap.size w).alloc (Nat.le_refl _) (.cells #[.int .i64 a.rid, .int .i64 a.nid, .slice a.la a.ln a.lc, .string a.key, .slice a.ra a.rn a.rc, .int .i64 b.rid, .int .i64 b.nid, .slice b.la b.ln b.lc, .string b.key, .slice b.ra b.rn b.rc] 35)
  refine ⟨⟨⟨rfl, fun _ => ⟨_, rfl, by simp, fun j u hu => ?_⟩⟩, rfl⟩, fun x hx => ?_⟩
  · rw [Addr.add_mid, Nat.zero_add, World.cell?_alloc_new, ← hu, ← List.getElem?_toArray]
    rfl
  · simp only [List.mem_cons, List.not_mem_nil, or_false] at hx
    rcases hx with rfl | rfl
    · exact ha.on hbe
    · exact hb.on hbe
theorem exN_tier : ∀ x ∈ exN, 0 ≤ x.tier ∧ x.tier < ((2 : Nat) : Int) := by
  intro x hx
  simp only [exN, List.mem_cons, List.not_mem_nil, or_false] at hx
  rcases hx with rfl | rfl | rfl <;> exact ⟨by decide, by decide⟩
theorem exZ3 : HvZ exH3 := ⟨⟨by decide, fun s hs => by simp [exH3] at hs; subst hs; decide⟩, ⟨by decide, fun s hs => by simp [exH3] at hs⟩, by decide⟩
theorem exZ2 : HvZ exH2 := ⟨⟨by decide, fun s hs => by simp [exH2] at hs⟩, ⟨by decide, fun s hs => by simp [exH2] at hs; subst hs; decide⟩, by decide⟩
set_option maxHeartbeats 8000000 in
set_option maxRecDepth 100000 in
theorem awake39_any (w : World) (hT : Tabs w) : Calls Tryz.prog 6 #[] w fun e w' => e = .returned (.bool true) ∧ Below w.heap.size w w' := by
  have HT := Lib.hid hT
  clear hT
  go_enter Tryz.func6, Tryz.ntmps6
  go_wp2_with fail
  refine (example39_any w).mono ?_
  rintro e w1 ⟨ta, tc, na, nc, rfl, hN, hb1⟩
  have HB1 := Lib.hid hb1
  have hbI : Below w1.heap.size w1 ((w1.alloc (.cells #[.int .i64 1, .string ⟨#[]⟩, .int .i64 1000, .int .i64 0, .slice none 0 0, .slice ta 2 tc, .slice na 3 nc] 28)).alloc (.cells #[.int .i64 3, .int .i64 9, .int .i64 2] 3)) := ((Below.refl _ w1).alloc (Nat.le_refl _) _).alloc (by simp) _
  have HAll := Lib.hid (all_any ⟨1, ⟨#[]⟩, 1000, 0, none, 0, 0, ta, 2, tc, na, 3, nc⟩ exN (some ⟨(w1.alloc (.cells #[.int .i64 1, .string ⟨#[]⟩, .int .i64 1000, .int .i64 0, .slice none 0 0, .slice ta 2 tc, .slice na 3 nc] 28)).heap.size, 0, none⟩) 3 3 [3, 9, 2] 1 ((w1.alloc (.cells #[.int .i64 1, .string ⟨#[]⟩, .int .i64 1000, .int .i64 0, .slice none 0 0, .slice ta 2 tc, .slice na 3 nc] 28)).alloc (.cells #[.int .i64 3, .int .i64 9, .int .i64 2] 3)) (hN.on hbI) (by show 3 < 20; omega) (by show 2 ≤ _; omega) exN_tier (ir_new (w1.alloc (.cells #[.int .i64 1, .string ⟨#[]⟩, .int .i64 1000, .int .i64 0, .slice none 0 0, .slice ta 2 tc, .slice na 3 nc] 28)) 3 [3, 9, 2] _ rfl 3 rfl) (by omega))
  have HN := Lib.hid fun (W : World) (hW : Below w1.heap.size w1 W) => hN.on hW
  obtain ⟨pd, hpd⟩ : ∃ pd, w1.heap.size = pd := ⟨_, rfl⟩
  have hsD : (w1.alloc (.cells #[.int .i64 1, .string ⟨#[]⟩, .int .i64 1000, .int .i64 0, .slice none 0 0, .slice ta 2 tc, .slice na 3 nc] 28)).heap.size = pd + 1 := by rw [← hpd]; simp
  rw [hsD] at HAll
  have hdoc : ((w1.alloc (.cells #[.int .i64 1, .string ⟨#[]⟩, .int .i64 1000, .int .i64 0, .slice none 0 0, .slice ta 2 tc, .slice na 3 nc] 28)).alloc (.cells #[.int .i64 3, .int .i64 9, .int .i64 2] 3)).rangeAt pd 0 [.int .i64 1, .string ⟨#[]⟩, .int .i64 1000, .int .i64 0, .slice none 0 0, .slice ta 2 tc, .slice na 3 nc] := fun j v hv => by
    rw [World.cell?_alloc_lt _ _ _ (by rw [← hpd]; simp), ← hpd, Nat.zero_add, World.cell?_alloc_new, ← hv, ← List.getElem?_toArray]
  have HD0 := Lib.hid hdoc
  have HBI := Lib.hid hbI
  have hszI : ((w1.alloc (.cells #[.int .i64 1, .string ⟨#[]⟩, .int .i64 1000, .int .i64 0, .slice none 0 0, .slice ta 2 tc, .slice na 3 nc] 28)).alloc (.cells #[.int .i64 3, .int .i64 9, .int .i64 2] 3)).heap.size = pd + 2 := by rw [← hpd]; simp
  unfold docV at HAll ⊢
  simp only [] at HAll ⊢
  clear hN hb1 hbI hdoc
  go_wp2_with fail
  obtain ⟨WI, hWI⟩ : ∃ WI, ((w1.alloc (.cells #[.int .i64 1, .string ⟨#[]⟩, .int .i64 1000, .int .i64 0, .slice none 0 0, .slice ta 2 tc, .slice na 3 nc] 28)).alloc (.cells #[.int .i64 3, .int .i64 9, .int .i64 2] 3)) = WI := ⟨_, rfl⟩
  rw [hWI] at HAll HD0 HBI hszI
  (try rw [hWI])
  refine HAll.out.mono ?_
  rintro e w2 ⟨v2, hs, rfl, hown, hmap, hb2⟩
  have hmap' : hs.map Hv.toHt = [exH3, exH2] := hmap.trans ex_all
  obtain ⟨x3, x2, rfl, hx3, hx2⟩ := two_of hmap'
  obtain ⟨A2, c2, hv2, hc2, hc2m, hHits⟩ := hown.form
  replace hv2 : v2 = .slice A2 2 c2 := hv2
  subst hv2
  replace hHits : HitsR w2 w2.heap.size A2 2 [x3, x2] := hHits
  have HH := Lib.hid hHits
  have HX3 := Lib.hid hx3
  have HX2 := Lib.hid hx2
  have HB2 := Lib.hid hb2
  have HDX : Hid (∀ W, Below w2.heap.size w2 W → W.rangeAt pd 0 [.int .i64 1, .string ⟨#[]⟩, .int .i64 1000, .int .i64 0, .slice none 0 0, .slice ta 2 tc, .slice na 3 nc]) := fun W hW => range_below (hb2.trans (hW.mono hb2.size)) (by omega) HD0.out
  have HNX : Hid (∀ W, Below w2.heap.size w2 W → NotesR W W.heap.size na 3 exN) := fun W hW => HN.out W (HBI.out.trans ((hb2.trans (hW.mono hb2.size)).mono (by omega)))
  have hr := HDX.out w2 (Below.refl _ _)
  have k0 : w2.cell? ⟨pd, 0, none⟩ = some (.int .i64 1) := hr 0 _ rfl
  have k1 : w2.cell? ⟨pd, 1, none⟩ = some (.string ⟨#[]⟩) := hr 1 _ rfl
  have k2 : w2.cell? ⟨pd, 2, none⟩ = some (.int .i64 1000) := hr 2 _ rfl
  have k3 : w2.cell? ⟨pd, 3, none⟩ = some (.int .i64 0) := hr 3 _ rfl
  have k4 : w2.cell? ⟨pd, 4, none⟩ = some (.slice none 0 0) := hr 4 _ rfl
  have k5 : w2.cell? ⟨pd, 5, none⟩ = some (.slice ta 2 tc) := hr 5 _ rfl
  have k6 : w2.cell? ⟨pd, 6, none⟩ = some (.slice na 3 nc) := hr 6 _ rfl
  have HHit := Lib.hid (hit_any ⟨1, ⟨#[]⟩, 1000, 0, none, 0, 0, ta, 2, tc, na, 3, nc⟩ exN 2 1 w2 (HNX.out w2 (Below.refl _ _)) (by show 3 < 20; omega) (by show 2 ≤ _; omega) exN_tier)
  unfold docV at HHit
  simp only [] at HHit
  clear hmap hmap' hx3 hx2 hown hb2 hHits hr HAll HN HD0
  go_wp2_with fail
  refine HHit.out.mono ?_
  rintro e w3 ⟨h2, rfl, hht, hvr, g2, hb3⟩
  clear g2
  have hh2 : h2.toHt = exH2 := by rw [hht, ex_hit]; rfl
  have HH2 := Lib.hid hh2
  have HVR2 := Lib.hid hvr
  have HB3 := Lib.hid hb3
  obtain ⟨ph, hph⟩ : ∃ ph, w3.heap.size = ph := ⟨_, rfl⟩
  have hpp : pd + 2 ≤ ph := by have h1 := HB2.out.size; have h2 := hb3.size; omega
  have HBA3 : Hid (Below w2.heap.size w2 (w3.alloc (.cells #[.int .i64 h2.rid, .int .i64 h2.nid, .slice h2.la h2.ln h2.lc, .string h2.key, .slice h2.ra h2.rn h2.rc] 35))) := hb3.alloc hb3.size _
  have hr := HDX.out _ HBA3.out
  have kk0 : (w3.alloc (.cells #[.int .i64 h2.rid, .int .i64 h2.nid, .slice h2.la h2.ln h2.lc, .string h2.key, .slice h2.ra h2.rn h2.rc] 35)).cell? ⟨pd, 0, none⟩ = some (.int .i64 1) := hr 0 _ rfl
  have kk1 : (w3.alloc (.cells #[.int .i64 h2.rid, .int .i64 h2.nid, .slice h2.la h2.ln h2.lc, .string h2.key, .slice h2.ra h2.rn h2.rc] 35)).cell? ⟨pd, 1, none⟩ = some (.string ⟨#[]⟩) := hr 1 _ rfl
  have kk2 : (w3.alloc (.cells #[.int .i64 h2.rid, .int .i64 h2.nid, .slice h2.la h2.ln h2.lc, .string h2.key, .slice h2.ra h2.rn h2.rc] 35)).cell? ⟨pd, 2, none⟩ = some (.int .i64 1000) := hr 2 _ rfl
  have kk3 : (w3.alloc (.cells #[.int .i64 h2.rid, .int .i64 h2.nid, .slice h2.la h2.ln h2.lc, .string h2.key, .slice h2.ra h2.rn h2.rc] 35)).cell? ⟨pd, 3, none⟩ = some (.int .i64 0) := hr 3 _ rfl
  have kk4 : (w3.alloc (.cells #[.int .i64 h2.rid, .int .i64 h2.nid, .slice h2.la h2.ln h2.lc, .string h2.key, .slice h2.ra h2.rn h2.rc] 35)).cell? ⟨pd, 4, none⟩ = some (.slice none 0 0) := hr 4 _ rfl
  have kk5 : (w3.alloc (.cells #[.int .i64 h2.rid, .int .i64 h2.nid, .slice h2.la h2.ln h2.lc, .string h2.key, .slice h2.ra h2.rn h2.rc] 35)).cell? ⟨pd, 5, none⟩ = some (.slice ta 2 tc) := hr 5 _ rfl
  have kk6 : (w3.alloc (.cells #[.int .i64 h2.rid, .int .i64 h2.nid, .slice h2.la h2.ln h2.lc, .string h2.key, .slice h2.ra h2.rn h2.rc] 35)).cell? ⟨pd, 6, none⟩ = some (.slice na 3 nc) := hr 6 _ rfl
  have HHit9 := Lib.hid (hit_any ⟨1, ⟨#[]⟩, 1000, 0, none, 0, 0, ta, 2, tc, na, 3, nc⟩ exN 9 1 (w3.alloc (.cells #[.int .i64 h2.rid, .int .i64 h2.nid, .slice h2.la h2.ln h2.lc, .string h2.key, .slice h2.ra h2.rn h2.rc] 35)) (HNX.out _ HBA3.out) (by show 3 < 20; omega) (by show 2 ≤ _; omega) exN_tier)
  unfold docV at HHit9
  simp only [] at HHit9
  have HRH : Hid ((w3.alloc (.cells #[.int .i64 h2.rid, .int .i64 h2.nid, .slice h2.la h2.ln h2.lc, .string h2.key, .slice h2.ra h2.rn h2.rc] 35)).rangeAt ph 0 [.int .i64 h2.rid, .int .i64 h2.nid, .slice h2.la h2.ln h2.lc, .string h2.key, .slice h2.ra h2.rn h2.rc]) := fun j v hv => by
    rw [← hph, Nat.zero_add, World.cell?_alloc_new, ← hv, ← List.getElem?_toArray]
  have HVR3 : Hid (HvR (w3.alloc (.cells #[.int .i64 h2.rid, .int .i64 h2.nid, .slice h2.la h2.ln h2.lc, .string h2.key, .slice h2.ra h2.rn h2.rc] 35)) (w3.alloc (.cells #[.int .i64 h2.rid, .int .i64 h2.nid, .slice h2.la h2.ln h2.lc, .string h2.key, .slice h2.ra h2.rn h2.rc] 35)).heap.size h2) := hvr.on ((Below.refl _ w3).alloc (Nat.le_refl _) _)
  have hs3 : (w3.alloc (.cells #[.int .i64 h2.rid, .int .i64 h2.nid, .slice h2.la h2.ln h2.lc, .string h2.key, .slice h2.ra h2.rn h2.rc] 35)).heap.size = ph + 1 := by rw [← hph]; simp
  rw [show (encH h2).toArray = #[.int .i64 h2.rid, .int .i64 h2.nid, .slice h2.la h2.ln h2.lc, .string h2.key, .slice h2.ra h2.rn h2.rc] from rfl, show (getN exN 2).isSome = true from rfl]
  clear hht hvr hb3 hr HHit hh2 k0 k1 k2 k3 k4 k5 k6
  go_wp2_with fail
  obtain ⟨W3, hW3⟩ : ∃ W3, (w3.alloc (.cells #[.int .i64 h2.rid, .int .i64 h2.nid, .slice h2.la h2.ln h2.lc, .string h2.key, .slice h2.ra h2.rn h2.rc] 35)) = W3 := ⟨_, rfl⟩
  rw [hW3] at HBA3 HHit9 HRH HVR3 hs3
  (try rw [hW3])
  clear hW3 kk0 kk1 kk2 kk3 kk4 kk5 kk6
  refine HHit9.out.mono ?_
  rintro e w4 ⟨h9, rfl, e9, f9, g9, hb4⟩
  clear e9 f9 g9
  obtain ⟨p9, hp9⟩ : ∃ p9, w4.heap.size = p9 := ⟨_, rfl⟩
  have hpp9 : ph + 1 ≤ p9 := by have := hb4.size; omega
  have HB4 : Hid (Below w2.heap.size w2 (w4.alloc (.cells #[.int .i64 h9.rid, .int .i64 h9.nid, .slice h9.la h9.ln h9.lc, .string h9.key, .slice h9.ra h9.rn h9.rc] 35))) := (HBA3.out.trans (hb4.mono HBA3.out.size)).alloc (by have h1 := HBA3.out.size; have h2 := hb4.size; omega) _
  have hb4a : Below W3.heap.size W3 (w4.alloc (.cells #[.int .i64 h9.rid, .int .i64 h9.nid, .slice h9.la h9.ln h9.lc, .string h9.key, .slice h9.ra h9.rn h9.rc] 35)) := hb4.alloc hb4.size _
  have hrh := range_below hb4a (by omega) HRH.out
  have x0 : (w4.alloc (.cells #[.int .i64 h9.rid, .int .i64 h9.nid, .slice h9.la h9.ln h9.lc, .string h9.key, .slice h9.ra h9.rn h9.rc] 35)).cell? ⟨ph, 0, none⟩ = some (.int .i64 h2.rid) := hrh 0 _ rfl
  have x1 : (w4.alloc (.cells #[.int .i64 h9.rid, .int .i64 h9.nid, .slice h9.la h9.ln h9.lc, .string h9.key, .slice h9.ra h9.rn h9.rc] 35)).cell? ⟨ph, 1, none⟩ = some (.int .i64 h2.nid) := hrh 1 _ rfl
  have x2c : (w4.alloc (.cells #[.int .i64 h9.rid, .int .i64 h9.nid, .slice h9.la h9.ln h9.lc, .string h9.key, .slice h9.ra h9.rn h9.rc] 35)).cell? ⟨ph, 2, none⟩ = some (.slice h2.la h2.ln h2.lc) := hrh 2 _ rfl
  have x3c : (w4.alloc (.cells #[.int .i64 h9.rid, .int .i64 h9.nid, .slice h9.la h9.ln h9.lc, .string h9.key, .slice h9.ra h9.rn h9.rc] 35)).cell? ⟨ph, 3, none⟩ = some (.string h2.key) := hrh 3 _ rfl
  have x4 : (w4.alloc (.cells #[.int .i64 h9.rid, .int .i64 h9.nid, .slice h9.la h9.ln h9.lc, .string h9.key, .slice h9.ra h9.rn h9.rc] 35)).cell? ⟨ph, 4, none⟩ = some (.slice h2.ra h2.rn h2.rc) := hrh 4 _ rfl
  have HVR4 : Hid (HvR (w4.alloc (.cells #[.int .i64 h9.rid, .int .i64 h9.nid, .slice h9.la h9.ln h9.lc, .string h9.key, .slice h9.ra h9.rn h9.rc] 35)) (w4.alloc (.cells #[.int .i64 h9.rid, .int .i64 h9.nid, .slice h9.la h9.ln h9.lc, .string h9.key, .slice h9.ra h9.rn h9.rc] 35)).heap.size h2) := HVR3.out.on hb4a
  have hs4 : (w4.alloc (.cells #[.int .i64 h9.rid, .int .i64 h9.nid, .slice h9.la h9.ln h9.lc, .string h9.key, .slice h9.ra h9.rn h9.rc] 35)).heap.size = p9 + 1 := by rw [← hp9]; simp
  rw [show (encH h9).toArray = #[.int .i64 h9.rid, .int .i64 h9.nid, .slice h9.la h9.ln h9.lc, .string h9.key, .slice h9.ra h9.rn h9.rc] from rfl, show (getN exN 9).isSome = false from rfl]
  clear hb4 hb4a hrh HHit9 HRH
  obtain ⟨W4, hW4⟩ : ∃ W4, (w4.alloc (.cells #[.int .i64 h9.rid, .int .i64 h9.nid, .slice h9.la h9.ln h9.lc, .string h9.key, .slice h9.ra h9.rn h9.rc] 35)) = W4 := ⟨_, rfl⟩
  have HEQ : Hid (Calls Tryz.prog 9 #[.agg #[.int .i64 h2.rid, .int .i64 h2.nid, .slice h2.la h2.ln h2.lc, .string h2.key, .slice h2.ra h2.rn h2.rc], .agg #[.int .i64 1, .int .i64 2, .slice none 0 0, .string ⟨#[98, 97]⟩, .slice (some ⟨p9 + 1, 0, none⟩) 1 1]] ((w4.alloc (.cells #[.int .i64 h9.rid, .int .i64 h9.nid, .slice h9.la h9.ln h9.lc, .string h9.key, .slice h9.ra h9.rn h9.rc] 35)).alloc (.cells #[.string ⟨#[109, 105]⟩] 9)) fun e w' => e = .returned (.bool true) ∧ Below ((w4.alloc (.cells #[.int .i64 h9.rid, .int .i64 h9.nid, .slice h9.la h9.ln h9.lc, .string h9.key, .slice h9.ra h9.rn h9.rc] 35)).alloc (.cells #[.string ⟨#[109, 105]⟩] 9)).heap.size ((w4.alloc (.cells #[.int .i64 h9.rid, .int .i64 h9.nid, .slice h9.la h9.ln h9.lc, .string h9.key, .slice h9.ra h9.rn h9.rc] 35)).alloc (.cells #[.string ⟨#[109, 105]⟩] 9)) w') := by
    rw [hW4] at HVR4 hs4 ⊢
    have hb5 : Below W4.heap.size W4 (W4.alloc (.cells #[.string ⟨#[109, 105]⟩] 9)) := (Below.refl _ _).alloc (Nat.le_refl _) _
    have hs := sr_new W4 9 [⟨#[109, 105]⟩] #[.string ⟨#[109, 105]⟩] rfl 1 rfl
    rw [hs4] at hs
    exact equalH_any h2 { toHt := exH2, la := none, ln := 0, lc := 0, ra := some ⟨p9 + 1, 0, none⟩, rn := 1, rc := 1 } _ HH2.out (HVR4.out.on hb5) ⟨⟨rfl, fun h => absurd h (Nat.lt_irrefl 0)⟩, hs, ⟨Nat.le_refl _, by show 0 ≤ _; omega⟩, ⟨Nat.le_refl _, by show 1 ≤ _; omega⟩⟩ (Nat.le_trans HVR4.out.lc.1 HVR4.out.lc.2) (Nat.le_trans HVR4.out.rc.1 HVR4.out.rc.2) (by show 0 ≤ _; omega) (by show 1 ≤ _; omega)
  clear hW4 HVR4
  go_wp2_with fail
  refine HEQ.out.mono ?_
  rintro e w5 ⟨rfl, hb5⟩
  have HB5 : Hid (Below w2.heap.size w2 w5) := (HB4.out.alloc HB4.out.size _).trans (hb5.mono (by have := HB4.out.size; simp; omega))
  have hb6 : Below w5.heap.size w5 ((((w5.alloc (.cells #[.string ⟨#[109]⟩] 9)).alloc (.cells #[.string ⟨#[98]⟩] 9)).alloc (.cells #[.slice (some ⟨w5.heap.size, 0, none⟩) 1 1, .slice (some ⟨w5.heap.size + 1, 0, none⟩) 1 1] 33)).alloc (.cells #[.string ⟨#[112, 108, 97, 105, 110]⟩, .slice none 0 0, .slice (some ⟨w5.heap.size + 2, 0, none⟩) 2 2] 50)) := ((((Below.refl _ w5).alloc (Nat.le_refl _) _).alloc (by simp) _).alloc (by simp; omega) _).alloc (by simp; omega) _
  have hbo : Below (w5.heap.size + 3) (((w5.alloc (.cells #[.string ⟨#[109]⟩] 9)).alloc (.cells #[.string ⟨#[98]⟩] 9)).alloc (.cells #[.slice (some ⟨w5.heap.size, 0, none⟩) 1 1, .slice (some ⟨w5.heap.size + 1, 0, none⟩) 1 1] 33)) ((((w5.alloc (.cells #[.string ⟨#[109]⟩] 9)).alloc (.cells #[.string ⟨#[98]⟩] 9)).alloc (.cells #[.slice (some ⟨w5.heap.size, 0, none⟩) 1 1, .slice (some ⟨w5.heap.size + 1, 0, none⟩) 1 1] 33)).alloc (.cells #[.string ⟨#[112, 108, 97, 105, 110]⟩, .slice none 0 0, .slice (some ⟨w5.heap.size + 2, 0, none⟩) 2 2] 50)) := by
    have h := (Below.refl ((((w5.alloc (.cells #[.string ⟨#[109]⟩] 9)).alloc (.cells #[.string ⟨#[98]⟩] 9)).alloc (.cells #[.slice (some ⟨w5.heap.size, 0, none⟩) 1 1, .slice (some ⟨w5.heap.size + 1, 0, none⟩) 1 1] 33))).heap.size (((w5.alloc (.cells #[.string ⟨#[109]⟩] 9)).alloc (.cells #[.string ⟨#[98]⟩] 9)).alloc (.cells #[.slice (some ⟨w5.heap.size, 0, none⟩) 1 1, .slice (some ⟨w5.heap.size + 1, 0, none⟩) 1 1] 33))).alloc (Nat.le_refl _) (.cells #[.string ⟨#[112, 108, 97, 105, 110]⟩, .slice none 0 0, .slice (some ⟨w5.heap.size + 2, 0, none⟩) 2 2] 50)
    rw [show ((((w5.alloc (.cells #[.string ⟨#[109]⟩] 9)).alloc (.cells #[.string ⟨#[98]⟩] 9)).alloc (.cells #[.slice (some ⟨w5.heap.size, 0, none⟩) 1 1, .slice (some ⟨w5.heap.size + 1, 0, none⟩) 1 1] 33))).heap.size = w5.heap.size + 3 by simp] at h
    exact h
  have hs6 : ((((w5.alloc (.cells #[.string ⟨#[109]⟩] 9)).alloc (.cells #[.string ⟨#[98]⟩] 9)).alloc (.cells #[.slice (some ⟨w5.heap.size, 0, none⟩) 1 1, .slice (some ⟨w5.heap.size + 1, 0, none⟩) 1 1] 33)).alloc (.cells #[.string ⟨#[112, 108, 97, 105, 110]⟩, .slice none 0 0, .slice (some ⟨w5.heap.size + 2, 0, none⟩) 2 2] 50)).heap.size = w5.heap.size + 4 := by simp
  have hR6 : RowsR ((((w5.alloc (.cells #[.string ⟨#[109]⟩] 9)).alloc (.cells #[.string ⟨#[98]⟩] 9)).alloc (.cells #[.slice (some ⟨w5.heap.size, 0, none⟩) 1 1, .slice (some ⟨w5.heap.size + 1, 0, none⟩) 1 1] 33)).alloc (.cells #[.string ⟨#[112, 108, 97, 105, 110]⟩, .slice none 0 0, .slice (some ⟨w5.heap.size + 2, 0, none⟩) 2 2] 50)) ((((w5.alloc (.cells #[.string ⟨#[109]⟩] 9)).alloc (.cells #[.string ⟨#[98]⟩] 9)).alloc (.cells #[.slice (some ⟨w5.heap.size, 0, none⟩) 1 1, .slice (some ⟨w5.heap.size + 1, 0, none⟩) 1 1] 33)).alloc (.cells #[.string ⟨#[112, 108, 97, 105, 110]⟩, .slice none 0 0, .slice (some ⟨w5.heap.size + 2, 0, none⟩) 2 2] 50)).heap.size (some ⟨w5.heap.size + 2, 0, none⟩) 2 exL := rows_more ((rows_ex w5).below hbo) (by omega)
  have hH6 : HitsR ((((w5.alloc (.cells #[.string ⟨#[109]⟩] 9)).alloc (.cells #[.string ⟨#[98]⟩] 9)).alloc (.cells #[.slice (some ⟨w5.heap.size, 0, none⟩) 1 1, .slice (some ⟨w5.heap.size + 1, 0, none⟩) 1 1] 33)).alloc (.cells #[.string ⟨#[112, 108, 97, 105, 110]⟩, .slice none 0 0, .slice (some ⟨w5.heap.size + 2, 0, none⟩) 2 2] 50)) ((((w5.alloc (.cells #[.string ⟨#[109]⟩] 9)).alloc (.cells #[.string ⟨#[98]⟩] 9)).alloc (.cells #[.slice (some ⟨w5.heap.size, 0, none⟩) 1 1, .slice (some ⟨w5.heap.size + 1, 0, none⟩) 1 1] 33)).alloc (.cells #[.string ⟨#[112, 108, 97, 105, 110]⟩, .slice none 0 0, .slice (some ⟨w5.heap.size + 2, 0, none⟩) 2 2] 50)).heap.size A2 2 [x3, x2] := (HH.out.on HB5.out).on hb6
  have hzz : ∀ x ∈ [x3, x2], HvZ x.toHt := fun x hx => by
    simp only [List.mem_cons, List.not_mem_nil, or_false] at hx
    rcases hx with rfl | rfl
    · rw [HX3.out]; exact exZ3
    · rw [HX2.out]; exact exZ2
  have HSRT := Lib.hid (sort39_any ⟨#[112, 108, 97, 105, 110]⟩ none (some ⟨w5.heap.size + 2, 0, none⟩) 0 0 2 2 exL A2 2 c2 [x3, x2] ((((w5.alloc (.cells #[.string ⟨#[109]⟩] 9)).alloc (.cells #[.string ⟨#[98]⟩] 9)).alloc (.cells #[.slice (some ⟨w5.heap.size, 0, none⟩) 1 1, .slice (some ⟨w5.heap.size + 1, 0, none⟩) 1 1] 33)).alloc (.cells #[.string ⟨#[112, 108, 97, 105, 110]⟩, .slice none 0 0, .slice (some ⟨w5.heap.size + 2, 0, none⟩) 2 2] 50)) hR6 exZL hH6 (by omega) hzz)
  have HR6 := Lib.hid hR6
  have HBO : Hid (Below w2.heap.size w2 ((((w5.alloc (.cells #[.string ⟨#[109]⟩] 9)).alloc (.cells #[.string ⟨#[98]⟩] 9)).alloc (.cells #[.slice (some ⟨w5.heap.size, 0, none⟩) 1 1, .slice (some ⟨w5.heap.size + 1, 0, none⟩) 1 1] 33)).alloc (.cells #[.string ⟨#[112, 108, 97, 105, 110]⟩, .slice none 0 0, .slice (some ⟨w5.heap.size + 2, 0, none⟩) 2 2] 50))) := HB5.out.trans (hb6.mono HB5.out.size)
  have HOC : Hid (((((w5.alloc (.cells #[.string ⟨#[109]⟩] 9)).alloc (.cells #[.string ⟨#[98]⟩] 9)).alloc (.cells #[.slice (some ⟨w5.heap.size, 0, none⟩) 1 1, .slice (some ⟨w5.heap.size + 1, 0, none⟩) 1 1] 33)).alloc (.cells #[.string ⟨#[112, 108, 97, 105, 110]⟩, .slice none 0 0, .slice (some ⟨w5.heap.size + 2, 0, none⟩) 2 2] 50)).rangeAt (w5.heap.size + 3) 0 [.string ⟨#[112, 108, 97, 105, 110]⟩, .slice none 0 0, .slice (some ⟨w5.heap.size + 2, 0, none⟩) 2 2]) := fun j v hv => by
    have h := World.cell?_alloc_new (((w5.alloc (.cells #[.string ⟨#[109]⟩] 9)).alloc (.cells #[.string ⟨#[98]⟩] 9)).alloc (.cells #[.slice (some ⟨w5.heap.size, 0, none⟩) 1 1, .slice (some ⟨w5.heap.size + 1, 0, none⟩) 1 1] 33)) #[.string ⟨#[112, 108, 97, 105, 110]⟩, .slice none 0 0, .slice (some ⟨w5.heap.size + 2, 0, none⟩) 2 2] 50 j
    rw [show ((((w5.alloc (.cells #[.string ⟨#[109]⟩] 9)).alloc (.cells #[.string ⟨#[98]⟩] 9)).alloc (.cells #[.slice (some ⟨w5.heap.size, 0, none⟩) 1 1, .slice (some ⟨w5.heap.size + 1, 0, none⟩) 1 1] 33))).heap.size = w5.heap.size + 3 by simp] at h
    rw [Nat.zero_add, h, ← hv, ← List.getElem?_toArray]
  clear hb5 hb6 hbo hR6 hH6 x0 x1 x2c x3c x4 HEQ HB4
  go_wp2_with fail
  obtain ⟨W6, hW6⟩ : ∃ W6, ((((w5.alloc (.cells #[.string ⟨#[109]⟩] 9)).alloc (.cells #[.string ⟨#[98]⟩] 9)).alloc (.cells #[.slice (some ⟨w5.heap.size, 0, none⟩) 1 1, .slice (some ⟨w5.heap.size + 1, 0, none⟩) 1 1] 33)).alloc (.cells #[.string ⟨#[112, 108, 97, 105, 110]⟩, .slice none 0 0, .slice (some ⟨w5.heap.size + 2, 0, none⟩) 2 2] 50)) = W6 := ⟨_, rfl⟩
  rw [hW6] at HSRT HR6 HBO HOC hs6
  (try rw [hW6])
  obtain ⟨q, hq⟩ : ∃ q, w5.heap.size = q := ⟨_, rfl⟩
  rw [hq] at HSRT HR6 HOC hs6
  simp only [hq]
  refine HSRT.out.mono ?_
  rintro e w7 ⟨v7, rfl, ys, hown, hst, heach, hb7⟩
  obtain rfl : ys = [x3, x2] := hst.unique ((cmpH_is exL).comap Hv.toHt) (stable_two (by show cmpH exL x3.toHt x2.toHt < 0; rw [HX3.out, HX2.out, ex_lt]; decide))
  obtain ⟨A7, c7, hv7, hc7, hc7m, hrow⟩ := hown.form
  replace hv7 : v7 = .slice A7 2 c7 := hv7
  subst hv7
  replace hrow : RecR encH 5 w7 w7.heap.size A7 2 [x3, x2] := hrow
  have HH7 : Hid (HitsR w7 w7.heap.size A7 2 [x3, x2]) := ⟨hrow, heach⟩
  have HB7 := Lib.hid hb7
  have hgg := hown.2
  clear hown hst heach hrow hb7 HSRT
  obtain ⟨g, rfl⟩ : ∃ g, A7 = some ⟨g, 0, none⟩ := by
    rcases hgg with ⟨h1, h2⟩ | ⟨g, cap, cur, hv, _⟩
    · cases h2
    · cases hv; exact ⟨g, rfl⟩
  go_wp2_with fail
  obtain ⟨po, hpo⟩ : ∃ po, q + 3 = po := ⟨_, rfl⟩
  rw [show q + 1 + 1 + 1 = po by omega]
  rw [hpo] at HOC
  have HBW : Hid (Below w.heap.size w w7) := HB1.out.trans ((HBI.out.trans ((HB2.out.trans ((HBO.out.trans (HB7.out.mono HBO.out.size)).mono HB2.out.size)).mono HBI.out.size)).mono HB1.out.size)
  have HTX : Hid (∀ W, Below w7.heap.size w7 W → Tabs W) := fun W hW => HT.out.on (HBW.out.trans (hW.mono HBW.out.size))
  have HOX : Hid (∀ W, Below w7.heap.size w7 W → W.rangeAt po 0 [.string ⟨#[112, 108, 97, 105, 110]⟩, .slice none 0 0, .slice (some ⟨q + 2, 0, none⟩) 2 2]) := fun W hW => range_below (HB7.out.trans (hW.mono HB7.out.size)) (by omega) HOC.out
  have HRX : Hid (∀ W, Below w7.heap.size w7 W → RowsR W W.heap.size (some ⟨q + 2, 0, none⟩) 2 exL) := fun W hW => by
    have hb := HB7.out.trans (hW.mono HB7.out.size)
    exact rows_more (HR6.out.below hb) hb.size
  have HHX : Hid (∀ W, Below w7.heap.size w7 W → HitsR W W.heap.size (some ⟨g, 0, none⟩) 2 [x3, x2]) := fun W hW => HH7.out.on hW
  have HGa : Hid (∀ W, Below w7.heap.size w7 W → W.rangeAt g 0 [.int .i64 x3.rid, .int .i64 x3.nid, .slice x3.la x3.ln x3.lc, .string x3.key, .slice x3.ra x3.rn x3.rc]) := fun W hW j v hv => by
    obtain ⟨ad, e, _, hc⟩ := (HHX.out W hW).1.1.2 (by omega)
    cases e
    have hj : j < 5 := (List.getElem?_eq_some_iff.1 hv).1
    have := hc j v (by rw [List.flatMap_cons, List.getElem?_append_left (by rw [encH_len]; exact hj)]; exact hv)
    rw [Addr.add_mid] at this
    exact this
  have HGb : Hid (∀ W, Below w7.heap.size w7 W → W.rangeAt g 5 [.int .i64 x2.rid, .int .i64 x2.nid, .slice x2.la x2.ln x2.lc, .string x2.key, .slice x2.ra x2.rn x2.rc]) := fun W hW j v hv => by
    obtain ⟨ad, e, _, hc⟩ := (HHX.out W hW).1.1.2 (by omega)
    cases e
    have hj : j < 5 := (List.getElem?_eq_some_iff.1 hv).1
    have := hc (5 + j) v (by
      rw [List.flatMap_cons, List.getElem?_append_right (by rw [encH_len]; omega), encH_len, Nat.add_sub_cancel_left, List.flatMap_cons, List.getElem?_append_left (by rw [encH_len]; exact hj)]
      exact hv)
    rw [Addr.add_mid, Nat.zero_add] at this
    exact this
  have HZ3 : Hid (HvZ x3.toHt) := by show HvZ _; rw [HX3.out]; exact exZ3
  have HZ2 : Hid (HvZ x2.toHt) := by show HvZ _; rw [HX2.out]; exact exZ2
  have HV3 : Hid (∀ W, Below w7.heap.size w7 W → HvR W W.heap.size x3) := fun W hW => (HHX.out W hW).2 x3 (by simp)
  have HV2 : Hid (∀ W, Below w7.heap.size w7 W → HvR W W.heap.size x2) := fun W hW => (HHX.out W hW).2 x2 (by simp)
  have HL1 : Hid (∀ W, Below w7.heap.size w7 W → Calls Tryz.prog 16 #[.agg #[.string ⟨#[112, 108, 97, 105, 110]⟩, .slice none 0 0, .slice (some ⟨q + 2, 0, none⟩) 2 2], .agg #[.int .i64 x3.rid, .int .i64 x3.nid, .slice x3.la x3.ln x3.lc, .string x3.key, .slice x3.ra x3.rn x3.rc], .agg #[.int .i64 x2.rid, .int .i64 x2.nid, .slice x2.la x2.ln x2.lc, .string x2.key, .slice x2.ra x2.rn x2.rc]] W fun e w' => e = .returned (.bool true) ∧ Below W.heap.size W w') := fun W hW => by
    have h := less_any ⟨#[112, 108, 97, 105, 110]⟩ none (some ⟨q + 2, 0, none⟩) 0 0 2 2 exL x3 x2 W (HRX.out W hW) exZL (HV3.out W hW) (HV2.out W hW) HZ3.out HZ2.out
    rw [show decide (cmpH exL x3.toHt x2.toHt < 0) = true by rw [HX3.out, HX2.out, ex_lt]; rfl] at h
    exact h
  have HL2 : Hid (∀ W, Below w7.heap.size w7 W → Calls Tryz.prog 16 #[.agg #[.string ⟨#[112, 108, 97, 105, 110]⟩, .slice none 0 0, .slice (some ⟨q + 2, 0, none⟩) 2 2], .agg #[.int .i64 x2.rid, .int .i64 x2.nid, .slice x2.la x2.ln x2.lc, .string x2.key, .slice x2.ra x2.rn x2.rc], .agg #[.int .i64 x3.rid, .int .i64 x3.nid, .slice x3.la x3.ln x3.lc, .string x3.key, .slice x3.ra x3.rn x3.rc]] W fun e w' => e = .returned (.bool false) ∧ Below W.heap.size W w') := fun W hW => by
    have h := less_any ⟨#[112, 108, 97, 105, 110]⟩ none (some ⟨q + 2, 0, none⟩) 0 0 2 2 exL x2 x3 W (HRX.out W hW) exZL (HV2.out W hW) (HV3.out W hW) HZ2.out HZ3.out
    rw [show decide (cmpH exL x2.toHt x3.toHt < 0) = false by rw [HX3.out, HX2.out, (cmpH_is exL).anti exH3 exH2, ex_lt]; rfl] at h
    exact h
  have HK3 : Hid (x3.key = ⟨#[109, 105]⟩) := by show x3.toHt.key = _; rw [HX3.out]; rfl
  have HLN : Hid (linesL ([x2, x3].map Hv.toHt) = [⟨#[32, 32, 32, 91, 98, 97, 93, 32, 109, 105]⟩, ⟨#[98, 97, 32, 91, 109, 105, 93]⟩]) := by
    show linesL [x2.toHt, x3.toHt] = _
    rw [HX3.out, HX2.out]
    exact ex_lines
  have hmm : ∀ x ∈ [x2, x3], HvZ x.toHt := fun x hx => by
    simp only [List.mem_cons, List.not_mem_nil, or_false] at hx
    rcases hx with rfl | rfl
    · exact HZ2.out
    · exact HZ3.out
  have HMM := Lib.hid hmm
  clear hmm hzz
  refine wp_region_told [Told.is (.slice (some ⟨g, 0, none⟩) 2 c7), Told.is (.int .i64 2), Told.is (.bool true), Told.is (.bool true), Told.is (.slice (some ⟨g, 0, none⟩) 2 c7), Told.is (.pointer (some ⟨g, 0, none⟩)), Told.is (.pointer (some ⟨g, 3, none⟩)), Told.is (.string ⟨#[109, 105]⟩), Told.is (.bool true), Told.is (.bool true), Told.is (.bool true), Told.is (.agg #[.string ⟨#[112, 108, 97, 105, 110]⟩, .slice none 0 0, .slice (some ⟨q + 2, 0, none⟩) 2 2]), Told.is (.slice (some ⟨g, 0, none⟩) 2 c7), Told.is (.pointer (some ⟨g, 0, none⟩)), Told.is (.agg #[.int .i64 x3.rid, .int .i64 x3.nid, .slice x3.la x3.ln x3.lc, .string x3.key, .slice x3.ra x3.rn x3.rc]), Told.is (.slice (some ⟨g, 0, none⟩) 2 c7), Told.is (.pointer (some ⟨g, 5, none⟩)), Told.is (.agg #[.int .i64 x2.rid, .int .i64 x2.nid, .slice x2.la x2.ln x2.lc, .string x2.key, .slice x2.ra x2.rn x2.rc]), Told.is (.bool true), Told.is (.bool true), Told.is (.bool true), Told.is (.agg #[.string ⟨#[112, 108, 97, 105, 110]⟩, .slice none 0 0, .slice (some ⟨q + 2, 0, none⟩) 2 2]), Told.is (.slice (some ⟨g, 0, none⟩) 2 c7), Told.is (.pointer (some ⟨g, 5, none⟩)), Told.is (.agg #[.int .i64 x2.rid, .int .i64 x2.nid, .slice x2.la x2.ln x2.lc, .string x2.key, .slice x2.ra x2.rn x2.rc]), Told.is (.slice (some ⟨g, 0, none⟩) 2 c7), Told.is (.pointer (some ⟨g, 0, none⟩)), Told.is (.agg #[.int .i64 x3.rid, .int .i64 x3.nid, .slice x3.la x3.ln x3.lc, .string x3.key, .slice x3.ra x3.rn x3.rc]), Told.is (.bool false), Told.is (.bool true), Told.is (.bool true), Told.is (.bool true), Told.is (.slice (some ⟨g, 0, none⟩) 2 c7), Told.is (.pointer (some ⟨g, 5, none⟩)), Told.is (.agg #[.int .i64 x2.rid, .int .i64 x2.nid, .slice x2.la x2.ln x2.lc, .string x2.key, .slice x2.ra x2.rn x2.rc]), Told.is (.slice (some ⟨g, 0, none⟩) 2 c7), Told.is (.pointer (some ⟨g, 0, none⟩)), Told.is (.agg #[.int .i64 x3.rid, .int .i64 x3.nid, .slice x3.la x3.ln x3.lc, .string x3.key, .slice x3.ra x3.rn x3.rc]), Told.such (fun v w => ∃ A c, v = .slice A 2 c ∧ HitsR w w.heap.size A 2 [x2, x3]) (fun v w w' ⟨A, c, h1, h2⟩ hb => ⟨A, c, h1, HitsR.on h2 hb⟩), Told.such (fun v w => ∃ A c, v = .slice A 2 c ∧ SR w w.heap.size A 2 [⟨#[32, 32, 32, 91, 98, 97, 93, 32, 109, 105]⟩, ⟨#[98, 97, 32, 91, 109, 105, 93]⟩]) (fun v w w' ⟨A, c, h1, h2⟩ hb => ⟨A, c, h1, SR.on h2 hb⟩), Told.such (fun v w => ∃ A c, v = .slice A 2 c ∧ SR w w.heap.size A 2 [⟨#[32, 32, 32, 91, 98, 97, 93, 32, 109, 105]⟩, ⟨#[98, 97, 32, 91, 109, 105, 93]⟩]) (fun v w w' ⟨A, c, h1, h2⟩ hb => ⟨A, c, h1, SR.on h2 hb⟩), Told.is (.bool true), Told.is (.bool true), Told.is (.bool true)] (by kernel_rfl) (by kernel_rfl) ?_ ?_
  · refine And.intro (fun w1 vals hB hd K hK => ?_) ?_
    · clear hd
      simp only [putAll, Act.put, List.setIfInBounds_toArray, List.set_cons_zero, List.set_cons_succ] at hK ⊢
      obtain ⟨ve, hve⟩ : ∃ f : Nat → Value, f = vals := ⟨_, rfl⟩
      rw [← hve] at hK  ⊢
      clear hve
      refine gwp_none rfl ?_
      go_simp
      exact hK _ _ rfl (Below.refl _ _)
    refine And.intro (fun w1 vals hB hd K hK => ?_) ?_
    · have e0 : vals 0 = .slice (some ⟨g, 0, none⟩) 2 c7 := told_at (hd 0 rfl) rfl
      clear hd
      simp only [putAll, Act.put, List.setIfInBounds_toArray, List.set_cons_zero, List.set_cons_succ] at hK ⊢
      simp only [e0] at hK ⊢
      obtain ⟨ve, hve⟩ : ∃ f : Nat → Value, f = vals := ⟨_, rfl⟩
      rw [← hve] at hK  ⊢
      clear e0 hve
      refine gwp_none rfl ?_
      go_simp
      exact hK _ _ rfl (Below.refl _ _)
    refine And.intro (fun w1 vals hB hd K hK => ?_) ?_
    · have e1 : vals 1 = .int .i64 2 := told_at (hd 1 rfl) rfl
      clear hd
      simp only [putAll, Act.put, List.setIfInBounds_toArray, List.set_cons_zero, List.set_cons_succ] at hK ⊢
      simp only [e1] at hK ⊢
      obtain ⟨ve, hve⟩ : ∃ f : Nat → Value, f = vals := ⟨_, rfl⟩
      rw [← hve] at hK  ⊢
      clear e1 hve
      refine gwp_none rfl ?_
      go_simp
      exact hK _ _ rfl (Below.refl _ _)
    refine And.intro (fun w1 vals hB hd K hK => ?_) ?_
    · have e2 : vals 2 = .bool true := told_at (hd 2 rfl) rfl
      clear hd
      simp only [putAll, Act.put, List.setIfInBounds_toArray, List.set_cons_zero, List.set_cons_succ] at hK ⊢
      simp only [e2] at hK ⊢
      obtain ⟨ve, hve⟩ : ∃ f : Nat → Value, f = vals := ⟨_, rfl⟩
      rw [← hve] at hK  ⊢
      clear e2 hve
      refine gwp_none rfl ?_
      go_simp
      exact hK _ _ rfl (Below.refl _ _)
    refine And.intro (fun w1 vals hB hd K hK => ?_) ?_
    · have g3 : vals 3 = .bool true := told_at (hd 3 rfl) rfl
      clear hd
      simp only [putAll, Act.put, List.setIfInBounds_toArray, List.set_cons_zero, List.set_cons_succ] at hK ⊢
      obtain ⟨ve, hve⟩ : ∃ f : Nat → Value, f = vals := ⟨_, rfl⟩
      rw [← hve] at hK g3 ⊢
      clear hve
      refine gwp_some rfl g3 ?_
      clear g3
      go_simp
      exact hK _ _ rfl (Below.refl _ _)
    refine And.intro (fun w1 vals hB hd K hK => ?_) ?_
    · have e4 : vals 4 = .slice (some ⟨g, 0, none⟩) 2 c7 := told_at (hd 4 rfl) rfl
      have g3 : vals 3 = .bool true := told_at (hd 3 rfl) rfl
      clear hd
      simp only [putAll, Act.put, List.setIfInBounds_toArray, List.set_cons_zero, List.set_cons_succ] at hK ⊢
      simp only [e4] at hK ⊢
      obtain ⟨ve, hve⟩ : ∃ f : Nat → Value, f = vals := ⟨_, rfl⟩
      rw [← hve] at hK g3 ⊢
      clear e4 hve
      refine gwp_some rfl g3 ?_
      clear g3
      go_simp
      exact hK _ _ rfl (Below.refl _ _)
    refine And.intro (fun w1 vals hB hd K hK => ?_) ?_
    · have e5 : vals 5 = .pointer (some ⟨g, 0, none⟩) := told_at (hd 5 rfl) rfl
      have g3 : vals 3 = .bool true := told_at (hd 3 rfl) rfl
      clear hd
      simp only [putAll, Act.put, List.setIfInBounds_toArray, List.set_cons_zero, List.set_cons_succ] at hK ⊢
      simp only [e5] at hK ⊢
      obtain ⟨ve, hve⟩ : ∃ f : Nat → Value, f = vals := ⟨_, rfl⟩
      rw [← hve] at hK g3 ⊢
      clear e5 hve
      refine gwp_some rfl g3 ?_
      clear g3
      go_simp
      exact hK _ _ rfl (Below.refl _ _)
    refine And.intro (fun w1 vals hB hd K hK => ?_) ?_
    · have e6 : vals 6 = .pointer (some ⟨g, 3, none⟩) := told_at (hd 6 rfl) rfl
      have g3 : vals 3 = .bool true := told_at (hd 3 rfl) rfl
      clear hd
      simp only [putAll, Act.put, List.setIfInBounds_toArray, List.set_cons_zero, List.set_cons_succ] at hK ⊢
      simp only [e6] at hK ⊢
      obtain ⟨ve, hve⟩ : ∃ f : Nat → Value, f = vals := ⟨_, rfl⟩
      rw [← hve] at hK g3 ⊢
      clear e6 hve
      refine gwp_some rfl g3 ?_
      clear g3
      have hc := (HGa.out w1 hB) 3 _ rfl
      rw [HK3.out] at hc
      go_simp
      exact hK _ _ rfl (Below.refl _ _)
    refine And.intro (fun w1 vals hB hd K hK => ?_) ?_
    · have e7 : vals 7 = .string ⟨#[109, 105]⟩ := told_at (hd 7 rfl) rfl
      have g3 : vals 3 = .bool true := told_at (hd 3 rfl) rfl
      clear hd
      simp only [putAll, Act.put, List.setIfInBounds_toArray, List.set_cons_zero, List.set_cons_succ] at hK ⊢
      simp only [e7] at hK ⊢
      obtain ⟨ve, hve⟩ : ∃ f : Nat → Value, f = vals := ⟨_, rfl⟩
      rw [← hve] at hK g3 ⊢
      clear e7 hve
      refine gwp_some rfl g3 ?_
      clear g3
      go_simp
      exact hK _ _ rfl (Below.refl _ _)
    refine And.intro (fun w1 vals hB hd K hK => ?_) ?_
    · have e3 : vals 3 = .bool true := told_at (hd 3 rfl) rfl
      have e8 : vals 8 = .bool true := told_at (hd 8 rfl) rfl
      clear hd
      simp only [putAll, Act.put, List.setIfInBounds_toArray, List.set_cons_zero, List.set_cons_succ] at hK ⊢
      simp only [e3, e8] at hK ⊢
      obtain ⟨ve, hve⟩ : ∃ f : Nat → Value, f = vals := ⟨_, rfl⟩
      rw [← hve] at hK  ⊢
      clear e3 e8 hve
      refine gwp_none rfl ?_
      go_simp
      exact hK _ _ rfl (Below.refl _ _)
    refine And.intro (fun w1 vals hB hd K hK => ?_) ?_
    · have e9 : vals 9 = .bool true := told_at (hd 9 rfl) rfl
      clear hd
      simp only [putAll, Act.put, List.setIfInBounds_toArray, List.set_cons_zero, List.set_cons_succ] at hK ⊢
      simp only [e9] at hK ⊢
      obtain ⟨ve, hve⟩ : ∃ f : Nat → Value, f = vals := ⟨_, rfl⟩
      rw [← hve] at hK  ⊢
      clear e9 hve
      refine gwp_none rfl ?_
      go_simp
      exact hK _ _ rfl (Below.refl _ _)
    refine And.intro (fun w1 vals hB hd K hK => ?_) ?_
    · have g10 : vals 10 = .bool true := told_at (hd 10 rfl) rfl
      clear hd
      simp only [putAll, Act.put, List.setIfInBounds_toArray, List.set_cons_zero, List.set_cons_succ] at hK ⊢
      obtain ⟨ve, hve⟩ : ∃ f : Nat → Value, f = vals := ⟨_, rfl⟩
      rw [← hve] at hK g10 ⊢
      clear hve
      refine gwp_some rfl g10 ?_
      clear g10
      refine wp_load_mid 50 (.tmp 7) rfl po 0 rfl [.string ⟨#[112, 108, 97, 105, 110]⟩, .slice none 0 0, .slice (some ⟨q + 2, 0, none⟩) 2 2] _ (HOX.out w1 hB) Tryz.underlying50 rfl (by kernel_rfl) ?_
      simp only [Act.put, List.setIfInBounds_toArray, List.set_cons_zero, List.set_cons_succ]
      exact hK _ _ rfl (Below.refl _ _)
    refine And.intro (fun w1 vals hB hd K hK => ?_) ?_
    · have g10 : vals 10 = .bool true := told_at (hd 10 rfl) rfl
      clear hd
      simp only [putAll, Act.put, List.setIfInBounds_toArray, List.set_cons_zero, List.set_cons_succ] at hK ⊢
      obtain ⟨ve, hve⟩ : ∃ f : Nat → Value, f = vals := ⟨_, rfl⟩
      rw [← hve] at hK g10 ⊢
      clear hve
      refine gwp_some rfl g10 ?_
      clear g10
      go_simp
      exact hK _ _ rfl (Below.refl _ _)
    refine And.intro (fun w1 vals hB hd K hK => ?_) ?_
    · have e12 : vals 12 = .slice (some ⟨g, 0, none⟩) 2 c7 := told_at (hd 12 rfl) rfl
      have g10 : vals 10 = .bool true := told_at (hd 10 rfl) rfl
      clear hd
      simp only [putAll, Act.put, List.setIfInBounds_toArray, List.set_cons_zero, List.set_cons_succ] at hK ⊢
      simp only [e12] at hK ⊢
      obtain ⟨ve, hve⟩ : ∃ f : Nat → Value, f = vals := ⟨_, rfl⟩
      rw [← hve] at hK g10 ⊢
      clear e12 hve
      refine gwp_some rfl g10 ?_
      clear g10
      go_simp
      exact hK _ _ rfl (Below.refl _ _)
    refine And.intro (fun w1 vals hB hd K hK => ?_) ?_
    · have e13 : vals 13 = .pointer (some ⟨g, 0, none⟩) := told_at (hd 13 rfl) rfl
      have g10 : vals 10 = .bool true := told_at (hd 10 rfl) rfl
      clear hd
      simp only [putAll, Act.put, List.setIfInBounds_toArray, List.set_cons_zero, List.set_cons_succ] at hK ⊢
      simp only [e13] at hK ⊢
      obtain ⟨ve, hve⟩ : ∃ f : Nat → Value, f = vals := ⟨_, rfl⟩
      rw [← hve] at hK g10 ⊢
      clear e13 hve
      refine gwp_some rfl g10 ?_
      clear g10
      refine wp_load_mid 35 (.tmp 61) rfl g 0 rfl [.int .i64 x3.rid, .int .i64 x3.nid, .slice x3.la x3.ln x3.lc, .string x3.key, .slice x3.ra x3.rn x3.rc] _ (HGa.out w1 hB) Tryz.underlying35 rfl (by kernel_rfl) ?_
      simp only [Act.put, List.setIfInBounds_toArray, List.set_cons_zero, List.set_cons_succ]
      exact hK _ _ rfl (Below.refl _ _)
    refine And.intro (fun w1 vals hB hd K hK => ?_) ?_
    · have g10 : vals 10 = .bool true := told_at (hd 10 rfl) rfl
      clear hd
      simp only [putAll, Act.put, List.setIfInBounds_toArray, List.set_cons_zero, List.set_cons_succ] at hK ⊢
      obtain ⟨ve, hve⟩ : ∃ f : Nat → Value, f = vals := ⟨_, rfl⟩
      rw [← hve] at hK g10 ⊢
      clear hve
      refine gwp_some rfl g10 ?_
      clear g10
      go_simp
      exact hK _ _ rfl (Below.refl _ _)
    refine And.intro (fun w1 vals hB hd K hK => ?_) ?_
    · have e15 : vals 15 = .slice (some ⟨g, 0, none⟩) 2 c7 := told_at (hd 15 rfl) rfl
      have g10 : vals 10 = .bool true := told_at (hd 10 rfl) rfl
      clear hd
      simp only [putAll, Act.put, List.setIfInBounds_toArray, List.set_cons_zero, List.set_cons_succ] at hK ⊢
      simp only [e15] at hK ⊢
      obtain ⟨ve, hve⟩ : ∃ f : Nat → Value, f = vals := ⟨_, rfl⟩
      rw [← hve] at hK g10 ⊢
      clear e15 hve
      refine gwp_some rfl g10 ?_
      clear g10
      go_simp
      exact hK _ _ rfl (Below.refl _ _)
    refine And.intro (fun w1 vals hB hd K hK => ?_) ?_
    · have e16 : vals 16 = .pointer (some ⟨g, 5, none⟩) := told_at (hd 16 rfl) rfl
      have g10 : vals 10 = .bool true := told_at (hd 10 rfl) rfl
      clear hd
      simp only [putAll, Act.put, List.setIfInBounds_toArray, List.set_cons_zero, List.set_cons_succ] at hK ⊢
      simp only [e16] at hK ⊢
      obtain ⟨ve, hve⟩ : ∃ f : Nat → Value, f = vals := ⟨_, rfl⟩
      rw [← hve] at hK g10 ⊢
      clear e16 hve
      refine gwp_some rfl g10 ?_
      clear g10
      refine wp_load_mid 35 (.tmp 64) rfl g 5 rfl [.int .i64 x2.rid, .int .i64 x2.nid, .slice x2.la x2.ln x2.lc, .string x2.key, .slice x2.ra x2.rn x2.rc] _ (HGb.out w1 hB) Tryz.underlying35 rfl (by kernel_rfl) ?_
      simp only [Act.put, List.setIfInBounds_toArray, List.set_cons_zero, List.set_cons_succ]
      exact hK _ _ rfl (Below.refl _ _)
    refine And.intro (fun w1 vals hB hd K hK => ?_) ?_
    · have e11 : vals 11 = .agg #[.string ⟨#[112, 108, 97, 105, 110]⟩, .slice none 0 0, .slice (some ⟨q + 2, 0, none⟩) 2 2] := told_at (hd 11 rfl) rfl
      have e14 : vals 14 = .agg #[.int .i64 x3.rid, .int .i64 x3.nid, .slice x3.la x3.ln x3.lc, .string x3.key, .slice x3.ra x3.rn x3.rc] := told_at (hd 14 rfl) rfl
      have e17 : vals 17 = .agg #[.int .i64 x2.rid, .int .i64 x2.nid, .slice x2.la x2.ln x2.lc, .string x2.key, .slice x2.ra x2.rn x2.rc] := told_at (hd 17 rfl) rfl
      have g10 : vals 10 = .bool true := told_at (hd 10 rfl) rfl
      clear hd
      simp only [putAll, Act.put, List.setIfInBounds_toArray, List.set_cons_zero, List.set_cons_succ] at hK ⊢
      simp only [e11, e14, e17] at hK ⊢
      obtain ⟨ve, hve⟩ : ∃ f : Nat → Value, f = vals := ⟨_, rfl⟩
      rw [← hve] at hK g10 ⊢
      clear e11 e14 e17 hve
      refine gwp_some rfl g10 ?_
      clear g10
      go_simp
      refine (HL1.out w1 hB).mono ?_
      rintro e w2 ⟨rfl, hb2⟩
      exact hK _ _ rfl hb2
    refine And.intro (fun w1 vals hB hd K hK => ?_) ?_
    · have e10 : vals 10 = .bool true := told_at (hd 10 rfl) rfl
      have e18 : vals 18 = .bool true := told_at (hd 18 rfl) rfl
      clear hd
      simp only [putAll, Act.put, List.setIfInBounds_toArray, List.set_cons_zero, List.set_cons_succ] at hK ⊢
      simp only [e10, e18] at hK ⊢
      obtain ⟨ve, hve⟩ : ∃ f : Nat → Value, f = vals := ⟨_, rfl⟩
      rw [← hve] at hK  ⊢
      clear e10 e18 hve
      refine gwp_none rfl ?_
      go_simp
      exact hK _ _ rfl (Below.refl _ _)
    refine And.intro (fun w1 vals hB hd K hK => ?_) ?_
    · have e19 : vals 19 = .bool true := told_at (hd 19 rfl) rfl
      clear hd
      simp only [putAll, Act.put, List.setIfInBounds_toArray, List.set_cons_zero, List.set_cons_succ] at hK ⊢
      simp only [e19] at hK ⊢
      obtain ⟨ve, hve⟩ : ∃ f : Nat → Value, f = vals := ⟨_, rfl⟩
      rw [← hve] at hK  ⊢
      clear e19 hve
      refine gwp_none rfl ?_
      go_simp
      exact hK _ _ rfl (Below.refl _ _)
    refine And.intro (fun w1 vals hB hd K hK => ?_) ?_
    · have g20 : vals 20 = .bool true := told_at (hd 20 rfl) rfl
      clear hd
      simp only [putAll, Act.put, List.setIfInBounds_toArray, List.set_cons_zero, List.set_cons_succ] at hK ⊢
      obtain ⟨ve, hve⟩ : ∃ f : Nat → Value, f = vals := ⟨_, rfl⟩
      rw [← hve] at hK g20 ⊢
      clear hve
      refine gwp_some rfl g20 ?_
      clear g20
      refine wp_load_mid 50 (.tmp 7) rfl po 0 rfl [.string ⟨#[112, 108, 97, 105, 110]⟩, .slice none 0 0, .slice (some ⟨q + 2, 0, none⟩) 2 2] _ (HOX.out w1 hB) Tryz.underlying50 rfl (by kernel_rfl) ?_
      simp only [Act.put, List.setIfInBounds_toArray, List.set_cons_zero, List.set_cons_succ]
      exact hK _ _ rfl (Below.refl _ _)
    refine And.intro (fun w1 vals hB hd K hK => ?_) ?_
    · have g20 : vals 20 = .bool true := told_at (hd 20 rfl) rfl
      clear hd
      simp only [putAll, Act.put, List.setIfInBounds_toArray, List.set_cons_zero, List.set_cons_succ] at hK ⊢
      obtain ⟨ve, hve⟩ : ∃ f : Nat → Value, f = vals := ⟨_, rfl⟩
      rw [← hve] at hK g20 ⊢
      clear hve
      refine gwp_some rfl g20 ?_
      clear g20
      go_simp
      exact hK _ _ rfl (Below.refl _ _)
    refine And.intro (fun w1 vals hB hd K hK => ?_) ?_
    · have e22 : vals 22 = .slice (some ⟨g, 0, none⟩) 2 c7 := told_at (hd 22 rfl) rfl
      have g20 : vals 20 = .bool true := told_at (hd 20 rfl) rfl
      clear hd
      simp only [putAll, Act.put, List.setIfInBounds_toArray, List.set_cons_zero, List.set_cons_succ] at hK ⊢
      simp only [e22] at hK ⊢
      obtain ⟨ve, hve⟩ : ∃ f : Nat → Value, f = vals := ⟨_, rfl⟩
      rw [← hve] at hK g20 ⊢
      clear e22 hve
      refine gwp_some rfl g20 ?_
      clear g20
      go_simp
      exact hK _ _ rfl (Below.refl _ _)
    refine And.intro (fun w1 vals hB hd K hK => ?_) ?_
    · have e23 : vals 23 = .pointer (some ⟨g, 5, none⟩) := told_at (hd 23 rfl) rfl
      have g20 : vals 20 = .bool true := told_at (hd 20 rfl) rfl
      clear hd
      simp only [putAll, Act.put, List.setIfInBounds_toArray, List.set_cons_zero, List.set_cons_succ] at hK ⊢
      simp only [e23] at hK ⊢
      obtain ⟨ve, hve⟩ : ∃ f : Nat → Value, f = vals := ⟨_, rfl⟩
      rw [← hve] at hK g20 ⊢
      clear e23 hve
      refine gwp_some rfl g20 ?_
      clear g20
      refine wp_load_mid 35 (.tmp 71) rfl g 5 rfl [.int .i64 x2.rid, .int .i64 x2.nid, .slice x2.la x2.ln x2.lc, .string x2.key, .slice x2.ra x2.rn x2.rc] _ (HGb.out w1 hB) Tryz.underlying35 rfl (by kernel_rfl) ?_
      simp only [Act.put, List.setIfInBounds_toArray, List.set_cons_zero, List.set_cons_succ]
      exact hK _ _ rfl (Below.refl _ _)
    refine And.intro (fun w1 vals hB hd K hK => ?_) ?_
    · have g20 : vals 20 = .bool true := told_at (hd 20 rfl) rfl
      clear hd
      simp only [putAll, Act.put, List.setIfInBounds_toArray, List.set_cons_zero, List.set_cons_succ] at hK ⊢
      obtain ⟨ve, hve⟩ : ∃ f : Nat → Value, f = vals := ⟨_, rfl⟩
      rw [← hve] at hK g20 ⊢
      clear hve
      refine gwp_some rfl g20 ?_
      clear g20
      go_simp
      exact hK _ _ rfl (Below.refl _ _)
    refine And.intro (fun w1 vals hB hd K hK => ?_) ?_
    · have e25 : vals 25 = .slice (some ⟨g, 0, none⟩) 2 c7 := told_at (hd 25 rfl) rfl
      have g20 : vals 20 = .bool true := told_at (hd 20 rfl) rfl
      clear hd
      simp only [putAll, Act.put, List.setIfInBounds_toArray, List.set_cons_zero, List.set_cons_succ] at hK ⊢
      simp only [e25] at hK ⊢
      obtain ⟨ve, hve⟩ : ∃ f : Nat → Value, f = vals := ⟨_, rfl⟩
      rw [← hve] at hK g20 ⊢
      clear e25 hve
      refine gwp_some rfl g20 ?_
      clear g20
      go_simp
      exact hK _ _ rfl (Below.refl _ _)
    refine And.intro (fun w1 vals hB hd K hK => ?_) ?_
    · have e26 : vals 26 = .pointer (some ⟨g, 0, none⟩) := told_at (hd 26 rfl) rfl
      have g20 : vals 20 = .bool true := told_at (hd 20 rfl) rfl
      clear hd
      simp only [putAll, Act.put, List.setIfInBounds_toArray, List.set_cons_zero, List.set_cons_succ] at hK ⊢
      simp only [e26] at hK ⊢
      obtain ⟨ve, hve⟩ : ∃ f : Nat → Value, f = vals := ⟨_, rfl⟩
      rw [← hve] at hK g20 ⊢
      clear e26 hve
      refine gwp_some rfl g20 ?_
      clear g20
      refine wp_load_mid 35 (.tmp 74) rfl g 0 rfl [.int .i64 x3.rid, .int .i64 x3.nid, .slice x3.la x3.ln x3.lc, .string x3.key, .slice x3.ra x3.rn x3.rc] _ (HGa.out w1 hB) Tryz.underlying35 rfl (by kernel_rfl) ?_
      simp only [Act.put, List.setIfInBounds_toArray, List.set_cons_zero, List.set_cons_succ]
      exact hK _ _ rfl (Below.refl _ _)
    refine And.intro (fun w1 vals hB hd K hK => ?_) ?_
    · have e21 : vals 21 = .agg #[.string ⟨#[112, 108, 97, 105, 110]⟩, .slice none 0 0, .slice (some ⟨q + 2, 0, none⟩) 2 2] := told_at (hd 21 rfl) rfl
      have e24 : vals 24 = .agg #[.int .i64 x2.rid, .int .i64 x2.nid, .slice x2.la x2.ln x2.lc, .string x2.key, .slice x2.ra x2.rn x2.rc] := told_at (hd 24 rfl) rfl
      have e27 : vals 27 = .agg #[.int .i64 x3.rid, .int .i64 x3.nid, .slice x3.la x3.ln x3.lc, .string x3.key, .slice x3.ra x3.rn x3.rc] := told_at (hd 27 rfl) rfl
      have g20 : vals 20 = .bool true := told_at (hd 20 rfl) rfl
      clear hd
      simp only [putAll, Act.put, List.setIfInBounds_toArray, List.set_cons_zero, List.set_cons_succ] at hK ⊢
      simp only [e21, e24, e27] at hK ⊢
      obtain ⟨ve, hve⟩ : ∃ f : Nat → Value, f = vals := ⟨_, rfl⟩
      rw [← hve] at hK g20 ⊢
      clear e21 e24 e27 hve
      refine gwp_some rfl g20 ?_
      clear g20
      go_simp
      refine (HL2.out w1 hB).mono ?_
      rintro e w2 ⟨rfl, hb2⟩
      exact hK _ _ rfl hb2
    refine And.intro (fun w1 vals hB hd K hK => ?_) ?_
    · have e28 : vals 28 = .bool false := told_at (hd 28 rfl) rfl
      have g20 : vals 20 = .bool true := told_at (hd 20 rfl) rfl
      clear hd
      simp only [putAll, Act.put, List.setIfInBounds_toArray, List.set_cons_zero, List.set_cons_succ] at hK ⊢
      simp only [e28] at hK ⊢
      obtain ⟨ve, hve⟩ : ∃ f : Nat → Value, f = vals := ⟨_, rfl⟩
      rw [← hve] at hK g20 ⊢
      clear e28 hve
      refine gwp_some rfl g20 ?_
      clear g20
      go_simp
      exact hK _ _ rfl (Below.refl _ _)
    refine And.intro (fun w1 vals hB hd K hK => ?_) ?_
    · have e20 : vals 20 = .bool true := told_at (hd 20 rfl) rfl
      have e29 : vals 29 = .bool true := told_at (hd 29 rfl) rfl
      clear hd
      simp only [putAll, Act.put, List.setIfInBounds_toArray, List.set_cons_zero, List.set_cons_succ] at hK ⊢
      simp only [e20, e29] at hK ⊢
      obtain ⟨ve, hve⟩ : ∃ f : Nat → Value, f = vals := ⟨_, rfl⟩
      rw [← hve] at hK  ⊢
      clear e20 e29 hve
      refine gwp_none rfl ?_
      go_simp
      exact hK _ _ rfl (Below.refl _ _)
    refine And.intro (fun w1 vals hB hd K hK => ?_) ?_
    · have e30 : vals 30 = .bool true := told_at (hd 30 rfl) rfl
      clear hd
      simp only [putAll, Act.put, List.setIfInBounds_toArray, List.set_cons_zero, List.set_cons_succ] at hK ⊢
      simp only [e30] at hK ⊢
      obtain ⟨ve, hve⟩ : ∃ f : Nat → Value, f = vals := ⟨_, rfl⟩
      rw [← hve] at hK  ⊢
      clear e30 hve
      refine gwp_none rfl ?_
      go_simp
      exact hK _ _ rfl (Below.refl _ _)
    refine And.intro (fun w1 vals hB hd K hK => ?_) ?_
    · have g31 : vals 31 = .bool true := told_at (hd 31 rfl) rfl
      clear hd
      simp only [putAll, Act.put, List.setIfInBounds_toArray, List.set_cons_zero, List.set_cons_succ] at hK ⊢
      obtain ⟨ve, hve⟩ : ∃ f : Nat → Value, f = vals := ⟨_, rfl⟩
      rw [← hve] at hK g31 ⊢
      clear hve
      refine gwp_some rfl g31 ?_
      clear g31
      go_simp
      exact hK _ _ rfl (Below.refl _ _)
    refine And.intro (fun w1 vals hB hd K hK => ?_) ?_
    · have e32 : vals 32 = .slice (some ⟨g, 0, none⟩) 2 c7 := told_at (hd 32 rfl) rfl
      have g31 : vals 31 = .bool true := told_at (hd 31 rfl) rfl
      clear hd
      simp only [putAll, Act.put, List.setIfInBounds_toArray, List.set_cons_zero, List.set_cons_succ] at hK ⊢
      simp only [e32] at hK ⊢
      obtain ⟨ve, hve⟩ : ∃ f : Nat → Value, f = vals := ⟨_, rfl⟩
      rw [← hve] at hK g31 ⊢
      clear e32 hve
      refine gwp_some rfl g31 ?_
      clear g31
      go_simp
      exact hK _ _ rfl (Below.refl _ _)
    refine And.intro (fun w1 vals hB hd K hK => ?_) ?_
    · have e33 : vals 33 = .pointer (some ⟨g, 5, none⟩) := told_at (hd 33 rfl) rfl
      have g31 : vals 31 = .bool true := told_at (hd 31 rfl) rfl
      clear hd
      simp only [putAll, Act.put, List.setIfInBounds_toArray, List.set_cons_zero, List.set_cons_succ] at hK ⊢
      simp only [e33] at hK ⊢
      obtain ⟨ve, hve⟩ : ∃ f : Nat → Value, f = vals := ⟨_, rfl⟩
      rw [← hve] at hK g31 ⊢
      clear e33 hve
      refine gwp_some rfl g31 ?_
      clear g31
      refine wp_load_mid 35 (.tmp 81) rfl g 5 rfl [.int .i64 x2.rid, .int .i64 x2.nid, .slice x2.la x2.ln x2.lc, .string x2.key, .slice x2.ra x2.rn x2.rc] _ (HGb.out w1 hB) Tryz.underlying35 rfl (by kernel_rfl) ?_
      simp only [Act.put, List.setIfInBounds_toArray, List.set_cons_zero, List.set_cons_succ]
      exact hK _ _ rfl (Below.refl _ _)
    refine And.intro (fun w1 vals hB hd K hK => ?_) ?_
    · have g31 : vals 31 = .bool true := told_at (hd 31 rfl) rfl
      clear hd
      simp only [putAll, Act.put, List.setIfInBounds_toArray, List.set_cons_zero, List.set_cons_succ] at hK ⊢
      obtain ⟨ve, hve⟩ : ∃ f : Nat → Value, f = vals := ⟨_, rfl⟩
      rw [← hve] at hK g31 ⊢
      clear hve
      refine gwp_some rfl g31 ?_
      clear g31
      go_simp
      exact hK _ _ rfl (Below.refl _ _)
    refine And.intro (fun w1 vals hB hd K hK => ?_) ?_
    · have e35 : vals 35 = .slice (some ⟨g, 0, none⟩) 2 c7 := told_at (hd 35 rfl) rfl
      have g31 : vals 31 = .bool true := told_at (hd 31 rfl) rfl
      clear hd
      simp only [putAll, Act.put, List.setIfInBounds_toArray, List.set_cons_zero, List.set_cons_succ] at hK ⊢
      simp only [e35] at hK ⊢
      obtain ⟨ve, hve⟩ : ∃ f : Nat → Value, f = vals := ⟨_, rfl⟩
      rw [← hve] at hK g31 ⊢
      clear e35 hve
      refine gwp_some rfl g31 ?_
      clear g31
      go_simp
      exact hK _ _ rfl (Below.refl _ _)
    refine And.intro (fun w1 vals hB hd K hK => ?_) ?_
    · have e36 : vals 36 = .pointer (some ⟨g, 0, none⟩) := told_at (hd 36 rfl) rfl
      have g31 : vals 31 = .bool true := told_at (hd 31 rfl) rfl
      clear hd
      simp only [putAll, Act.put, List.setIfInBounds_toArray, List.set_cons_zero, List.set_cons_succ] at hK ⊢
      simp only [e36] at hK ⊢
      obtain ⟨ve, hve⟩ : ∃ f : Nat → Value, f = vals := ⟨_, rfl⟩
      rw [← hve] at hK g31 ⊢
      clear e36 hve
      refine gwp_some rfl g31 ?_
      clear g31
      refine wp_load_mid 35 (.tmp 84) rfl g 0 rfl [.int .i64 x3.rid, .int .i64 x3.nid, .slice x3.la x3.ln x3.lc, .string x3.key, .slice x3.ra x3.rn x3.rc] _ (HGa.out w1 hB) Tryz.underlying35 rfl (by kernel_rfl) ?_
      simp only [Act.put, List.setIfInBounds_toArray, List.set_cons_zero, List.set_cons_succ]
      exact hK _ _ rfl (Below.refl _ _)
    refine And.intro (fun w1 vals hB hd K hK => ?_) ?_
    · have e34 : vals 34 = .agg #[.int .i64 x2.rid, .int .i64 x2.nid, .slice x2.la x2.ln x2.lc, .string x2.key, .slice x2.ra x2.rn x2.rc] := told_at (hd 34 rfl) rfl
      have e37 : vals 37 = .agg #[.int .i64 x3.rid, .int .i64 x3.nid, .slice x3.la x3.ln x3.lc, .string x3.key, .slice x3.ra x3.rn x3.rc] := told_at (hd 37 rfl) rfl
      have g31 : vals 31 = .bool true := told_at (hd 31 rfl) rfl
      clear hd
      simp only [putAll, Act.put, List.setIfInBounds_toArray, List.set_cons_zero, List.set_cons_succ] at hK ⊢
      simp only [e34, e37] at hK ⊢
      obtain ⟨ve, hve⟩ : ∃ f : Nat → Value, f = vals := ⟨_, rfl⟩
      rw [← hve] at hK g31 ⊢
      clear e34 e37 hve
      refine gwp_some rfl g31 ?_
      clear g31
      go_simp
      exact hK _ _ ⟨_, _, rfl, hits_two w1 x2 x3 (HV2.out w1 hB) (HV3.out w1 hB)⟩ (below_new _ _)
    refine And.intro (fun w1 vals hB hd K hK => ?_) ?_
    · have p38 := told_at (t := Told.such (fun v w => ∃ A c, v = .slice A 2 c ∧ HitsR w w.heap.size A 2 [x2, x3]) (fun v w w' ⟨A, c, h1, h2⟩ hb => ⟨A, c, h1, HitsR.on h2 hb⟩)) (hd 38 rfl) rfl
      simp only [Told.holds] at p38
      have g31 : vals 31 = .bool true := told_at (hd 31 rfl) rfl
      clear hd
      obtain ⟨x38, hx38⟩ : ∃ x, vals 38 = x := ⟨_, rfl⟩
      rw [hx38] at p38
      simp only [putAll, Act.put, List.setIfInBounds_toArray, List.set_cons_zero, List.set_cons_succ] at hK ⊢
      simp only [hx38] at hK ⊢
      obtain ⟨ve, hve⟩ : ∃ f : Nat → Value, f = vals := ⟨_, rfl⟩
      rw [← hve] at hK g31 ⊢
      clear hx38 hve
      refine gwp_some rfl g31 ?_
      clear g31
      obtain ⟨A, c, rfl, hh⟩ := p38
      go_simp
      refine (lines_any A 2 c [x2, x3] w1 hh HMM.out (by omega) (HTX.out w1 hB)).mono ?_
      rintro e w2 ⟨v2, rfl, ho, hb2⟩
      rw [HLN.out] at ho
      obtain ⟨A', c', hv', _, _, hs'⟩ := OwnS.form ho
      exact hK _ _ ⟨A', c', hv', hs'⟩ hb2
    refine And.intro (fun w1 vals hB hd K hK => ?_) ?_
    · have g31 : vals 31 = .bool true := told_at (hd 31 rfl) rfl
      clear hd
      simp only [putAll, Act.put, List.setIfInBounds_toArray, List.set_cons_zero, List.set_cons_succ] at hK ⊢
      obtain ⟨ve, hve⟩ : ∃ f : Nat → Value, f = vals := ⟨_, rfl⟩
      rw [← hve] at hK g31 ⊢
      clear hve
      refine gwp_some rfl g31 ?_
      clear g31
      go_simp
      exact hK _ _ ⟨_, _, rfl, sr_new w1 9 [⟨#[32, 32, 32, 91, 98, 97, 93, 32, 109, 105]⟩, ⟨#[98, 97, 32, 91, 109, 105, 93]⟩] _ rfl 2 rfl⟩ (below_new _ _)
    refine And.intro (fun w1 vals hB hd K hK => ?_) ?_
    · have p39 := told_at (t := Told.such (fun v w => ∃ A c, v = .slice A 2 c ∧ SR w w.heap.size A 2 [⟨#[32, 32, 32, 91, 98, 97, 93, 32, 109, 105]⟩, ⟨#[98, 97, 32, 91, 109, 105, 93]⟩]) (fun v w w' ⟨A, c, h1, h2⟩ hb => ⟨A, c, h1, SR.on h2 hb⟩)) (hd 39 rfl) rfl
      simp only [Told.holds] at p39
      have p40 := told_at (t := Told.such (fun v w => ∃ A c, v = .slice A 2 c ∧ SR w w.heap.size A 2 [⟨#[32, 32, 32, 91, 98, 97, 93, 32, 109, 105]⟩, ⟨#[98, 97, 32, 91, 109, 105, 93]⟩]) (fun v w w' ⟨A, c, h1, h2⟩ hb => ⟨A, c, h1, SR.on h2 hb⟩)) (hd 40 rfl) rfl
      simp only [Told.holds] at p40
      have g31 : vals 31 = .bool true := told_at (hd 31 rfl) rfl
      clear hd
      obtain ⟨x39, hx39⟩ : ∃ x, vals 39 = x := ⟨_, rfl⟩
      rw [hx39] at p39
      obtain ⟨x40, hx40⟩ : ∃ x, vals 40 = x := ⟨_, rfl⟩
      rw [hx40] at p40
      simp only [putAll, Act.put, List.setIfInBounds_toArray, List.set_cons_zero, List.set_cons_succ] at hK ⊢
      simp only [hx39, hx40] at hK ⊢
      obtain ⟨ve, hve⟩ : ∃ f : Nat → Value, f = vals := ⟨_, rfl⟩
      rw [← hve] at hK g31 ⊢
      clear hx39 hx40 hve
      refine gwp_some rfl g31 ?_
      clear g31
      obtain ⟨A, c, rfl, h1⟩ := p39
      obtain ⟨A', c', rfl, h2⟩ := p40
      go_simp
      refine (mono_eq (equal_strs A A' 2 2 c c' [⟨#[32, 32, 32, 91, 98, 97, 93, 32, 109, 105]⟩, ⟨#[98, 97, 32, 91, 109, 105, 93]⟩] [⟨#[32, 32, 32, 91, 98, 97, 93, 32, 109, 105]⟩, ⟨#[98, 97, 32, 91, 109, 105, 93]⟩] w1 h1 h2 (by omega) (by omega)) (v' := .bool true) (by rw [decide_eq_true rfl])).mono ?_
      rintro e w2 ⟨rfl, z, rfl⟩
      exact hK _ _ rfl (below_drewN (Below.refl _ _) z)
    refine And.intro (fun w1 vals hB hd K hK => ?_) ?_
    · have e31 : vals 31 = .bool true := told_at (hd 31 rfl) rfl
      have e41 : vals 41 = .bool true := told_at (hd 41 rfl) rfl
      clear hd
      simp only [putAll, Act.put, List.setIfInBounds_toArray, List.set_cons_zero, List.set_cons_succ] at hK ⊢
      simp only [e31, e41] at hK ⊢
      obtain ⟨ve, hve⟩ : ∃ f : Nat → Value, f = vals := ⟨_, rfl⟩
      rw [← hve] at hK  ⊢
      clear e31 e41 hve
      refine gwp_none rfl ?_
      go_simp
      exact hK _ _ rfl (Below.refl _ _)
    refine And.intro (fun w1 vals hB hd K hK => ?_) ?_
    · have e42 : vals 42 = .bool true := told_at (hd 42 rfl) rfl
      clear hd
      simp only [putAll, Act.put, List.setIfInBounds_toArray, List.set_cons_zero, List.set_cons_succ] at hK ⊢
      simp only [e42] at hK ⊢
      obtain ⟨ve, hve⟩ : ∃ f : Nat → Value, f = vals := ⟨_, rfl⟩
      rw [← hve] at hK  ⊢
      clear e42 hve
      refine gwp_none rfl ?_
      go_simp
      exact hK _ _ rfl (Below.refl _ _)
    exact trivial
  · intro w1 vals hB hd
    have e43 : vals 43 = .bool true := told_at (hd 43 (by decide)) rfl
    clear hd
    simp only [putAll, Act.put, List.setIfInBounds_toArray, List.set_cons_zero, List.set_cons_succ]
    simp only [e43]
    obtain ⟨ve, hve⟩ : ∃ f : Nat → Value, f = vals := ⟨_, rfl⟩
    rw [← hve]
    clear e43 hve
    go_wp2
    go_ret
    exact ⟨rfl, HBW.out.trans (hB.mono HBW.out.size)⟩
end Go.Proofs.YtdpllfgnppeneaaGreatDoor
