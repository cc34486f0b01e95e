import Derived.Test.YthcabnfcgjnlnaaGreatDoorC13
import Derived.Test.YthcabnfcgjnlnaaGreatDoorRows
import Derived.Lib.LaidIn
import Derived.Lib.LaidTab
import Derived.Lib.LaidU8T
import Derived.PinnedBridge
import Derived.LaidMore
import Derived.ProofKit
set_option linter.unusedVariables false
set_option linter.unusedSimpArgs false
namespace Go.Proofs.YthcabnfcgjnlnaaGreatDoor
section
open Go.RowKit Ru Lay
attribute [local go_sem ↓] Go.wp_at_zero Go.wp_at_succ
theorem recR_new {α : Type} {f : α -> List Value} {s : Nat} (w : World) (e : TypeId) (l : List α) (c : Array Value) (hc : c.toList = l.flatMap f) (n : Nat) (hn : n = l.length) (hf : ∀ x, (f x).length = s) : RecR f s (w.alloc (.cells c e)) (w.alloc (.cells c e)).heap.size (some ⟨w.heap.size, 0, none⟩) n l := by
 subst hn
 refine ⟨⟨by rw [flat_len hf], fun _ => ⟨_, rfl, by simp, fun j u hu => ?_⟩⟩, rfl⟩
 rw [Addr.add_mid, Nat.zero_add, World.cell?_alloc_new, <- hu, <- hc]
 simp
set_option maxHeartbeats 8000000 in
set_option maxRecDepth 100000 in
theorem sample55_any (w : World) : Calls Tryz.prog 32 #[] w fun e w' => ∃ ta tc na nc, e = .returned (docV (smpD ta na tc nc).d) /\ TiersR w' w'.heap.size ta 5 smpT /\ NotesR w' w'.heap.size na 8 smpN /\ Below w.heap.size w w' := by
 go_enter Tryz.func32, Tryz.ntmps32
 go_wp2
 obtain ⟨W1, hW1⟩ : ∃ W1, w.alloc (.cells #[.int .i64 1, .string ⟨#[]⟩, .int .i64 900, .int .i64 0, .slice none 0 0, .slice (some ⟨w.heap.size + 1, 0, none⟩) 5 5, .slice (some ⟨w.heap.size + 1 + 1, 0, none⟩) 8 8] 38) = W1 := ⟨_, rfl⟩
 obtain ⟨W2, hW2⟩ : ∃ W2, W1.alloc (.cells #[.string ⟨#[116, 101, 120, 116]⟩, .int .i64 0, .int .i64 1, .int .i64 (-1), .string ⟨#[119, 111, 114, 100]⟩, .int .i64 2, .int .i64 2, .int .i64 0, .string ⟨#[109, 111, 114, 112, 104]⟩, .int .i64 3, .int .i64 3, .int .i64 1, .string ⟨#[103, 108, 111, 115, 115]⟩, .int .i64 4, .int .i64 4, .int .i64 2, .string ⟨#[102, 114, 101, 101]⟩, .int .i64 4, .int .i64 5, .int .i64 0] 86) = W2 := ⟨_, rfl⟩
 obtain ⟨W3, hW3⟩ : ∃ W3, W2.alloc (.cells #[.int .i64 1, .int .i64 0, .int .i64 0, .int .i64 0, .int .i64 900, .int .i64 0, .string ⟨#[98, 97, 109, 105, 32, 116, 97]⟩, .int .i64 2, .int .i64 1, .int .i64 1, .int .i64 0, .int .i64 300, .int .i64 0, .string ⟨#[98, 97, 109, 105]⟩, .int .i64 3, .int .i64 1, .int .i64 1, .int .i64 300, .int .i64 600, .int .i64 0, .string ⟨#[116, 97]⟩, .int .i64 4, .int .i64 2, .int .i64 2, .int .i64 0, .int .i64 0, .int .i64 0, .string ⟨#[98, 97]⟩, .int .i64 5, .int .i64 2, .int .i64 2, .int .i64 0, .int .i64 0, .int .i64 1, .string ⟨#[109, 105]⟩, .int .i64 6, .int .i64 3, .int .i64 4, .int .i64 0, .int .i64 0, .int .i64 0, .string ⟨#[100, 111, 103]⟩, .int .i64 7, .int .i64 3, .int .i64 5, .int .i64 0, .int .i64 0, .int .i64 0, .string ⟨#[80, 76]⟩, .int .i64 8, .int .i64 4, .int .i64 1, .int .i64 0, .int .i64 0, .int .i64 0, .string ⟨#[100, 111, 103, 115]⟩] 58) = W3 := ⟨_, rfl⟩
 have hz1 : W1.heap.size = w.heap.size + 1 := by rw [<- hW1]; simp
 have hz2 : W2.heap.size = w.heap.size + 1 + 1 := by rw [<- hW2]; simp; omega
 have hb2 : Below W1.heap.size W1 W2 := by rw [<- hW2]; exact bR.alloc (Nat.le_refl _) _
 have hb3 : Below W2.heap.size W2 W3 := by rw [<- hW3]; exact bR.alloc (Nat.le_refl _) _
 have hr : W3.rangeAt w.heap.size 0 [.int .i64 1, .string ⟨#[]⟩, .int .i64 900, .int .i64 0, .slice none 0 0, .slice (some ⟨w.heap.size + 1, 0, none⟩) 5 5, .slice (some ⟨w.heap.size + 1 + 1, 0, none⟩) 8 8] := fun j v hv => by
  rw [hb3.cell (by show w.heap.size < _; omega), hb2.cell (by show w.heap.size < _; omega), <- hW1, Nat.zero_add, World.cell?_alloc_new, <- hv, <- List.getElem?_toArray]
 have hT : TiersR W3 W3.heap.size (some ⟨w.heap.size + 1, 0, none⟩) 5 smpT := by
  have h : TiersR W2 W2.heap.size (some ⟨W1.heap.size, 0, none⟩) 5 smpT := ⟨by rw [<- hW2]; exact recR_new W1 _ smpT _ rfl 5 rfl encT_len, fun t ht => by
   simp only [smpT, List.mem_cons, List.not_mem_nil, or_false] at ht
   rcases ht with rfl | rfl | rfl | rfl | rfl <;> exact (by decide)⟩
  rw [hz1] at h
  exact h.on hb3
 have hN : NotesR W3 W3.heap.size (some ⟨w.heap.size + 1 + 1, 0, none⟩) 8 smpN := by
  have h : NotesR W3 W3.heap.size (some ⟨W2.heap.size, 0, none⟩) 8 smpN := by rw [<- hW3]; exact recR_new W2 _ smpN _ rfl 8 rfl encN_len
  rw [hz2] at h
  exact h
 have hb : Below w.heap.size w W3 := by
  have h1 : Below w.heap.size w W1 := by rw [<- hW1]; exact (Below.refl _ w).alloc (Nat.le_refl _) _
  exact h1.trans ((hb2.trans (hb3.mono (by omega))).mono (by omega))
 (try rw [hW1])
 (try rw [hW2])
 (try rw [hW3])
 refine bodyPost_ret (v := .agg #[.int .i64 1, .string ⟨#[]⟩, .int .i64 900, .int .i64 0, .slice none 0 0, .slice (some ⟨w.heap.size + 1, 0, none⟩) 5 5, .slice (some ⟨w.heap.size + 1 + 1, 0, none⟩) 8 8]) ?_ rfl ⟨some ⟨w.heap.size + 1, 0, none⟩, 5, some ⟨w.heap.size + 1 + 1, 0, none⟩, 8, rfl, hT, hN, hb⟩
 exact results_cell1_of rfl _ _ w.heap.size [.int .i64 1, .string ⟨#[]⟩, .int .i64 900, .int .i64 0, .slice none 0 0, .slice (some ⟨w.heap.size + 1, 0, none⟩) 5 5, .slice (some ⟨w.heap.size + 1 + 1, 0, none⟩) 8 8] _ rfl hr Tryz.underlying38 rfl (by kernel_rfl)
theorem rows_lit (w4 : World) : RowsC ((((w4.alloc (.cells #[.string ⟨#[98, 97, 109, 105]⟩, .string ⟨#[116, 97]⟩] 9)).alloc (.cells #[.string ⟨#[98, 97, 45, 109, 105]⟩, .string ⟨#[]⟩] 9)).alloc (.cells #[.string ⟨#[100, 111, 103, 45, 80, 76]⟩, .string ⟨#[]⟩] 9)).alloc (.cells #[.slice (some ⟨w4.heap.size, 0, none⟩) 2 2, .slice (some ⟨w4.heap.size + 1, 0, none⟩) 2 2, .slice (some ⟨w4.heap.size + 2, 0, none⟩) 2 2] 45)) ((((w4.alloc (.cells #[.string ⟨#[98, 97, 109, 105]⟩, .string ⟨#[116, 97]⟩] 9)).alloc (.cells #[.string ⟨#[98, 97, 45, 109, 105]⟩, .string ⟨#[]⟩] 9)).alloc (.cells #[.string ⟨#[100, 111, 103, 45, 80, 76]⟩, .string ⟨#[]⟩] 9)).alloc (.cells #[.slice (some ⟨w4.heap.size, 0, none⟩) 2 2, .slice (some ⟨w4.heap.size + 1, 0, none⟩) 2 2, .slice (some ⟨w4.heap.size + 2, 0, none⟩) 2 2] 45)).heap.size (some ⟨w4.heap.size + 3, 0, none⟩) 3 [[(⟨#[98, 97, 109, 105]⟩ : ByteArray), (⟨#[116, 97]⟩ : ByteArray)], [(⟨#[98, 97, 45, 109, 105]⟩ : ByteArray), (⟨#[]⟩ : ByteArray)], [(⟨#[100, 111, 103, 45, 80, 76]⟩ : ByteArray), (⟨#[]⟩ : ByteArray)]] := by
 have hs1 : (w4.alloc (.cells #[.string ⟨#[98, 97, 109, 105]⟩, .string ⟨#[116, 97]⟩] 9)).heap.size = w4.heap.size + 1 := by simp
 have hs2 : ((w4.alloc (.cells #[.string ⟨#[98, 97, 109, 105]⟩, .string ⟨#[116, 97]⟩] 9)).alloc (.cells #[.string ⟨#[98, 97, 45, 109, 105]⟩, .string ⟨#[]⟩] 9)).heap.size = w4.heap.size + 2 := by simp
 have hs3 : (((w4.alloc (.cells #[.string ⟨#[98, 97, 109, 105]⟩, .string ⟨#[116, 97]⟩] 9)).alloc (.cells #[.string ⟨#[98, 97, 45, 109, 105]⟩, .string ⟨#[]⟩] 9)).alloc (.cells #[.string ⟨#[100, 111, 103, 45, 80, 76]⟩, .string ⟨#[]⟩] 9)).heap.size = w4.heap.size + 3 := by simp
 have hb1 : Below (w4.alloc (.cells #[.string ⟨#[98, 97, 109, 105]⟩, .string ⟨#[116, 97]⟩] 9)).heap.size (w4.alloc (.cells #[.string ⟨#[98, 97, 109, 105]⟩, .string ⟨#[116, 97]⟩] 9)) (((w4.alloc (.cells #[.string ⟨#[98, 97, 109, 105]⟩, .string ⟨#[116, 97]⟩] 9)).alloc (.cells #[.string ⟨#[98, 97, 45, 109, 105]⟩, .string ⟨#[]⟩] 9)).alloc (.cells #[.string ⟨#[100, 111, 103, 45, 80, 76]⟩, .string ⟨#[]⟩] 9)) := (bR.alloc (Nat.le_refl _) _).alloc (by simp) _
 have hb2 : Below ((w4.alloc (.cells #[.string ⟨#[98, 97, 109, 105]⟩, .string ⟨#[116, 97]⟩] 9)).alloc (.cells #[.string ⟨#[98, 97, 45, 109, 105]⟩, .string ⟨#[]⟩] 9)).heap.size ((w4.alloc (.cells #[.string ⟨#[98, 97, 109, 105]⟩, .string ⟨#[116, 97]⟩] 9)).alloc (.cells #[.string ⟨#[98, 97, 45, 109, 105]⟩, .string ⟨#[]⟩] 9)) (((w4.alloc (.cells #[.string ⟨#[98, 97, 109, 105]⟩, .string ⟨#[116, 97]⟩] 9)).alloc (.cells #[.string ⟨#[98, 97, 45, 109, 105]⟩, .string ⟨#[]⟩] 9)).alloc (.cells #[.string ⟨#[100, 111, 103, 45, 80, 76]⟩, .string ⟨#[]⟩] 9)) := bR.alloc (Nat.le_refl _) _
 have h1 := Reads.on (sr_new w4 9 [(⟨#[98, 97, 109, 105]⟩ : ByteArray), (⟨#[116, 97]⟩ : ByteArray)] _ rfl 2 rfl) hb1
 have h2 := Reads.on (sr_new (w4.alloc (.cells #[.string ⟨#[98, 97, 109, 105]⟩, .string ⟨#[116, 97]⟩] 9)) 9 [(⟨#[98, 97, 45, 109, 105]⟩ : ByteArray), (⟨#[]⟩ : ByteArray)] _ rfl 2 rfl) hb2
 have h3 := sr_new ((w4.alloc (.cells #[.string ⟨#[98, 97, 109, 105]⟩, .string ⟨#[116, 97]⟩] 9)).alloc (.cells #[.string ⟨#[98, 97, 45, 109, 105]⟩, .string ⟨#[]⟩] 9)) 9 [(⟨#[100, 111, 103, 45, 80, 76]⟩ : ByteArray), (⟨#[]⟩ : ByteArray)] _ rfl 2 rfl
 rw [hs1] at h2
 rw [hs2] at h3
 have h := rowsC_new (((w4.alloc (.cells #[.string ⟨#[98, 97, 109, 105]⟩, .string ⟨#[116, 97]⟩] 9)).alloc (.cells #[.string ⟨#[98, 97, 45, 109, 105]⟩, .string ⟨#[]⟩] 9)).alloc (.cells #[.string ⟨#[100, 111, 103, 45, 80, 76]⟩, .string ⟨#[]⟩] 9)) 45 [.slice (some ⟨w4.heap.size, 0, none⟩) 2 2, .slice (some ⟨w4.heap.size + 1, 0, none⟩) 2 2, .slice (some ⟨w4.heap.size + 2, 0, none⟩) 2 2] #[.slice (some ⟨w4.heap.size, 0, none⟩) 2 2, .slice (some ⟨w4.heap.size + 1, 0, none⟩) 2 2, .slice (some ⟨w4.heap.size + 2, 0, none⟩) 2 2] rfl [[(⟨#[98, 97, 109, 105]⟩ : ByteArray), (⟨#[116, 97]⟩ : ByteArray)], [(⟨#[98, 97, 45, 109, 105]⟩ : ByteArray), (⟨#[]⟩ : ByteArray)], [(⟨#[100, 111, 103, 45, 80, 76]⟩ : ByteArray), (⟨#[]⟩ : ByteArray)]] 3 rfl rfl (fun i l hil => by
  match i, hil with
  | 0, hil => cases hil; exact ⟨_, 2, 2, rfl, h1, Nat.le_refl _, by omega⟩
  | 1, hil => cases hil; exact ⟨_, 2, 2, rfl, h2, Nat.le_refl _, by omega⟩
  | 2, hil => cases hil; exact ⟨_, 2, 2, rfl, h3, Nat.le_refl _, by omega⟩)
 rw [hs3] at h
 exact h
theorem pts_new (w : World) : PtsR ((w.alloc (.cells #[.int .i64 1, .int .i64 2, .int .i64 2, .int .i64 1] 24)).alloc (.cells (#[.int .i64 1, .string ⟨#[80, 108, 117, 114, 97, 108]⟩, .string ⟨#[109, 105]⟩, .slice none 0 0, .slice (some ⟨w.heap.size, 0, none⟩) 2 2] : Array Value) 65)) ((w.alloc (.cells #[.int .i64 1, .int .i64 2, .int .i64 2, .int .i64 1] 24)).alloc (.cells (#[.int .i64 1, .string ⟨#[80, 108, 117, 114, 97, 108]⟩, .string ⟨#[109, 105]⟩, .slice none 0 0, .slice (some ⟨w.heap.size, 0, none⟩) 2 2] : Array Value) 65)).heap.size (some ⟨w.heap.size + 1, 0, none⟩) 1 [smpP (some ⟨w.heap.size, 0, none⟩) 2] := by
 have hz : (w.alloc (.cells #[.int .i64 1, .int .i64 2, .int .i64 2, .int .i64 1] 24)).heap.size = w.heap.size + 1 := by simp
 have h1 : RefsR (w.alloc (.cells #[.int .i64 1, .int .i64 2, .int .i64 2, .int .i64 1] 24)) (w.alloc (.cells #[.int .i64 1, .int .i64 2, .int .i64 2, .int .i64 1] 24)).heap.size (some ⟨w.heap.size, 0, none⟩) 2 [(1, 2), (2, 1)] := recR_new w _ ([(1, 2), (2, 1)] : List Rf) _ rfl 2 rfl encR_len
 have h2 := recR_new (f := encP) (w.alloc (.cells #[.int .i64 1, .int .i64 2, .int .i64 2, .int .i64 1] 24)) 65 [smpP (some ⟨w.heap.size, 0, none⟩) 2] (#[.int .i64 1, .string ⟨#[80, 108, 117, 114, 97, 108]⟩, .string ⟨#[109, 105]⟩, .slice none 0 0, .slice (some ⟨w.heap.size, 0, none⟩) 2 2] : Array Value) rfl 1 rfl encP_len
 have hb : Below (w.alloc (.cells #[.int .i64 1, .int .i64 2, .int .i64 2, .int .i64 1] 24)).heap.size (w.alloc (.cells #[.int .i64 1, .int .i64 2, .int .i64 2, .int .i64 1] 24)) ((w.alloc (.cells #[.int .i64 1, .int .i64 2, .int .i64 2, .int .i64 1] 24)).alloc (.cells (#[.int .i64 1, .string ⟨#[80, 108, 117, 114, 97, 108]⟩, .string ⟨#[109, 105]⟩, .slice none 0 0, .slice (some ⟨w.heap.size, 0, none⟩) 2 2] : Array Value) 65)) := bR.alloc (Nat.le_refl _) _
 rw [hz] at h2
 refine ⟨h2, fun p hp => ?_⟩
 rw [List.mem_singleton] at hp
 subst hp
 exact ⟨h1.on hb, fun r hr => by
  simp only [smpP, List.mem_cons, List.not_mem_nil, or_false] at hr
  rcases hr with rfl | rfl <;> exact ⟨by decide, by decide⟩, by show 6 <= _; omega, by show 2 <= _; omega, by show 2 <= _; omega⟩
set_option maxHeartbeats 8000000 in
set_option maxRecDepth 100000 in
theorem awake55_any (w : World) (hT : Tabs w) (hP : Pow w) : Calls Tryz.prog 11 #[] w fun e w' => e = .returned (.bool true) /\ Below w.heap.size w w' := by
 have HT := hI hT
 have HPW := hI hP
 clear hT hP
 go_enter Tryz.func11, Tryz.ntmps11
 go_wp2_with fail
 refine (sample55_any w).mono ?_
 rintro e w1 ⟨ta, tc, na, nc, rfl, hTi, hN, hb1⟩
 obtain ⟨pd, hpd⟩ : ∃ pd, w1.heap.size = pd := ⟨_, rfl⟩
 obtain ⟨W1, hW1⟩ : ∃ W1, w1.alloc (.cells #[.int .i64 1, .string ⟨#[]⟩, .int .i64 900, .int .i64 0, .slice none 0 0, .slice ta 5 tc, .slice na 8 nc] 38) = W1 := ⟨_, rfl⟩
 obtain ⟨rb, hrb⟩ : ∃ rb, W1.heap.size = rb := ⟨_, rfl⟩
 obtain ⟨W2, hW2⟩ : ∃ W2, (W1.alloc (.cells #[.int .i64 1, .int .i64 2, .int .i64 2, .int .i64 1] 24)).alloc (.cells #[.int .i64 1, .string ⟨#[80, 108, 117, 114, 97, 108]⟩, .string ⟨#[109, 105]⟩, .slice none 0 0, .slice (some ⟨rb, 0, none⟩) 2 2] 65) = W2 := ⟨_, rfl⟩
 obtain ⟨W3, hW3⟩ : ∃ W3, W2.alloc (.cells #[.string ⟨#[49, 46, 32, 80, 108, 117, 114, 97, 108]⟩, .string ⟨#[109, 105]⟩, .string ⟨#[32, 32, 40, 49, 41, 32, 91, 49, 46, 50, 93]⟩, .string ⟨#[32, 32, 32, 32, 98, 97, 109, 105]⟩, .string ⟨#[32, 32, 32, 32, 98, 97, 45, 109, 105]⟩, .string ⟨#[32, 32, 32, 32, 100, 111, 103, 45, 80, 76]⟩, .string ⟨#[32, 32, 40, 50, 41, 32, 91, 50, 46, 49, 93]⟩] 9) = W3 := ⟨_, rfl⟩
 have hz1 : W1.heap.size = pd + 1 := by rw [<- hW1, <- hpd]; simp
 have hz2 : W2.heap.size = rb + 2 := by rw [<- hW2, <- hrb]; simp
 have hb01 : Below w1.heap.size w1 W1 := by rw [<- hW1]; exact bR.alloc (Nat.le_refl _) _
 have hb12 : Below W1.heap.size W1 W2 := by rw [<- hW2]; exact (bR.alloc (Nat.le_refl _) _).alloc (by simp) _
 have hb23 : Below W2.heap.size W2 W3 := by rw [<- hW3]; exact bR.alloc (Nat.le_refl _) _
 have hb13 : Below W1.heap.size W1 W3 := hb12.trans (hb23.mono (by omega))
 have HB : Hid (Below w.heap.size w W3) := hb1.trans ((hb01.trans (hb13.mono (by omega))).mono hb1.size)
 have HBW : Hid (∀ W, Below W3.heap.size W3 W -> Below w.heap.size w W) := fun W hW => HB.out.trans (hW.mono HB.out.size)
 have HDX : Hid (∀ W, Below W3.heap.size W3 W -> W.rangeAt pd 0 [.int .i64 1, .string ⟨#[]⟩, .int .i64 900, .int .i64 0, .slice none 0 0, .slice ta 5 tc, .slice na 8 nc]) := fun W hW => by
  have h13 := hb13.trans (hW.mono hb13.size)
  intro j v hv
  rw [h13.cell (p := ⟨pd, 0 + j, none⟩) (by show pd < _; omega), <- hW1, Nat.zero_add, <- hpd, World.cell?_alloc_new, <- hv, <- List.getElem?_toArray]
 have HTN : Hid (∀ W, Below W3.heap.size W3 W -> TiersR W W.heap.size ta 5 smpT /\ NotesR W W.heap.size na 8 smpN) := fun W hW => by
  have h := hb01.trans ((hb13.trans (hW.mono hb13.size)).mono (by omega))
  exact ⟨hTi.on h, hN.on h⟩
 have HPT : Hid (∀ W, Below W3.heap.size W3 W -> PtsR W W.heap.size (some ⟨rb + 1, 0, none⟩) 1 [smpP (some ⟨rb, 0, none⟩) 2]) := fun W hW => by
  have h := pts_new W1
  rw [hrb, hW2] at h
  exact h.on (hb23.trans (hW.mono hb23.size))
 have HWT : Hid (∀ W, Below W3.heap.size W3 W -> SR W W.heap.size (some ⟨rb + 2, 0, none⟩) 7 [(⟨#[49, 46, 32, 80, 108, 117, 114, 97, 108]⟩ : ByteArray), (⟨#[109, 105]⟩ : ByteArray), (⟨#[32, 32, 40, 49, 41, 32, 91, 49, 46, 50, 93]⟩ : ByteArray), (⟨#[32, 32, 32, 32, 98, 97, 109, 105]⟩ : ByteArray), (⟨#[32, 32, 32, 32, 98, 97, 45, 109, 105]⟩ : ByteArray), (⟨#[32, 32, 32, 32, 100, 111, 103, 45, 80, 76]⟩ : ByteArray), (⟨#[32, 32, 40, 50, 41, 32, 91, 50, 46, 49, 93]⟩ : ByteArray)]) := fun W hW => by
  have h := sr_new W2 9 [(⟨#[49, 46, 32, 80, 108, 117, 114, 97, 108]⟩ : ByteArray), (⟨#[109, 105]⟩ : ByteArray), (⟨#[32, 32, 40, 49, 41, 32, 91, 49, 46, 50, 93]⟩ : ByteArray), (⟨#[32, 32, 32, 32, 98, 97, 109, 105]⟩ : ByteArray), (⟨#[32, 32, 32, 32, 98, 97, 45, 109, 105]⟩ : ByteArray), (⟨#[32, 32, 32, 32, 100, 111, 103, 45, 80, 76]⟩ : ByteArray), (⟨#[32, 32, 40, 50, 41, 32, 91, 50, 46, 49, 93]⟩ : ByteArray)] #[.string ⟨#[49, 46, 32, 80, 108, 117, 114, 97, 108]⟩, .string ⟨#[109, 105]⟩, .string ⟨#[32, 32, 40, 49, 41, 32, 91, 49, 46, 50, 93]⟩, .string ⟨#[32, 32, 32, 32, 98, 97, 109, 105]⟩, .string ⟨#[32, 32, 32, 32, 98, 97, 45, 109, 105]⟩, .string ⟨#[32, 32, 32, 32, 100, 111, 103, 45, 80, 76]⟩, .string ⟨#[32, 32, 40, 50, 41, 32, 91, 50, 46, 49, 93]⟩] rfl 7 rfl
  rw [hW3, hz2] at h
  exact Reads.on h hW
 have HTW : Hid (∀ W, Below W3.heap.size W3 W -> Tabs W /\ Pow W) := fun W hW => ⟨HT.out.on (HBW.out W hW), HPW.out.on (HBW.out W hW)⟩
 have HDV : Hid (docV (smpD ta na tc nc).d = .agg #[.int .i64 1, .string ⟨#[]⟩, .int .i64 900, .int .i64 0, .slice none 0 0, .slice ta 5 tc, .slice na 8 nc]) := rfl
 clear hTi hN hb1 hb01 hb12 hb23 hb13
 rw [HDV.out]
 go_upto_region 4 with fail
 (try rw [hW1])
 (try rw [hrb])
 (try rw [hW2])
 (try rw [hW3])
 (try simp only [hpd, hz2])
 clear hW1 hrb hW2 hW3 hpd
 obtain ⟨k0, k1, k2, k3, k4, k5, k6⟩ := range7 (HDX.out W3 (Below.refl _ _))
 have HR := hI (rowsP_any (smpD ta na tc nc).d smpT smpN 1 5 W3 (HTN.out W3 bR).1 (HTN.out W3 bR).2 smp_ok.light smp_ok.up (by show 8 < 20; omega) (by show 5 <= 1000000; omega) (fun x => smp_ok.stop x) (by omega) (fun y hy => smp_ok.text hy))
 rw [HDV.out, smp_rows] at HR
 go_wp2_with fail
 refine HR.out.mono ?_
 rintro e w4 ⟨hv, hb4⟩
 have HB4 := hI hb4
 obtain ⟨g, n, c, rfl, hRC, hnc, hcm⟩ := hv.2 rfl
 have hn3 : 3 = n := hRC.len
 subst hn3
 have hbL : Below w4.heap.size w4 ((((w4.alloc (.cells #[.string ⟨#[98, 97, 109, 105]⟩, .string ⟨#[116, 97]⟩] 9)).alloc (.cells #[.string ⟨#[98, 97, 45, 109, 105]⟩, .string ⟨#[]⟩] 9)).alloc (.cells #[.string ⟨#[100, 111, 103, 45, 80, 76]⟩, .string ⟨#[]⟩] 9)).alloc (.cells #[.slice (some ⟨w4.heap.size, 0, none⟩) 2 2, .slice (some ⟨w4.heap.size + 1, 0, none⟩) 2 2, .slice (some ⟨w4.heap.size + 2, 0, none⟩) 2 2] 45)) := (((bR.alloc (Nat.le_refl _) _).alloc (by simp) _).alloc (by simp; omega) _).alloc (by simp; omega) _
 have HRS : Hid (Calls Tryz.prog 18 #[.slice (some ⟨g, 0, none⟩) 3 c, .slice (some ⟨w4.heap.size + 3, 0, none⟩) 3 3] ((((w4.alloc (.cells #[.string ⟨#[98, 97, 109, 105]⟩, .string ⟨#[116, 97]⟩] 9)).alloc (.cells #[.string ⟨#[98, 97, 45, 109, 105]⟩, .string ⟨#[]⟩] 9)).alloc (.cells #[.string ⟨#[100, 111, 103, 45, 80, 76]⟩, .string ⟨#[]⟩] 9)).alloc (.cells #[.slice (some ⟨w4.heap.size, 0, none⟩) 2 2, .slice (some ⟨w4.heap.size + 1, 0, none⟩) 2 2, .slice (some ⟨w4.heap.size + 2, 0, none⟩) 2 2] 45)) fun e w' => e = .returned (.bool true) /\ Below ((((w4.alloc (.cells #[.string ⟨#[98, 97, 109, 105]⟩, .string ⟨#[116, 97]⟩] 9)).alloc (.cells #[.string ⟨#[98, 97, 45, 109, 105]⟩, .string ⟨#[]⟩] 9)).alloc (.cells #[.string ⟨#[100, 111, 103, 45, 80, 76]⟩, .string ⟨#[]⟩] 9)).alloc (.cells #[.slice (some ⟨w4.heap.size, 0, none⟩) 2 2, .slice (some ⟨w4.heap.size + 1, 0, none⟩) 2 2, .slice (some ⟨w4.heap.size + 2, 0, none⟩) 2 2] 45)).heap.size ((((w4.alloc (.cells #[.string ⟨#[98, 97, 109, 105]⟩, .string ⟨#[116, 97]⟩] 9)).alloc (.cells #[.string ⟨#[98, 97, 45, 109, 105]⟩, .string ⟨#[]⟩] 9)).alloc (.cells #[.string ⟨#[100, 111, 103, 45, 80, 76]⟩, .string ⟨#[]⟩] 9)).alloc (.cells #[.slice (some ⟨w4.heap.size, 0, none⟩) 2 2, .slice (some ⟨w4.heap.size + 1, 0, none⟩) 2 2, .slice (some ⟨w4.heap.size + 2, 0, none⟩) 2 2] 45)) w') :=
  (rows55_any (some ⟨g, 0, none⟩) (some ⟨w4.heap.size + 3, 0, none⟩) 3 3 c 3 [[(⟨#[98, 97, 109, 105]⟩ : ByteArray), (⟨#[116, 97]⟩ : ByteArray)], [(⟨#[98, 97, 45, 109, 105]⟩ : ByteArray), (⟨#[]⟩ : ByteArray)], [(⟨#[100, 111, 103, 45, 80, 76]⟩ : ByteArray), (⟨#[]⟩ : ByteArray)]] [[(⟨#[98, 97, 109, 105]⟩ : ByteArray), (⟨#[116, 97]⟩ : ByteArray)], [(⟨#[98, 97, 45, 109, 105]⟩ : ByteArray), (⟨#[]⟩ : ByteArray)], [(⟨#[100, 111, 103, 45, 80, 76]⟩ : ByteArray), (⟨#[]⟩ : ByteArray)]] ((((w4.alloc (.cells #[.string ⟨#[98, 97, 109, 105]⟩, .string ⟨#[116, 97]⟩] 9)).alloc (.cells #[.string ⟨#[98, 97, 45, 109, 105]⟩, .string ⟨#[]⟩] 9)).alloc (.cells #[.string ⟨#[100, 111, 103, 45, 80, 76]⟩, .string ⟨#[]⟩] 9)).alloc (.cells #[.slice (some ⟨w4.heap.size, 0, none⟩) 2 2, .slice (some ⟨w4.heap.size + 1, 0, none⟩) 2 2, .slice (some ⟨w4.heap.size + 2, 0, none⟩) 2 2] 45)) ((hRC.below hbL).more hbL.size) (rows_lit w4) (by omega) (by omega)).mono fun e w' ⟨h1, h2⟩ => ⟨by rw [h1, decide_eq_true rfl], h2⟩
 have HB5 : Hid (Below W3.heap.size W3 ((((w4.alloc (.cells #[.string ⟨#[98, 97, 109, 105]⟩, .string ⟨#[116, 97]⟩] 9)).alloc (.cells #[.string ⟨#[98, 97, 45, 109, 105]⟩, .string ⟨#[]⟩] 9)).alloc (.cells #[.string ⟨#[100, 111, 103, 45, 80, 76]⟩, .string ⟨#[]⟩] 9)).alloc (.cells #[.slice (some ⟨w4.heap.size, 0, none⟩) 2 2, .slice (some ⟨w4.heap.size + 1, 0, none⟩) 2 2, .slice (some ⟨w4.heap.size + 2, 0, none⟩) 2 2] 45))) := HB4.out.trans (hbL.mono HB4.out.size)
 clear hv hRC hnc hcm hb4 hbL k0 k1 k2 k3 k4 k5 k6 HR HB4
 go_wp2_with fail
 obtain ⟨W5, hW5⟩ : ∃ W5, ((((w4.alloc (.cells #[.string ⟨#[98, 97, 109, 105]⟩, .string ⟨#[116, 97]⟩] 9)).alloc (.cells #[.string ⟨#[98, 97, 45, 109, 105]⟩, .string ⟨#[]⟩] 9)).alloc (.cells #[.string ⟨#[100, 111, 103, 45, 80, 76]⟩, .string ⟨#[]⟩] 9)).alloc (.cells #[.slice (some ⟨w4.heap.size, 0, none⟩) 2 2, .slice (some ⟨w4.heap.size + 1, 0, none⟩) 2 2, .slice (some ⟨w4.heap.size + 2, 0, none⟩) 2 2] 45)) = W5 := ⟨_, rfl⟩
 rw [hW5] at HRS HB5
 (try rw [hW5])
 refine HRS.out.mono ?_
 rintro e w6 ⟨rfl, hb6⟩
 have HB6 := hI (HB5.out.trans (hb6.mono HB5.out.size))
 clear hb6 HRS HB5 hW5
 obtain ⟨k0, k1, k2, k3, k4, k5, k6⟩ := range7 (HDX.out w6 HB6.out)
 have HE := hI (example_any (smpD ta na tc nc).d smpT smpN 1 5 40 w6 (HTN.out w6 HB6.out).1 (HTN.out w6 HB6.out).2 smp_ok.light smp_ok.up (by show 8 < 20; omega) (by show 5 <= 1000000; omega) (fun x => smp_ok.stop x) (by omega) (fun y hy => smp_ok.text hy) (by omega) (HTW.out w6 HB6.out).1)
 rw [HDV.out, smp_example] at HE
 go_wp2_with fail
 refine HE.out.mono ?_
 rintro e w7 ⟨v7, rfl, hO7, hb7⟩
 obtain ⟨A7, c7, hv7, h7a, h7b, h7r⟩ := OwnS.form hO7
 subst hv7
 have hb7' : Below w7.heap.size w7 (w7.alloc (.cells #[.string ⟨#[98, 97, 109, 105, 32, 32, 32, 116, 97]⟩, .string ⟨#[98, 97, 45, 109, 105]⟩, .string ⟨#[100, 111, 103, 45, 80, 76]⟩, .string ⟨#[34, 100, 111, 103, 115, 34]⟩] 9)) := bR.alloc (Nat.le_refl _) _
 have HS7 : Hid (Calls Tryz.prog 21 #[.slice A7 4 c7, .slice (some ⟨w7.heap.size, 0, none⟩) 4 4] (w7.alloc (.cells #[.string ⟨#[98, 97, 109, 105, 32, 32, 32, 116, 97]⟩, .string ⟨#[98, 97, 45, 109, 105]⟩, .string ⟨#[100, 111, 103, 45, 80, 76]⟩, .string ⟨#[34, 100, 111, 103, 115, 34]⟩] 9)) fun e w' => e = .returned (.bool true) /\ Below (w7.alloc (.cells #[.string ⟨#[98, 97, 109, 105, 32, 32, 32, 116, 97]⟩, .string ⟨#[98, 97, 45, 109, 105]⟩, .string ⟨#[100, 111, 103, 45, 80, 76]⟩, .string ⟨#[34, 100, 111, 103, 115, 34]⟩] 9)).heap.size (w7.alloc (.cells #[.string ⟨#[98, 97, 109, 105, 32, 32, 32, 116, 97]⟩, .string ⟨#[98, 97, 45, 109, 105]⟩, .string ⟨#[100, 111, 103, 45, 80, 76]⟩, .string ⟨#[34, 100, 111, 103, 115, 34]⟩] 9)) w') :=
  (same_strs A7 (some ⟨w7.heap.size, 0, none⟩) 4 4 c7 4 [(⟨#[98, 97, 109, 105, 32, 32, 32, 116, 97]⟩ : ByteArray), (⟨#[98, 97, 45, 109, 105]⟩ : ByteArray), (⟨#[100, 111, 103, 45, 80, 76]⟩ : ByteArray), (⟨#[34, 100, 111, 103, 115, 34]⟩ : ByteArray)] [(⟨#[98, 97, 109, 105, 32, 32, 32, 116, 97]⟩ : ByteArray), (⟨#[98, 97, 45, 109, 105]⟩ : ByteArray), (⟨#[100, 111, 103, 45, 80, 76]⟩ : ByteArray), (⟨#[34, 100, 111, 103, 115, 34]⟩ : ByteArray)] _ (Reads.on h7r hb7') (sr_new w7 9 [(⟨#[98, 97, 109, 105, 32, 32, 32, 116, 97]⟩ : ByteArray), (⟨#[98, 97, 45, 109, 105]⟩ : ByteArray), (⟨#[100, 111, 103, 45, 80, 76]⟩ : ByteArray), (⟨#[34, 100, 111, 103, 115, 34]⟩ : ByteArray)] _ rfl 4 rfl) (by omega) (by omega)).mono fun e w' ⟨h1, z, h2⟩ => ⟨by rw [h1, decide_eq_true rfl], by rw [h2]; exact below_drewN bR z⟩
 have HB7 : Hid (Below W3.heap.size W3 (w7.alloc (.cells #[.string ⟨#[98, 97, 109, 105, 32, 32, 32, 116, 97]⟩, .string ⟨#[98, 97, 45, 109, 105]⟩, .string ⟨#[100, 111, 103, 45, 80, 76]⟩, .string ⟨#[34, 100, 111, 103, 115, 34]⟩] 9))) := (HB6.out.trans (hb7.mono HB6.out.size)).trans (hb7'.mono (HB6.out.trans (hb7.mono HB6.out.size)).size)
 clear hO7 hb7 hb7' h7a h7b h7r k0 k1 k2 k3 k4 k5 k6 HE HB6
 go_wp2_with fail
 obtain ⟨W7, hW7⟩ : ∃ W7, w7.alloc (.cells #[.string ⟨#[98, 97, 109, 105, 32, 32, 32, 116, 97]⟩, .string ⟨#[98, 97, 45, 109, 105]⟩, .string ⟨#[100, 111, 103, 45, 80, 76]⟩, .string ⟨#[34, 100, 111, 103, 115, 34]⟩] 9) = W7 := ⟨_, rfl⟩
 rw [hW7] at HS7 HB7
 (try rw [hW7])
 refine HS7.out.mono ?_
 rintro e w8 ⟨rfl, hb8⟩
 have HB8 := hI (HB7.out.trans (hb8.mono HB7.out.size))
 clear hb8 HS7 HB7 hW7
 obtain ⟨k0, k1, k2, k3, k4, k5, k6⟩ := range7 (HDX.out w8 HB8.out)
 obtain ⟨W8, hW8⟩ : ∃ W8, w8.alloc (.cells #[.int .i64 1, .string ⟨#[]⟩, .int .i64 900, .int .i64 0, .slice none 0 0, .slice ta 5 tc, .slice na 8 nc] 38) = W8 := ⟨_, rfl⟩
 have hb88 : Below w8.heap.size w8 W8 := by rw [<- hW8]; exact bR.alloc (Nat.le_refl _) _
 have HB9 := hI (HB8.out.trans (hb88.mono HB8.out.size))
 have hDcs : DcsR W8 W8.heap.size (some ⟨w8.heap.size, 0, none⟩) 1 [smpD ta na tc nc] := ⟨by rw [<- hW8]; exact recR_new w8 _ [smpD ta na tc nc] _ rfl 1 rfl encC_len, fun x hx => by
  rw [List.mem_singleton] at hx
  subst hx
  exact HTN.out W8 HB9.out⟩
 have HLI := hI (linesG_any (some ⟨w8.heap.size, 0, none⟩) 1 1 [smpD ta na tc nc] (some ⟨rb + 1, 0, none⟩) 1 1 [smpP (some ⟨rb, 0, none⟩) 2] 40 W8 hDcs (by omega) (HPT.out W8 HB9.out) (by omega) (fun x hx => by rw [List.mem_singleton] at hx; subst hx; exact smp_dcok ta na tc nc) (fun p hp => by rw [List.mem_singleton] at hp; subst hp; exact ⟨by show 2 <= 1000; omega, by show 6 <= 1000000; omega⟩) (by omega) (HTW.out W8 HB9.out).1 (HTW.out W8 HB9.out).2)
 rw [smp_lines] at HLI
 clear hb88 hDcs
 go_wp2_with fail
 (try rw [hW8])
 clear hW8 k0 k1 k2 k3 k4 k5 k6
 refine HLI.out.mono ?_
 rintro e w9 ⟨v9, rfl, hO9, hb9⟩
 obtain ⟨A9, c9, hv9, h9a, h9b, h9r⟩ := OwnS.form hO9
 subst hv9
 have HB10 := hI (HB9.out.trans (hb9.mono HB9.out.size))
 have HS9 : Hid (Calls Tryz.prog 21 #[.slice A9 7 c9, .slice (some ⟨rb + 2, 0, none⟩) 7 7] w9 fun e w' => e = .returned (.bool true) /\ Below w9.heap.size w9 w') :=
  (same_strs A9 (some ⟨rb + 2, 0, none⟩) 7 7 c9 7 [(⟨#[49, 46, 32, 80, 108, 117, 114, 97, 108]⟩ : ByteArray), (⟨#[109, 105]⟩ : ByteArray), (⟨#[32, 32, 40, 49, 41, 32, 91, 49, 46, 50, 93]⟩ : ByteArray), (⟨#[32, 32, 32, 32, 98, 97, 109, 105]⟩ : ByteArray), (⟨#[32, 32, 32, 32, 98, 97, 45, 109, 105]⟩ : ByteArray), (⟨#[32, 32, 32, 32, 100, 111, 103, 45, 80, 76]⟩ : ByteArray), (⟨#[32, 32, 40, 50, 41, 32, 91, 50, 46, 49, 93]⟩ : ByteArray)] [(⟨#[49, 46, 32, 80, 108, 117, 114, 97, 108]⟩ : ByteArray), (⟨#[109, 105]⟩ : ByteArray), (⟨#[32, 32, 40, 49, 41, 32, 91, 49, 46, 50, 93]⟩ : ByteArray), (⟨#[32, 32, 32, 32, 98, 97, 109, 105]⟩ : ByteArray), (⟨#[32, 32, 32, 32, 98, 97, 45, 109, 105]⟩ : ByteArray), (⟨#[32, 32, 32, 32, 100, 111, 103, 45, 80, 76]⟩ : ByteArray), (⟨#[32, 32, 40, 50, 41, 32, 91, 50, 46, 49, 93]⟩ : ByteArray)] w9 h9r (HWT.out w9 HB10.out) (by omega) (by omega)).mono fun e w' ⟨h1, z, h2⟩ => ⟨by rw [h1, decide_eq_true rfl], by rw [h2]; exact below_drewN bR z⟩
 clear hO9 hb9 h9a h9b h9r HLI HB9
 go_wp2_with fail
 refine HS9.out.mono ?_
 rintro e wa ⟨rfl, hba⟩
 have HBa := hI (HB10.out.trans (hba.mono HB10.out.size))
 have HG1 := hI (gnumber_any (some ⟨rb + 1, 0, none⟩) 1 1 [smpP (some ⟨rb, 0, none⟩) 2] 2 1 wa (HPT.out wa HBa.out) ⟨by decide, by decide⟩ (by omega) (by show 2 <= 1000000; omega))
 rw [smp_nums, show numR [(1, 2), (2, 1)] (2, 1) = 2 by decide] at HG1
 clear hba HS9 HB10
 go_wp2_with fail
 refine HG1.out.mono ?_
 rintro e wb ⟨rfl, hbb⟩
 have HBb := hI (HBa.out.trans (hbb.mono HBa.out.size))
 have HG2 := hI (gnumbers_any (some ⟨rb + 1, 0, none⟩) 1 1 [smpP (some ⟨rb, 0, none⟩) 2] wb (HPT.out wb HBb.out) (by omega) (by show 2 <= 1000000; omega))
 rw [smp_nums] at HG2
 clear hbb HG1 HBa
 go_wp2_with fail
 refine HG2.out.mono ?_
 rintro e wc ⟨vc, rfl, hOc, hbc⟩
 obtain ⟨Ac, cc, hvc, _, _, _⟩ := RfO.form hOc
 subst hvc
 have HBc := hI (HBb.out.trans (hbc.mono HBb.out.size))
 have HG3 := hI (gnumber_any (some ⟨rb + 1, 0, none⟩) 1 1 [smpP (some ⟨rb, 0, none⟩) 2] 0 0 wc (HPT.out wc HBc.out) ⟨by decide, by decide⟩ (by omega) (by show 2 <= 1000000; omega))
 rw [smp_nums, show numR [(1, 2), (2, 1)] (0, 0) = 0 by decide] at HG3
 clear hOc hbc HG2 HBb
 go_wp2_with fail
 refine HG3.out.mono ?_
 rintro e wd ⟨rfl, hbd⟩
 have HBd := hI (HBc.out.trans (hbd.mono HBc.out.size))
 clear hbd HG3 HBc
 go_wp2
 go_ret
 exact ⟨rfl, HBW.out _ HBd.out⟩
end
section
open Go.RowKit Go.Lib Go.Shelf
def laid5 : List (String × DataW Unit) := [("math/bits.deBruijn32tab", Rows.laid_math_bits_deBruijn32tab), ("math/bits.deBruijn64tab", Rows.laid_math_bits_deBruijn64tab), ("internal/strconv.uint64pow10", Rows.laid_internal_strconv_uint64pow10), ("unicode/utf8.acceptRanges", Rows.laid_unicode_utf8_acceptRanges), ("unicode/utf8.first", Rows.laid_unicode_utf8_first)]
theorem accept_eq : (Rows.laid_unicode_utf8_acceptRanges : DataW Unit) = acceptData := by kernel_rfl
theorem first_eq : Rows.laid_unicode_utf8_first = firstData := Pinned.utf8First_eq
theorem pow_eq : (Rows.laid_internal_strconv_uint64pow10 : DataW Unit) = tabData .u64 pow10Tab := by kernel_rfl
def laid5b : List (String × DataW Unit) := [("math/bits.deBruijn32tab", Rows.laid_math_bits_deBruijn32tab), ("math/bits.deBruijn64tab", Rows.laid_math_bits_deBruijn64tab), ("internal/strconv.uint64pow10", tabData .u64 pow10Tab), ("unicode/utf8.acceptRanges", acceptData), ("unicode/utf8.first", firstData)]
theorem laid5_eq : laid5 = laid5b := by unfold laid5 laid5b; rw [accept_eq, first_eq, pow_eq]
def numsOf : DataW Unit -> List Value
 | .agg l => l.filterMap fun d => match d with
  | .lit (.int k z) => some (.int k z)
  | _ => none
 | _ => []
noncomputable def laidWorld5 (os : Os) : World :=
 let w0 := World.holding Tryz.prog os ⟨#[], #[], []⟩
 let put (h : Array Obj) (g : Nat) (cs : Array Value) : Array Obj := h.modify g fun
  | .cells _ t frozen => .cells cs t frozen
  | o => o
 let h1 := put w0.heap 1 (firstTab.map fun z => Value.int .u8 z).toArray
 let h2 := put h1 2 ((List.range 16).flatMap fun i => [Value.int .u8 (accLo i), Value.int .u8 (accHi i)]).toArray
 let h3 := put h2 3 (pow10Tab.map fun z => Value.int .u64 z).toArray
 let h4 := put h3 4 (numsOf Rows.laid_math_bits_deBruijn32tab).toArray
 let h5 := put h4 5 (numsOf Rows.laid_math_bits_deBruijn64tab).toArray
 { w0 with heap := h5 }
theorem laid5_met (os : Os) (args : Array Value) : laidMetH Tryz.prog laid5 ((laidWorld5 os).forCall (fun _ _ => 0) ⟨#[], args, []⟩).memory := by
 rw [MakeChecks.laidMetH_plain _ _ _ (by kernel_rfl), laid5_eq]
 exact (LaidIn.of_run (l := laid5b) [1, 2, 3, 4, 5] 8 (by kernel_rfl) (by kernel_rfl) (by kernel_rfl) (by kernel_rfl)).met
theorem tabs5_of {W : World} (h : laidMetH Tryz.prog laid5 W) : Tabs W := by
 rw [MakeChecks.laidMetH_plain _ _ _ (by kernel_rfl), laid5_eq] at h
 exact utf8Tabs_of_readsT (U8Types.of196 Tryz.laysValid) ⟨by kernel_rfl, by kernel_rfl, by kernel_rfl, by kernel_rfl, by kernel_rfl, by kernel_rfl, by kernel_rfl⟩ (Lib.laidMet.reads h (.tail _ (.tail _ (.tail _ (.tail _ (.head _)))))) (Lib.laidMet.reads h (.tail _ (.tail _ (.tail _ (.head _)))))
theorem pow5_of {W : World} (h : laidMetH Tryz.prog laid5 W) : Pow W := by
 rw [MakeChecks.laidMetH_plain _ _ _ (by kernel_rfl), laid5_eq] at h
 have hr : VarReads Tryz.prog W "internal/strconv.uint64pow10" (tabData .u64 pow10Tab) := Lib.laidMet.reads h (.tail _ (.tail _ (.head _)))
 obtain ⟨g, t, cs, fuel, p, hg, hty, hvar, hd⟩ := hr
 have hty2 : (Tryz.prog.globalNamed "internal/strconv.uint64pow10").bind (fun g => (Tryz.prog.globals[g]?).map (·.type)) = some 198 := by kernel_rfl
 rw [hg] at hty2
 obtain rfl := Option.some.inj (hty.symm.trans hty2)
 unfold Pow TabIs
 rw [hvar, <- cells_of_tab Tryz.underlying198 Tryz.underlying180 (by kernel_rfl) (by kernel_rfl) hd]
theorem laid5_shaped (os : Os) (args : Array Value) : ((laidWorld5 os).forCall (fun _ _ => 0) ⟨#[], args, []⟩).Shaped Tryz.prog := World.shaped_of_RefB (by kernel_rfl) (by kernel_rfl)
theorem own5 : ownKnob Tryz.prog.godebug = none := by kernel_rfl
theorem laidOut5 : laidOutB Tryz.prog = true := by kernel_rfl
end
end Go.Proofs.YthcabnfcgjnlnaaGreatDoor
