/-
  PLAIN LAW of the chapter on runes: the library's decoder and the reference's. No program in sight.
-/
import Derived.Test.YtacfeabdeaikhaaDoorPlainBack
import Derived.Lib.MapLaws
import Derived.Lib.ValidLaws
import Derived.Lib.TrimUEq
import Derived.Lib.RuneBytes
set_option linter.unusedVariables false
set_option linter.unusedSimpArgs false
namespace Go.Proofs.YtacfeabdeaikhaaDoor.Ru
open Go.Lib

theorem enc_same {p : Nat} (h : scalarB (p : Int) = true) : encodeRuneZ (p : Int) = encI (p : Int) := by
  have hs := scalar_iff.1 h
  unfold encI
  by_cases h1 : p < 128
  · rw [if_pos (by omega), encodeRuneZ_one (by omega) (by omega)]
  · by_cases h2 : p < 2048
    · rw [if_neg (by omega), if_pos (by omega), encodeRuneZ_two (by omega) (by omega)]
    · by_cases h3 : p < 65536
      · rw [if_neg (by omega), if_neg (by omega), if_pos (by omega), encodeRuneZ_three (by omega)]
      · rw [if_neg (by omega), if_neg (by omega), if_neg (by omega), encodeRuneZ_four (by omega) (by omega)]
theorem encodeRune_same {p : Nat} (h : scalarB (p : Int) = true) : encodeRune (p : Int) = encL (p : Int) := by
  unfold encodeRune encL
  rw [enc_same h]
theorem runeCells_same {p : Nat} (h : scalarB (p : Int) = true) : runeCells (p : Int) = (encI (p : Int)).map fun x => Value.int .u8 x := by
  unfold runeCells
  rw [enc_same h]
set_option maxRecDepth 100000 in
theorem decodeN_scalar {n b0 b1 b2 b3 : Nat} (h : ¬ ((decodeN n b0 b1 b2 b3).1 = 65533 ∧ (decodeN n b0 b1 b2 b3).2 = 1)) : scalarB ((decodeN n b0 b1 b2 b3).1 : Int) = true := by
  rw [scalar_iff]
  unfold decodeN at h ⊢
  split
  · simp only; omega
  · rename_i h0
    rw [if_neg h0] at h
    split
    · rename_i h1
      rw [if_pos h1] at h
      split
      · simp only; omega
      · rename_i h2; rw [if_neg h2] at h; exact absurd ⟨rfl, rfl⟩ h
    · rename_i h1
      rw [if_neg h1] at h
      split
      · rename_i h2
        rw [if_pos h2] at h
        split
        · rename_i h3; simp only; omega
        · rename_i h3; rw [if_neg h3] at h; exact absurd ⟨rfl, rfl⟩ h
      · rename_i h2
        rw [if_neg h2] at h
        split
        · rename_i h3
          rw [if_pos h3] at h
          split
          · rename_i h4; simp only; omega
          · rename_i h4; rw [if_neg h4] at h; exact absurd ⟨rfl, rfl⟩ h
        · rename_i h3; rw [if_neg h3] at h; exact absurd ⟨rfl, rfl⟩ h
/-- The decoder finds a rune: so does the reference. -/
theorem first_of_decode {l : List UInt8} (hne : l ≠ []) (h : ¬ ((decodeL l).1 = 65533 ∧ (decodeL l).2 = 1)) : firstL l = some ((decodeL l).1, (decodeL l).2) := by
  have hsc : scalarB ((decodeL l).1 : Int) = true := by
    rw [decodeL_N] at h ⊢
    exact decodeN_scalar h
  have he := encode_decode l hne h
  rw [encodeRune_same hsc] at he
  have hl : (encL ((decodeL l).1 : Int)).length = (decodeL l).2 := by
    rw [he, List.length_take]
    have := decodeL_le l hne
    omega
  have h1 := first_enc hsc (l.drop (decodeL l).2)
  rw [hl] at h1
  rwa [he, List.take_append_drop] at h1
set_option maxRecDepth 100000 in
theorem decode_enc {p : Nat} (h : scalarB (p : Int) = true) (rest : List UInt8) : decodeL (encL (p : Int) ++ rest) = (p, (encL (p : Int)).length) := by
  have hs := scalar_iff.1 h
  rw [decodeL_N]
  by_cases h1 : p < 128
  · have e : encL (p : Int) = [UInt8.ofNat p] := by unfold encL encI; rw [if_pos (by omega)]; simp
    rw [e]
    simp only [List.cons_append, List.nil_append, List.getD_cons_zero, u8_nat (by omega : p < 256)]
    unfold decodeN
    rw [if_pos (by omega)]
    rfl
  · by_cases h2 : p < 2048
    · have e : encL (p : Int) = [UInt8.ofNat (192 + p / 64), UInt8.ofNat (128 + p % 64)] := by
        unfold encL encI
        rw [if_neg (by omega), if_pos (by omega)]
        simp only [List.map_cons, List.map_nil]
        rw [show (192 + (p : Int) / 64).toNat = 192 + p / 64 by omega, show (128 + (p : Int) % 64).toNat = 128 + p % 64 by omega]
      rw [e]
      simp only [List.cons_append, List.nil_append, List.getD_cons_zero, List.getD_cons_succ, List.length_cons, u8_nat (by omega : 192 + p / 64 < 256), u8_nat (by omega : 128 + p % 64 < 256)]
      unfold decodeN
      rw [if_neg (by omega), if_pos (by omega), if_pos (by omega)]
      refine Prod.ext ?_ ?_
      · show (192 + p / 64) % 32 * 64 + (128 + p % 64) % 64 = p
        omega
      · rfl
    · by_cases h3 : p < 65536
      · have e : encL (p : Int) = [UInt8.ofNat (224 + p / 4096), UInt8.ofNat (128 + p / 64 % 64), UInt8.ofNat (128 + p % 64)] := by
          unfold encL encI
          rw [if_neg (by omega), if_neg (by omega), if_pos (by omega)]
          simp only [List.map_cons, List.map_nil]
          rw [show (224 + (p : Int) / 4096).toNat = 224 + p / 4096 by omega, show (128 + (p : Int) / 64 % 64).toNat = 128 + p / 64 % 64 by omega, show (128 + (p : Int) % 64).toNat = 128 + p % 64 by omega]
        rw [e]
        simp only [List.cons_append, List.nil_append, List.getD_cons_zero, List.getD_cons_succ, List.length_cons, u8_nat (by omega : 224 + p / 4096 < 256), u8_nat (by omega : 128 + p / 64 % 64 < 256), u8_nat (by omega : 128 + p % 64 < 256)]
        unfold decodeN
        rw [if_neg (by omega), if_neg (by omega), if_pos (by omega)]
        have ec : (224 + p / 4096) % 16 * 4096 + (128 + p / 64 % 64) % 64 * 64 + (128 + p % 64) % 64 = p := by omega
        rw [ec, if_pos (by omega)]
        rfl
      · have e : encL (p : Int) = [UInt8.ofNat (240 + p / 262144), UInt8.ofNat (128 + p / 4096 % 64), UInt8.ofNat (128 + p / 64 % 64), UInt8.ofNat (128 + p % 64)] := by
          unfold encL encI
          rw [if_neg (by omega), if_neg (by omega), if_neg (by omega)]
          simp only [List.map_cons, List.map_nil]
          rw [show (240 + (p : Int) / 262144).toNat = 240 + p / 262144 by omega, show (128 + (p : Int) / 4096 % 64).toNat = 128 + p / 4096 % 64 by omega, show (128 + (p : Int) / 64 % 64).toNat = 128 + p / 64 % 64 by omega, show (128 + (p : Int) % 64).toNat = 128 + p % 64 by omega]
        rw [e]
        simp only [List.cons_append, List.nil_append, List.getD_cons_zero, List.getD_cons_succ, List.length_cons, u8_nat (by omega : 240 + p / 262144 < 256), u8_nat (by omega : 128 + p / 4096 % 64 < 256), u8_nat (by omega : 128 + p / 64 % 64 < 256), u8_nat (by omega : 128 + p % 64 < 256)]
        unfold decodeN
        rw [if_neg (by omega), if_neg (by omega), if_neg (by omega), if_pos (by omega)]
        have ec : (240 + p / 262144) % 8 * 262144 + (128 + p / 4096 % 64) % 64 * 4096 + (128 + p / 64 % 64) % 64 * 64 + (128 + p % 64) % 64 = p := by omega
        rw [ec, if_pos (by omega)]
        rfl
/-- The reference finds a point: so does the decoder. -/
theorem decode_of_first {l : List UInt8} {p n : Nat} (h : firstL l = some (p, n)) : decodeL l = (p, n) ∧ ¬ (p = 65533 ∧ n = 1) := by
  obtain ⟨f1, f2, f3, f4, f5⟩ := firstL_some h
  have hl : (encL (p : Int)).length = n := by rw [f5, List.length_take]; omega
  have h1 := decode_enc f4 (l.drop n)
  rw [hl, f5, List.take_append_drop] at h1
  refine ⟨h1, ?_⟩
  rintro ⟨rfl, rfl⟩
  have : (encL ((65533 : Nat) : Int)).length = 3 := by decide
  omega
/-- A string is valid just if it has points. -/
theorem valid_points : ∀ (n : Nat) (l : List UInt8), l.length ≤ n → validGoD n l = (points l).isSome
  | 0, l, h => by
    have : l = [] := List.eq_nil_of_length_eq_zero (by omega)
    subst this
    rfl
  | n + 1, l, h => by
    unfold validGoD
    by_cases h0 : l = []
    · subst h0; rfl
    · rw [if_neg h0]
      by_cases he : (decodeL l).1 = 65533 ∧ (decodeL l).2 = 1
      · rw [if_pos he]
        cases hf : firstL l with
        | none => rw [points_none h0 hf]; rfl
        | some pn =>
          obtain ⟨p, m⟩ := pn
          obtain ⟨h1, h2⟩ := decode_of_first hf
          rw [h1] at he
          exact absurd he h2
      · rw [if_neg he]
        have hf := first_of_decode h0 he
        rw [points_some hf, valid_points n _ (by have := decodeL_width l; rw [List.length_drop]; omega)]
        cases points (l.drop (decodeL l).2) <;> rfl
theorem validD_points (l : List UInt8) : validD l = (points l).isSome := valid_points _ l (Nat.le_refl _)
end Go.Proofs.YtacfeabdeaikhaaDoor.Ru
