/-
  PlainMemory: arithmetic: a cell as its bytes.
-/
import Derived.Test.YtnoonoghemgbbaaPa1
set_option linter.unusedVariables false
set_option linter.unusedSimpArgs false
namespace Go.Proofs.Ytnoonoghemgbbaa.Sx
open Go

/-- One byte more. -/
def in8 (x b : Int) : Int := IntKind.u32.wrap ((BitVec.ofInt 32 (IntKind.u32.wrap (x * 256)) ||| BitVec.ofInt 32 (IntKind.u32.wrap b)).toNat : Int)
/-- A cell of four bytes, the lowest first. -/
def ld4 (b0 b1 b2 b3 : Int) : Int := in8 (in8 (in8 (in8 0 b3) b2) b1) b0
def by8 (a p : Int) : Int := IntKind.u8.wrap (a.fdiv p)
def low8 (a : Int) : Int := IntKind.u32.wrap ((BitVec.ofInt 32 a &&& BitVec.ofInt 32 255).toNat : Int)

theorem in8_eq {x b : Int} (hx : 0 ≤ x ∧ x < 16777216) (hb : 0 ≤ b ∧ b < 256) : in8 x b = x * 256 + b := by
  unfold in8
  have e0 : IntKind.u32.wrap (x * 256) = x * 256 := by rw [IntKind.wrap_u32]; omega
  have e1 : IntKind.u32.wrap b = b := by rw [IntKind.wrap_u32]; omega
  rw [e0, e1, BitVec.toNat_or, BitVec.toNat_ofInt, BitVec.toNat_ofInt]
  have e2 : (x * 256 % ((2 ^ 32 : Nat) : Int)).toNat = 2 ^ 8 * x.toNat := by omega
  have e3 : (b % ((2 ^ 32 : Nat) : Int)).toNat = b.toNat := by omega
  rw [e2, e3, ← Nat.two_pow_add_eq_or_of_lt (i := 8) (by omega), IntKind.wrap_u32]
  omega

theorem ld4_eq {b0 b1 b2 b3 : Int} (h0 : 0 ≤ b0 ∧ b0 < 256) (h1 : 0 ≤ b1 ∧ b1 < 256) (h2 : 0 ≤ b2 ∧ b2 < 256) (h3 : 0 ≤ b3 ∧ b3 < 256) : ld4 b0 b1 b2 b3 = b0 + 256 * b1 + 65536 * b2 + 16777216 * b3 := by
  unfold ld4
  rw [in8_eq (x := 0) (by omega) h3, in8_eq (by omega) h2, in8_eq (by omega) h1, in8_eq (by omega) h0]
  omega

theorem by8_range (a p : Int) : 0 ≤ by8 a p ∧ by8 a p < 256 := by
  unfold by8
  rw [IntKind.wrap_u8]
  omega

theorem ld_st {a : Int} (ha : isU a) : ld4 (by8 a 1) (by8 a 256) (by8 a 65536) (by8 a 16777216) = a := by
  rw [ld4_eq (by8_range _ _) (by8_range _ _) (by8_range _ _) (by8_range _ _)]
  unfold by8
  simp only [IntKind.wrap_u8]
  rw [Int.fdiv_eq_ediv_of_nonneg _ (by omega), Int.fdiv_eq_ediv_of_nonneg _ (by omega), Int.fdiv_eq_ediv_of_nonneg _ (by omega), Int.fdiv_eq_ediv_of_nonneg _ (by omega)]
  obtain ⟨h1, h2⟩ := ha
  omega

theorem fact_ld {a : Int} (ha : isU a) : (ld4 (by8 a 1) (by8 a 256) (by8 a 65536) (by8 a 16777216) != a) = false := by
  rw [ld_st ha]; exact bne_self_eq_false a

theorem wrap_isU' (x : Int) : isU (IntKind.u32.wrap x) := by
  unfold isU
  rw [IntKind.wrap_u32]
  omega

theorem fact_add {a b : Int} (ha : isU a) : (ld4 (by8 (IntKind.u32.wrap (ld4 (by8 a 1) (by8 a 256) (by8 a 65536) (by8 a 16777216) + b)) 1) (by8 (IntKind.u32.wrap (ld4 (by8 a 1) (by8 a 256) (by8 a 65536) (by8 a 16777216) + b)) 256)
    (by8 (IntKind.u32.wrap (ld4 (by8 a 1) (by8 a 256) (by8 a 65536) (by8 a 16777216) + b)) 65536) (by8 (IntKind.u32.wrap (ld4 (by8 a 1) (by8 a 256) (by8 a 65536) (by8 a 16777216) + b)) 16777216) != IntKind.u32.wrap (a + b)) = false := by
  rw [ld_st ha, ld_st (wrap_isU' _)]; exact bne_self_eq_false _

theorem low8_eq {a : Int} (ha : isU a) : low8 a = a % 256 := by
  unfold low8
  rw [BitVec.toNat_and, bv_nat ha]
  have e : (BitVec.ofInt 32 255).toNat = 2 ^ 8 - 1 := by decide
  rw [e, Nat.and_two_pow_sub_one_eq_mod, IntKind.wrap_u32]
  obtain ⟨h1, h2⟩ := ha
  omega

theorem u8_eq {a : Int} : IntKind.u8.wrap a = a % 256 := by rw [IntKind.wrap_u8]

theorem fact_low {a : Int} (ha : isU a) : (IntKind.u32.wrap (IntKind.u8.wrap a) != low8 a) = false := by
  rw [low8_eq ha, u8_eq, IntKind.wrap_u32, bne_eq_false_iff_eq]
  omega

theorem fact_low1 {a : Int} (ha : isU a) : (IntKind.u32.wrap (by8 a 1) != low8 a) = false := by
  unfold by8
  rw [low8_eq ha, u8_eq, IntKind.wrap_u32, bne_eq_false_iff_eq, show a.fdiv 1 = a from Int.fdiv_one a]
  omega

theorem fact_fill {a : Int} (ha : isU a) : (ld4 (IntKind.u8.wrap a) (IntKind.u8.wrap a) (IntKind.u8.wrap a) (IntKind.u8.wrap a) != IntKind.u32.wrap (low8 a * 16843009)) = false := by
  have h : 0 ≤ IntKind.u8.wrap a ∧ IntKind.u8.wrap a < 256 := by rw [u8_eq]; omega
  rw [ld4_eq h h h h, low8_eq ha, u8_eq, IntKind.wrap_u32, bne_eq_false_iff_eq]
  omega

end Go.Proofs.Ytnoonoghemgbbaa.Sx
