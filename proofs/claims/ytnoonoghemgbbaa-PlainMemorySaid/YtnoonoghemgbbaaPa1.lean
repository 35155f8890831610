/-
  Numbers of 32 bits: what sums, signs and bits of them are. (No program is in sight.)
-/
import Derived.Test.YtnoonoghemgbbaaSx3
import Derived.Laws.Small
set_option linter.unusedVariables false
set_option linter.unusedSimpArgs false
namespace Go.Proofs.Ytnoonoghemgbbaa.Sx
open Go

/-- A number of 32 bits. -/
def isU (a : Int) : Prop := 0 ≤ a ∧ a ≤ 4294967295

theorem bv_nat {a : Int} (h : isU a) : (BitVec.ofInt 32 a).toNat = a.toNat := by
  rw [BitVec.toNat_ofInt]
  obtain ⟨h1, h2⟩ := h
  congr 1
  omega

theorem nat_lt {a : Int} (h : isU a) : a.toNat < 4294967296 := by
  obtain ⟨h1, h2⟩ := h
  omega

theorem or_add_and : ∀ (x y : Nat), (x ||| y) + (x &&& y) = x + y := by
  intro x
  induction x using Nat.strongRecOn with
  | ind x ih =>
    intro y
    by_cases hx : x = 0
    · subst hx; simp
    · have h := ih (x / 2) (by omega) (y / 2)
      have i1 := Nat.and_mod_two_eq_one (a := x) (b := y)
      have i2 := Nat.or_mod_two_eq_one (a := x) (b := y)
      rw [← Nat.and_div_two, ← Nat.or_div_two] at h
      omega

theorem bne_self_int (a : Int) : (a != a) = false := by simp

theorem fact_sub {a b : Int} (ha : isU a) (hb : isU b) : (IntKind.u32.wrap (IntKind.u32.wrap (a + b) - b) != a) = false := by
  obtain ⟨h1, h2⟩ := ha
  obtain ⟨h3, h4⟩ := hb
  rw [IntKind.wrap_u32, IntKind.wrap_u32]
  simp only [bne_eq_false_iff_eq]
  omega

theorem fact_neg {b : Int} (hb : isU b) : (IntKind.u32.wrap (0 - IntKind.u32.wrap (0 - b)) != b) = false := by
  obtain ⟨h3, h4⟩ := hb
  rw [IntKind.wrap_u32, IntKind.wrap_u32]
  simp only [bne_eq_false_iff_eq]
  omega

theorem inv_nat {b : Int} (hb : isU b) : ((BitVec.ofInt 32 4294967295 ^^^ BitVec.ofInt 32 b).toNat : Int) = 4294967295 - b := by
  have e : BitVec.ofInt 32 4294967295 = BitVec.allOnes 32 := by decide
  rw [e, BitVec.allOnes_xor, BitVec.toNat_not, bv_nat hb]
  obtain ⟨h3, h4⟩ := hb
  omega

theorem fact_inv {b : Int} (hb : isU b) : (IntKind.u32.wrap (0 - IntKind.u32.wrap (IntKind.u32.wrap ((BitVec.ofInt 32 4294967295 ^^^ BitVec.ofInt 32 b).toNat : Int) + 1)) != b) = false := by
  rw [inv_nat hb, IntKind.wrap_u32, IntKind.wrap_u32, IntKind.wrap_u32]
  obtain ⟨h3, h4⟩ := hb
  simp only [bne_eq_false_iff_eq]
  omega

theorem fact_and_or {a b : Int} (ha : isU a) (hb : isU b) : (IntKind.u32.wrap (IntKind.u32.wrap ((BitVec.ofInt 32 a ||| BitVec.ofInt 32 b).toNat : Int) + IntKind.u32.wrap ((BitVec.ofInt 32 a &&& BitVec.ofInt 32 b).toNat : Int)) != IntKind.u32.wrap (a + b)) = false := by
  rw [BitVec.toNat_or, BitVec.toNat_and, bv_nat ha, bv_nat hb]
  have h := or_add_and a.toNat b.toNat
  obtain ⟨h1, h2⟩ := ha
  obtain ⟨h3, h4⟩ := hb
  simp only [IntKind.wrap_u32, bne_eq_false_iff_eq]
  omega

theorem fact_xor {a b : Int} (ha : isU a) (hb : isU b) : (IntKind.u32.wrap ((BitVec.ofInt 32 b ^^^ BitVec.ofInt 32 (IntKind.u32.wrap ((BitVec.ofInt 32 a ^^^ BitVec.ofInt 32 b).toNat : Int))).toNat : Int) != a) = false := by
  have e : BitVec.ofInt 32 (IntKind.u32.wrap ((BitVec.ofInt 32 a ^^^ BitVec.ofInt 32 b).toNat : Int)) = BitVec.ofInt 32 a ^^^ BitVec.ofInt 32 b := by
    apply BitVec.eq_of_toNat_eq
    have := (BitVec.ofInt 32 a ^^^ BitVec.ofInt 32 b).isLt
    rw [bv_nat]
    · rw [IntKind.wrap_u32]; omega
    · rw [IntKind.wrap_u32]; constructor <;> omega
  rw [e, BitVec.xor_comm (BitVec.ofInt 32 a), ← BitVec.xor_assoc, BitVec.xor_self, BitVec.zero_xor, bv_nat ha]
  obtain ⟨h1, h2⟩ := ha
  simp only [IntKind.wrap_u32, bne_eq_false_iff_eq]
  omega

theorem fact_min {a b : Int} (ha : isU a) (hb : isU b) : (IntKind.u32.wrap (IntKind.u32.wrap (if IntKind.i32.wrap b > IntKind.i32.wrap a then IntKind.i32.wrap b else IntKind.i32.wrap a) + IntKind.u32.wrap (if IntKind.i32.wrap b < IntKind.i32.wrap a then IntKind.i32.wrap b else IntKind.i32.wrap a)) != IntKind.u32.wrap (a + b)) = false := by
  obtain ⟨h1, h2⟩ := ha
  obtain ⟨h3, h4⟩ := hb
  simp only [IntKind.wrap_u32, IntKind.wrap_i32, bne_eq_false_iff_eq]
  split <;> split <;> omega

/-- A double cell, negated. -/
theorem or_high {h l : Int} (hh : 0 ≤ h ∧ h ≤ 4294967295) (hl : isU l) : ((BitVec.ofInt 64 (h * 4294967296) ||| BitVec.ofInt 64 l).toNat : Int) = h * 4294967296 + l := by
  obtain ⟨h1, h2⟩ := hh
  obtain ⟨h3, h4⟩ := hl
  rw [BitVec.toNat_or, BitVec.toNat_ofInt, BitVec.toNat_ofInt]
  have e1 : (h * 4294967296 % ((2 ^ 64 : Nat) : Int)).toNat = 2 ^ 32 * h.toNat := by omega
  have e2 : (l % ((2 ^ 64 : Nat) : Int)).toNat = l.toNat := by omega
  rw [e1, e2, ← Nat.two_pow_add_eq_or_of_lt (i := 32) (by omega)]
  omega

theorem dneg_1 {l h : Int} (hh : isU h) (hl : isU l) : IntKind.u64.wrap (0 - IntKind.u64.wrap ((BitVec.ofInt 64 (IntKind.u64.wrap (IntKind.u64.wrap h * 4294967296)) ||| BitVec.ofInt 64 (IntKind.u64.wrap l)).toNat : Int)) =
    (0 - (h * 4294967296 + l)) % 18446744073709551616 := by
  have w : ∀ x : Int, IntKind.u64.wrap x = x % 18446744073709551616 := fun x => by
    simp [IntKind.wrap, IntKind.bits, IntKind.signed]
  obtain ⟨h1, h2⟩ := hh
  obtain ⟨h3, h4⟩ := hl
  have e1 : IntKind.u64.wrap (IntKind.u64.wrap h * 4294967296) = h * 4294967296 := by rw [w, w]; omega
  have e2 : IntKind.u64.wrap l = l := by rw [w]; omega
  rw [e1, e2, or_high ⟨h1, h2⟩ ⟨h3, h4⟩, w, w]
  omega

/-- The low cell of what a double cell is, negated twice. -/
theorem fact_dneg {h b : Int} (hh : isU h) (hb : isU b) : (IntKind.u32.wrap (IntKind.u64.wrap (0 - IntKind.u64.wrap ((BitVec.ofInt 64 (IntKind.u64.wrap (IntKind.u64.wrap (IntKind.u32.wrap ((IntKind.u64.wrap (0 - IntKind.u64.wrap
      ((BitVec.ofInt 64 (IntKind.u64.wrap (IntKind.u64.wrap h * 4294967296)) ||| BitVec.ofInt 64 (IntKind.u64.wrap b)).toNat : Int))).fdiv 4294967296)) * 4294967296)) |||
    BitVec.ofInt 64 (IntKind.u64.wrap (IntKind.u32.wrap (IntKind.u64.wrap (0 - IntKind.u64.wrap ((BitVec.ofInt 64 (IntKind.u64.wrap (IntKind.u64.wrap h * 4294967296)) ||| BitVec.ofInt 64 (IntKind.u64.wrap b)).toNat : Int)))))).toNat : Int))) != b) = false := by
  rw [dneg_1 hh hb]
  have r1 : isU (IntKind.u32.wrap (((0 - (h * 4294967296 + b)) % 18446744073709551616).fdiv 4294967296)) := by rw [IntKind.wrap_u32]; constructor <;> omega
  have r2 : isU (IntKind.u32.wrap ((0 - (h * 4294967296 + b)) % 18446744073709551616)) := by rw [IntKind.wrap_u32]; constructor <;> omega
  rw [dneg_1 r1 r2, IntKind.wrap_u32, IntKind.wrap_u32, IntKind.wrap_u32]
  obtain ⟨h3, h4⟩ := hb
  simp only [bne_eq_false_iff_eq]
  omega

theorem back_1 {b : Int} (hb : isU b) : IntKind.u32.wrap (IntKind.u32.wrap (b + 1) - 1) = b := by
  obtain ⟨h3, h4⟩ := hb
  rw [IntKind.wrap_u32, IntKind.wrap_u32]
  omega

theorem wrap_isU (x : Int) : isU (IntKind.u32.wrap x) := by rw [IntKind.wrap_u32]; constructor <;> omega

end Go.Proofs.Ytnoonoghemgbbaa.Sx
