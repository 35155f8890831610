/-
  Numbers of 32 bits: quotient and remainder of signed ones. (No program is in sight but for the numbers' own words.)
-/
import Derived.Test.YtnoonoghemgbbaaPa1
namespace Go.Proofs.Ytnoonoghemgbbaa.Sx
open Go

/-- The signed number of a cell. -/
theorem sgn_range (a : Int) : -2147483648 ≤ IntKind.i32.wrap a ∧ IntKind.i32.wrap a ≤ 2147483647 := by
  rw [IntKind.wrap_i32]; constructor <;> omega

theorem sgn_eq {a : Int} (ha : isU a) : (a < 2147483648 ∧ IntKind.i32.wrap a = a) ∨ (2147483648 ≤ a ∧ IntKind.i32.wrap a = a - 4294967296) := by
  obtain ⟨h1, h2⟩ := ha
  rw [IntKind.wrap_i32]; omega

theorem i64_small {x : Int} (h1 : -9223372036854775808 ≤ x) (h2 : x ≤ 9223372036854775807) : IntKind.i64.wrap x = x := by rw [IntKind.wrap_i64]; omega
theorem i32_small {x : Int} (h1 : -2147483648 ≤ x) (h2 : x ≤ 2147483647) : IntKind.i32.wrap x = x := by rw [IntKind.wrap_i32]; omega

theorem sign_ext {a : Int} (ha : isU a) :
    IntKind.i64.wrap (IntKind.u64.wrap ((BitVec.ofInt 64 (IntKind.u64.wrap (IntKind.u64.wrap (IntKind.u32.wrap ((IntKind.i32.wrap a).fdiv 2147483648)) * 4294967296)) ||| BitVec.ofInt 64 (IntKind.u64.wrap a)).toNat : Int)) = IntKind.i32.wrap a := by
  have w : ∀ x : Int, IntKind.u64.wrap x = x % 18446744073709551616 := fun x => by simp [IntKind.wrap, IntKind.bits, IntKind.signed]
  have hu : IntKind.u32.wrap ((IntKind.i32.wrap a).fdiv 2147483648) = if a < 2147483648 then 0 else 4294967295 := by
    rw [IntKind.wrap_u32, Int.fdiv_eq_ediv_of_nonneg _ (by omega)]
    rcases sgn_eq ha with ⟨h1, h2⟩ | ⟨h1, h2⟩ <;> rw [h2]
    · rw [if_pos h1]; obtain ⟨h3, h4⟩ := ha; omega
    · rw [if_neg (by omega)]; obtain ⟨h3, h4⟩ := ha; omega
  rw [hu]
  obtain ⟨h3, h4⟩ := ha
  have e2 : IntKind.u64.wrap a = a := by rw [w]; omega
  by_cases hlt : a < 2147483648
  · rw [if_pos hlt]
    have e1 : IntKind.u64.wrap (IntKind.u64.wrap 0 * 4294967296) = 0 * 4294967296 := by rw [w, w]; omega
    rw [e1, e2, or_high ⟨by omega, by omega⟩ ⟨h3, h4⟩, w, IntKind.wrap_i64, IntKind.wrap_i32]
    omega
  · rw [if_neg hlt]
    have e1 : IntKind.u64.wrap (IntKind.u64.wrap 4294967295 * 4294967296) = 4294967295 * 4294967296 := by rw [w, w]; omega
    rw [e1, e2, or_high ⟨by omega, by omega⟩ ⟨h3, h4⟩, w, IntKind.wrap_i64, IntKind.wrap_i32]
    omega

theorem tdiv_bound {A B : Int} (h1 : -2147483648 ≤ A) (h2 : A ≤ 2147483647) : -2147483648 ≤ A.tdiv B ∧ A.tdiv B ≤ 2147483648 := by
  have h : (A.tdiv B).natAbs = A.natAbs / B.natAbs := Int.natAbs_tdiv A B
  have h3 : A.natAbs / B.natAbs ≤ A.natAbs := Nat.div_le_self _ _
  omega

theorem tdiv_top {A B : Int} (h1 : -2147483648 ≤ A) (h2 : A ≤ 2147483647) (hB : B ≠ 0) (h : A.tdiv B = 2147483648) : A = -2147483648 ∧ B = -1 := by
  have hn : (A.tdiv B).natAbs = A.natAbs / B.natAbs := Int.natAbs_tdiv A B
  have h3 : A.natAbs / B.natAbs * B.natAbs ≤ A.natAbs := Nat.div_mul_le_self _ _
  rw [← hn, h] at h3
  have e : (2147483648 : Int).natAbs = 2147483648 := rfl
  rw [e] at h3
  have hb : 1 ≤ B.natAbs := by omega
  have hA : A.natAbs ≤ 2147483648 := by omega
  have hb1 : B.natAbs = 1 := by
    rcases Nat.lt_or_ge B.natAbs 2 with hlt | hge
    · omega
    · have : 2147483648 * 2 ≤ 2147483648 * B.natAbs := Nat.mul_le_mul_left _ hge
      omega
  have hA2 : A = -2147483648 := by rw [hb1] at h3; omega
  refine ⟨hA2, ?_⟩
  rcases Int.natAbs_eq B with hB1 | hB1
  · rw [hb1] at hB1; rw [hA2, hB1] at h; simp at h
  · rw [hb1] at hB1; exact hB1

theorem tdiv_low {A B : Int} (h1 : -2147483648 ≤ A) (h2 : A ≤ 2147483647) (hB : B ≠ 0) (h : A.tdiv B = -2147483648) : A.tmod B = 0 := by
  have hn : (A.tdiv B).natAbs = A.natAbs / B.natAbs := Int.natAbs_tdiv A B
  have h3 : A.natAbs / B.natAbs * B.natAbs ≤ A.natAbs := Nat.div_mul_le_self _ _
  rw [← hn, h] at h3
  have e : (-2147483648 : Int).natAbs = 2147483648 := rfl
  rw [e] at h3
  have hb : 1 ≤ B.natAbs := by omega
  have hA : A.natAbs ≤ 2147483648 := by omega
  have hb1 : B.natAbs = 1 := by
    rcases Nat.lt_or_ge B.natAbs 2 with hlt | hge
    · omega
    · have : 2147483648 * 2 ≤ 2147483648 * B.natAbs := Nat.mul_le_mul_left _ hge
      omega
  rcases Int.natAbs_eq B with hB1 | hB1 <;> rw [hb1] at hB1 <;> rw [hB1] <;> simp

theorem tmod_bound {A B : Int} (hB : B ≠ 0) : (A.tmod B).natAbs < B.natAbs := by
  rw [Int.natAbs_tmod]; exact Nat.mod_lt _ (by omega)

/-- What is left and the quotient, put together again. -/
theorem put_back {a b r q : Int} (ha : isU a) (hb : isU b) (hr : -2147483648 ≤ r ∧ r ≤ 2147483647) (hq : -2147483648 ≤ q ∧ q ≤ 2147483647) (h : IntKind.i32.wrap a = IntKind.i32.wrap b * q + r) :
    (IntKind.u32.wrap (IntKind.u32.wrap (IntKind.i32.wrap r) + IntKind.u32.wrap (IntKind.u32.wrap (IntKind.i32.wrap (IntKind.i64.wrap q)) * b)) != a) = false := by
  rw [i64_small (by omega) (by omega), i32_small hr.1 hr.2, i32_small hq.1 hq.2]
  simp only [IntKind.wrap_u32, bne_eq_false_iff_eq]
  have e : (r % 4294967296 + q % 4294967296 * b % 4294967296) % 4294967296 = (r + q * b) % 4294967296 := by
    rw [← Int.add_emod, Int.add_emod, Int.mul_emod, Int.emod_emod, ← Int.mul_emod, ← Int.add_emod]
  rw [e]
  obtain ⟨ka, hka⟩ : ∃ k, IntKind.i32.wrap a = a - 4294967296 * k := by
    rcases sgn_eq ha with ⟨_, h2⟩ | ⟨_, h2⟩
    · exact ⟨0, by rw [h2]; omega⟩
    · exact ⟨1, by rw [h2]; omega⟩
  obtain ⟨kb, hkb⟩ : ∃ k, b = IntKind.i32.wrap b + 4294967296 * k := by
    rcases sgn_eq hb with ⟨_, h2⟩ | ⟨_, h2⟩
    · exact ⟨0, by rw [h2]; omega⟩
    · exact ⟨1, by rw [h2]; omega⟩
  have e2 : r + q * b = a + 4294967296 * (q * kb - ka) := by
    have : q * b = IntKind.i32.wrap b * q + 4294967296 * (q * kb) := by
      conv => lhs; rw [hkb]
      rw [Int.mul_add, Int.mul_comm q, Int.mul_left_comm]
    rw [this, Int.mul_sub]
    omega
  rw [e2, Int.add_mul_emod_self_left]
  obtain ⟨h3, h4⟩ := ha
  omega

end Go.Proofs.Ytnoonoghemgbbaa.Sx
