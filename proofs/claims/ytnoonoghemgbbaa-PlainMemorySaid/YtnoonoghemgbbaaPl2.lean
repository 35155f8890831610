/-
  The plain primitives: part 2: a primitive's row by its number.
-/
import Derived.Test.YtnoonoghemgbbaaPl1
import Derived.Laws.Small
set_option linter.unusedVariables false
set_option linter.unusedSimpArgs false
set_option maxRecDepth 100000
namespace Go.Proofs.Ytnoonoghemgbbaa.Sx
open Go

theorem wrap_i64 {x : Int} (h1 : -9223372036854775808 ≤ x) (h2 : x ≤ 9223372036854775807) : IntKind.i64.wrap x = x := by rw [IntKind.wrap_i64]; omega
theorem wrap_u32 {x : Int} (h1 : 0 ≤ x) (h2 : x ≤ 4294967295) : IntKind.u32.wrap x = x := by rw [IntKind.wrap_u32]; omega
theorem wrap_u8 {x : Int} (h1 : 0 ≤ x) (h2 : x ≤ 255) : IntKind.u8.wrap x = x := by rw [IntKind.wrap_u8]; omega
theorem wrap_i32 {x : Int} (h1 : -2147483648 ≤ x) (h2 : x ≤ 2147483647) : IntKind.i32.wrap x = x := by rw [IntKind.wrap_i32]; omega

abbrev s1 : List (Nat × Sum Nob) := [(35, quietSum tableG)]
theorem s1_ok : AllV Try.prog s1 := ⟨table_ok, trivial⟩

def noRow : AV := .tup [.agg [.int .u32 0, .str [], .int .i64 0, .int .i64 0, .int .i64 0, .bool false, .bool false], .cell (.bool false)]
def isRow (i : Nat) : AV := .tup [.agg (pRow i), .cell (.bool true)]

theorem get_1 (n : Int) : Good (quietE (E s1 17 [.cell (.int .u32 n)] [] [0, 0, 0, 0, 0, 0, 0, 0, 0, 0, 0, 0, 0, 0])) [0, 0, 0, 1, 0, 0, 0, 0, 0, 0, 0] [(decide (n ≥ (1 : Int)) == true) = false, (decide (n ≥ (1 : Int)) == true) = false, decide (n ≥ (1 : Int)) = false, (decide (n ≥ (101 : Int)) == true) = false, (decide (n ≥ (101 : Int)) == true) = false, (decide (n ≥ (101 : Int)) == true) = false, (decide (n ≥ (101 : Int)) == true) = false, (decide (n ≥ (101 : Int)) == true) = false, (decide (n ≥ (101 : Int)) == true) = false, (decide (n ≥ (101 : Int)) == true) = false, decide (n ≥ (101 : Int)) = false]
    (noRow, []) := ⟨by kernel_rfl, by kernel_rfl⟩

theorem get_2 (n : Int) : Good (quietE (E s1 17 [.cell (.int .u32 n)] [] [1, 1, 1, 1, 1, 0, 0])) [0, 0, 0, 0, 0, 0] [(decide (n ≥ (1 : Int)) == true) = true, (decide (n ≥ (1 : Int)) == true) = true, decide (n ≥ (1 : Int)) = true, decide (n ≤ (73 : Int)) = true, decide (IntKind.i64.wrap (IntKind.i64.wrap n - (1 : Int)) ≥ (0 : Int)) = true, (0 : Int) ≤ IntKind.i64.wrap (IntKind.i64.wrap n - (1 : Int)) ∧ IntKind.i64.wrap (IntKind.i64.wrap n - (1 : Int)) < (↑(113 : Nat) : Int) ∧ pTable.length = (113 : Nat) * 7 ∧ (0 : Nat) < 7]
    (isRow (IntKind.i64.wrap (IntKind.i64.wrap n - (1 : Int))).toNat, []) := ⟨by kernel_rfl, by kernel_rfl⟩

theorem get_3 (n : Int) : Good (quietE (E s1 17 [.cell (.int .u32 n)] [] [1, 1, 1, 0, 0, 0, 0, 0, 0, 0, 0, 0, 0, 0])) [0, 0, 0, 0, 0, 0, 0, 0, 0, 0, 0, 0] [(decide (n ≥ (1 : Int)) == true) = true, (decide (n ≥ (1 : Int)) == true) = true, decide (n ≥ (1 : Int)) = true, decide (n ≤ (73 : Int)) = false, (decide (n ≥ (101 : Int)) == true) = false, (decide (n ≥ (101 : Int)) == true) = false, (decide (n ≥ (101 : Int)) == true) = false, (decide (n ≥ (101 : Int)) == true) = false, (decide (n ≥ (101 : Int)) == true) = false, (decide (n ≥ (101 : Int)) == true) = false, (decide (n ≥ (101 : Int)) == true) = false, decide (n ≥ (101 : Int)) = false]
    (noRow, []) := ⟨by kernel_rfl, by kernel_rfl⟩

theorem get_4 (n : Int) : Good (quietE (E s1 17 [.cell (.int .u32 n)] [] [1, 1, 1, 0, 1, 1, 0, 1, 1, 1, 1, 1, 1, 1, 1, 0, 0])) [0, 0, 0, 0, 0, 0, 0, 0, 0, 0, 1, 0, 0, 1, 0] [(decide (n ≥ (1 : Int)) == true) = true, (decide (n ≥ (1 : Int)) == true) = true, decide (n ≥ (1 : Int)) = true, decide (n ≤ (73 : Int)) = false, (decide (n ≥ (101 : Int)) == true) = true, (decide (n ≥ (101 : Int)) == true) = true, (decide (n ≥ (101 : Int)) == true) = true, (decide (n ≥ (101 : Int)) == true) = true, (decide (n ≥ (101 : Int)) == true) = true, (decide (n ≥ (101 : Int)) == true) = true, (decide (n ≥ (101 : Int)) == true) = true, decide (n ≥ (101 : Int)) = true, decide (n < 141) = true, decide (IntKind.i64.wrap (IntKind.i64.wrap (IntKind.i64.wrap n - (101 : Int)) + (73 : Int)) ≥ (0 : Int)) = true, (0 : Int) ≤ IntKind.i64.wrap (IntKind.i64.wrap (IntKind.i64.wrap n - (101 : Int)) + (73 : Int)) ∧ IntKind.i64.wrap (IntKind.i64.wrap (IntKind.i64.wrap n - (101 : Int)) + (73 : Int)) < (↑(113 : Nat) : Int) ∧ pTable.length = (113 : Nat) * 7 ∧ (0 : Nat) < 7]
    (isRow (IntKind.i64.wrap (IntKind.i64.wrap (IntKind.i64.wrap n - (101 : Int)) + (73 : Int))).toNat, []) := ⟨by kernel_rfl, by kernel_rfl⟩

theorem get_5 (n : Int) : Good (quietE (E s1 17 [.cell (.int .u32 n)] [] [1, 1, 1, 0, 1, 1, 0, 1, 1, 1, 1, 1, 1, 0, 0])) [0, 0, 0, 0, 0, 0, 0, 0, 0, 0, 1, 0, 0] [(decide (n ≥ (1 : Int)) == true) = true, (decide (n ≥ (1 : Int)) == true) = true, decide (n ≥ (1 : Int)) = true, decide (n ≤ (73 : Int)) = false, (decide (n ≥ (101 : Int)) == true) = true, (decide (n ≥ (101 : Int)) == true) = true, (decide (n ≥ (101 : Int)) == true) = true, (decide (n ≥ (101 : Int)) == true) = true, (decide (n ≥ (101 : Int)) == true) = true, (decide (n ≥ (101 : Int)) == true) = true, (decide (n ≥ (101 : Int)) == true) = true, decide (n ≥ (101 : Int)) = true, decide (n < 141) = false]
    (noRow, []) := ⟨by kernel_rfl, by kernel_rfl⟩

theorem pTable_length : pTable.length = 113 * 7 := by kernel_rfl

/-- A primitive by its number. -/
def getG : List AV → Option (List QWay)
  | [.cell (.int .u32 n)] => some [
      ⟨[cd (1 ≤ n ∧ n ≤ 73)], decide (1 ≤ n) && decide (n ≤ 73), isRow (n - 1).toNat⟩,
      ⟨[cd (101 ≤ n ∧ n ≤ 140)], decide (101 ≤ n) && decide (n ≤ 140), isRow (n - 28).toNat⟩,
      ⟨[cd (n ≤ 4294967295 ∧ ¬ (1 ≤ n ∧ n ≤ 73) ∧ ¬ (101 ≤ n ∧ n ≤ 140))], true, noRow⟩]
  | _ => none

theorem row_flat (i : Nat) : flatV (isRow i) = true := rfl

theorem get_ok : Valid Try.prog 17 (quietSum (D := Nob) getG) := quiet_of fun args l h => by
  unfold getG at h
  split at h
  · rename_i n
    cases h
    have hv := E_valid s1_ok 17
    refine ⟨rfl, fun h => ⟨rfl, ?_⟩, fun h => ⟨rfl, ?_⟩, fun h => ⟨rfl, ?_⟩, trivial⟩
    · obtain ⟨⟨h1, h2⟩, _⟩ := h
      have e : IntKind.i64.wrap (IntKind.i64.wrap n - 1) = n - 1 := by rw [wrap_i64 (x := n) (by omega) (by omega), wrap_i64 (by omega) (by omega)]
      have := (get_2 n).quiet hv (by rw [e]; simp only [AllP, pTable_length]; simp; omega)
      rwa [e] at this
    · obtain ⟨⟨h1, h2⟩, _⟩ := h
      have e : IntKind.i64.wrap (IntKind.i64.wrap (IntKind.i64.wrap n - (101 : Int)) + (73 : Int)) = n - 28 := by
        rw [wrap_i64 (x := n) (by omega) (by omega), wrap_i64 (x := n - 101) (by omega) (by omega), wrap_i64 (by omega) (by omega)]; omega
      have := (get_4 n).quiet hv (by rw [e]; simp only [AllP, pTable_length]; simp; omega)
      rwa [e] at this
    · obtain ⟨⟨h0, h1, h2⟩, _⟩ := h
      by_cases c1 : n < 1
      · exact (get_1 n).quiet hv (by simp only [AllP]; simp; omega)
      · by_cases c2 : n < 101
        · exact (get_3 n).quiet hv (by simp only [AllP]; simp; omega)
        · exact (get_5 n).quiet hv (by simp only [AllP]; simp; omega)
  · cases h

end Go.Proofs.Ytnoonoghemgbbaa.Sx
