/-
  The plain primitives: part 7: without stacks and memory each primitive throws.
-/
import Derived.Test.YtnoonoghemgbbaaPl6
set_option linter.unusedVariables false
set_option linter.unusedSimpArgs false
set_option maxRecDepth 100000
namespace Go.Proofs.Ytnoonoghemgbbaa.Sx
open Go

abbrev nilp : AV := .cell (.ptr true NIL 0 0)
abbrev i32 (n : Int) : AV := .cell (.int .i32 n)
noncomputable abbrev nrun (n : Int) (d : Dec) := quietE (E s5 14 [.cell (.int .u32 n), nilp, nilp, nilp] [] d)

def nilDecs : List Dec := [
  [0, 1, 1, 0, 0, 0, 0, 0, 0, 1, 0, 0, 0, 0, 0, 1, 0, 0, 1, 1, 0, 0, 0, 0, 0, 1, 1, 1],
  [0, 1, 1, 0, 0, 1, 1, 0, 1, 1, 1, 1, 1, 0, 1, 0, 0, 0, 0, 0, 1, 1, 1, 1],
  [0, 1, 1, 0, 0, 0, 1, 1, 1, 3, 0, 1, 1, 0, 0, 0, 0, 0, 1, 0, 0, 1, 1, 0, 0, 0, 0, 0, 1, 1, 1],
  [0, 1, 1, 0, 0, 0, 0, 1, 1, 0, 1, 1, 1, 1, 1, 0, 1, 0, 0, 0, 0, 0, 1, 1, 1, 1],
  [0, 1, 1, 0, 0, 0, 0, 0, 1, 0, 1, 1, 1, 1, 1, 0, 1, 0, 0, 0, 0, 0, 1, 1, 1, 1]]
def nilKind : List Nat := [0, 0, 0, 0, 0, 1, 0, 0, 0, 0, 0, 0, 2, 3, 4, 0, 0, 0, 0, 0, 0, 0, 0, 0, 0, 0, 0, 0, 0, 0, 0, 0, 0, 0, 0, 0, 0, 0, 0, 0, 0, 0, 0, 0, 0, 0, 0, 0, 0, 0, 0, 0, 0, 0, 0, 0, 0, 0, 0, 0, 0, 0, 0, 0, 0, 0, 0, 0, 0, 0, 0, 0, 0]
def nilDec (i : Nat) : Dec := nilDecs.getD (nilKind.getD i 0) []

theorem nil_plain : (List.range 73).map (fun i => said [] (nrun ((i + 1 : Nat) : Int) (nilDec i))) = (List.range 73).map (fun _ => some ([], i32 (-4), [])) := by kernel_rfl
theorem nil_plain' : (List.range 73).map (fun i => leftOf [] (nrun ((i + 1 : Nat) : Int) (nilDec i))) = (List.range 73).map (fun i => rightOf [] (nrun ((i + 1 : Nat) : Int) (nilDec i))) := by kernel_rfl

theorem nil_other (n : Int) : Good (nrun n [1, 1, 1, 0, 1]) [0, 4] [101 ≤ n ∧ n ≤ 140, decide (n > 73) = true] (i32 (-13), []) := ⟨by kernel_rfl, by kernel_rfl⟩
theorem nil_none (n : Int) : Good (nrun n [2, 0, 0, 1, 1]) [0] [n ≤ 4294967295 ∧ ¬(1 ≤ n ∧ n ≤ 73) ∧ ¬(101 ≤ n ∧ n ≤ 140)] (i32 (-13), []) := ⟨by kernel_rfl, by kernel_rfl⟩

def doNilG : List AV → Option (List QWay)
  | [.cell (.int .u32 n), .cell (.ptr true 1000000007 0 0), .cell (.ptr true 1000000007 0 0), .cell (.ptr true 1000000007 0 0)] => some [
      ⟨[cd (1 ≤ n ∧ n ≤ 73)], decide (1 ≤ n) && decide (n ≤ 73), i32 (-4)⟩,
      ⟨[cd (n ≤ 4294967295 ∧ ¬(1 ≤ n ∧ n ≤ 73))], true, i32 (-13)⟩]
  | _ => none

theorem doNil_ok : Valid Try.prog 14 (quietSum (D := Nob) doNilG) := quiet_of fun args l h => by
  unfold doNilG at h
  split at h
  · rename_i n
    cases h
    have hv := E_valid s5_ok 14
    refine ⟨rfl, fun h => ⟨rfl, ?_⟩, fun h => ⟨rfl, ?_⟩, trivial⟩
    · obtain ⟨⟨h1, h2⟩, _⟩ := h
      obtain ⟨i, rfl⟩ : ∃ i : Nat, n = ((i + 1 : Nat) : Int) := ⟨(n - 1).toNat, by omega⟩
      have hi : i < 73 := by omega
      exact (Good.mk (map_at nil_plain (List.mem_range.2 hi)) (map_at nil_plain' (List.mem_range.2 hi))).quiet hv trivial
    · obtain ⟨⟨h1, h2⟩, _⟩ := h
      by_cases h3 : 101 ≤ n ∧ n ≤ 140
      · exact (nil_other n).quiet hv ⟨h3, by simp; omega, trivial⟩
      · exact (nil_none n).quiet hv ⟨⟨h1, h2, h3⟩, trivial⟩
  · cases h

end Go.Proofs.Ytnoonoghemgbbaa.Sx
