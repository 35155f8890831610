import Derived.Test.YtnoonoghemgbbaaOr9
/-
  Do over stacks, way by way (printed by the explorer; wip/plain/gendoo.py): bits, double cells.
-/
set_option maxRecDepth 100000
set_option linter.unusedVariables false
set_option linter.unusedSimpArgs false
namespace Go.Proofs.Ytnoonoghemgbbaa.Sx
open Go

theorem do32_1 (cs : List Int) (m o u : Int) : Good (evo 14 [.cell (.int .u32 32), sp, anyP, anyP] [stO cs m o u] [0, 1, 1, 0, 0, 0, 0, 0, 0, 0, 0, 0, 0, 0, 0, 1, 0, 0, 1, 0, 0, 0, 0, 0, 0, 0, 0, 0, 0, 0, 0, 0, 0, 0, 0, 0, 1, 0, 0, 0, 0, 0, 0, 0, 0, 0, 0, 0, 0, 0, 0, 0, 0, 0, 0, 0, 0, 0, 0, 0, 0, 0, 1, 5, 0, 1, 0, 6, 1, 6, 0, 0, 0, 0, 0, 0]) [18, 12, 6, 58, 1, 2] [(0 : Int) ≤ (2 : Int) ∧ (2 : Int) ≤ (↑cs.length : Int) ∧ (0 : Int) ≤ (2 : Int) ∧ (2 : Int) ≤ m - ((↑cs.length : Int) - (2 : Int)), (0 : Int) ≤ (1 : Int) ∧ (1 : Int) < (↑cs.length : Int), (0 : Int) ≤ (0 : Int) ∧ (0 : Int) < (↑cs.length : Int), (0 : Int) ≤ IntKind.i64.wrap ((↑cs.length : Int) - (2 : Int)) ∧ IntKind.i64.wrap ((↑cs.length : Int) - (2 : Int)) ≤ (↑cs.length : Int), (0 : Int) ≤ IntKind.i64.wrap ((↑cs.length : Int) - (2 : Int)) ∧ IntKind.i64.wrap ((↑cs.length : Int) - (2 : Int)) ≤ (↑cs.length : Int), (2 : Nat) ≤ (2 : Nat) ∧ (2 : Int) ≤ m - (↑(List.take (IntKind.i64.wrap ((↑cs.length : Int) - (2 : Int))).toNat cs).length : Int)] (AV.cell (Cell.int IntKind.i32 (0 : Int)), [some (Blk.obj (Ob.ab (Ab.stk (List.take (IntKind.i64.wrap ((↑cs.length : Int) - (2 : Int))).toNat cs ++ [IntKind.u32.wrap (IntKind.u64.wrap (IntKind.u64.wrap (top cs 1) * IntKind.u64.wrap (top cs 0))), IntKind.u32.wrap ((IntKind.u64.wrap (IntKind.u64.wrap (top cs 1) * IntKind.u64.wrap (top cs 0))).fdiv (4294967296 : Int))]) m o u)))], (0 : Nat), []) := ⟨by kernel_rfl, by kernel_rfl⟩

theorem do32_2 (cs : List Int) (m o u : Int) : Good (evo 14 [.cell (.int .u32 32), sp, anyP, anyP] [stO cs m o u] [0, 1, 1, 0, 0, 0, 0, 0, 0, 1, 1]) [18, 0] [(↑cs.length : Int) < (2 : Int) ∧ (2 : Int) ≤ (65536 : Int), (u != (0 : Int)) = true] (AV.cell (Cell.int IntKind.i32 u), [some (Blk.obj (Ob.ab (Ab.stk cs m o u)))], (1 : Nat), []) := ⟨by kernel_rfl, by kernel_rfl⟩

theorem do32_3 (cs : List Int) (m o u : Int) : Good (evo 14 [.cell (.int .u32 32), sp, anyP, anyP] [stO cs m o u] [0, 1, 1, 0, 0, 0, 0, 0, 0, 2, 1]) [18, 0] [(0 : Int) ≤ (2 : Int) ∧ (2 : Int) ≤ (↑cs.length : Int) ∧ (0 : Int) ≤ (2 : Int) ∧ m - ((↑cs.length : Int) - (2 : Int)) < (2 : Int), (o != (0 : Int)) = true] (AV.cell (Cell.int IntKind.i32 o), [some (Blk.obj (Ob.ab (Ab.stk cs m o u)))], (1 : Nat), []) := ⟨by kernel_rfl, by kernel_rfl⟩

def out32 (cs : List Int) : List Int := [IntKind.u32.wrap (IntKind.u64.wrap (IntKind.u64.wrap (top cs 1) * IntKind.u64.wrap (top cs 0))), IntKind.u32.wrap ((IntKind.u64.wrap (IntKind.u64.wrap (top cs 1) * IntKind.u64.wrap (top cs 0))).fdiv (4294967296 : Int))]

theorem row32 : DoRow 32 2 2 out32 := by
  refine ⟨fun cs m o u hc h1 h2 => CanOk.knows (j := 0) rfl fun hk => ?_, fun cs m o u h => CanOk.knows (j := 0) rfl fun hk => ?_, fun cs m o u h1 h2 => CanOk.knows (j := 0) rfl fun hk => ?_⟩
  · obtain ⟨i1, i2, i3, i4, i5⟩ := stk_inv hk
    have e : IntKind.i64.wrap ((cs.length : Int) - (2 : Int)) = (cs.length : Int) - (2 : Int) := wrap_len (by omega) (by omega) (by omega)
    have e2 : ((cs.length : Int) - (2 : Int)).toNat = cs.length - 2 := by omega
    have g := do32_1 cs m o u
    simp only [e, e2] at g
    have h := g.canT (E_valid sO_ok 14) (Nat.le_refl 1) (by ((simp only [AllP, and_true]; repeat' apply And.intro) <;> first | trivial | omega | exact ne_true (by assumption) | exact (top_ok (by assumption) _).1 | (simp only [List.length_take, List.length_append, List.length_cons, List.length_nil]; omega)))
    first
      | exact h
      | (have e3 := List.append_nil (cs.take (cs.length - 2)); rw [← e3] at h; exact h)
  · obtain ⟨i1, i2, i3, i4, i5⟩ := stk_inv hk
    exact (do32_2 cs m o u).canT (E_valid sO_ok 14) (Nat.le_refl 1) (by ((simp only [AllP, and_true]; repeat' apply And.intro) <;> first | trivial | omega | exact ne_true (by assumption) | exact (top_ok (by assumption) _).1 | (simp only [List.length_take, List.length_append, List.length_cons, List.length_nil]; omega)))
  · obtain ⟨i1, i2, i3, i4, i5⟩ := stk_inv hk
    exact (do32_3 cs m o u).canT (E_valid sO_ok 14) (Nat.le_refl 1) (by ((simp only [AllP, and_true]; repeat' apply And.intro) <;> first | trivial | omega | exact ne_true (by assumption) | exact (top_ok (by assumption) _).1 | (simp only [List.length_take, List.length_append, List.length_cons, List.length_nil]; omega)))

theorem do33_1 (cs : List Int) (m o u : Int) : Good (evo 14 [.cell (.int .u32 33), sp, anyP, anyP] [stO cs m o u] [0, 1, 1, 0, 0, 0, 0, 0, 0, 0, 0, 0, 0, 0, 0, 1, 0, 0, 1, 0, 0, 0, 0, 0, 0, 0, 0, 0, 0, 0, 0, 0, 0, 0, 0, 0, 1, 0, 0, 0, 0, 0, 0, 0, 0, 0, 0, 0, 0, 0, 0, 0, 0, 0, 0, 0, 0, 0, 0, 0, 0, 0, 0, 1, 5, 0, 1, 0, 6, 1, 6, 0, 0, 0, 0, 0, 0]) [18, 12, 6, 59, 1, 2] [(0 : Int) ≤ (2 : Int) ∧ (2 : Int) ≤ (↑cs.length : Int) ∧ (0 : Int) ≤ (2 : Int) ∧ (2 : Int) ≤ m - ((↑cs.length : Int) - (2 : Int)), (0 : Int) ≤ (1 : Int) ∧ (1 : Int) < (↑cs.length : Int), (0 : Int) ≤ (0 : Int) ∧ (0 : Int) < (↑cs.length : Int), (0 : Int) ≤ IntKind.i64.wrap ((↑cs.length : Int) - (2 : Int)) ∧ IntKind.i64.wrap ((↑cs.length : Int) - (2 : Int)) ≤ (↑cs.length : Int), (0 : Int) ≤ IntKind.i64.wrap ((↑cs.length : Int) - (2 : Int)) ∧ IntKind.i64.wrap ((↑cs.length : Int) - (2 : Int)) ≤ (↑cs.length : Int), (2 : Nat) ≤ (2 : Nat) ∧ (2 : Int) ≤ m - (↑(List.take (IntKind.i64.wrap ((↑cs.length : Int) - (2 : Int))).toNat cs).length : Int)] (AV.cell (Cell.int IntKind.i32 (0 : Int)), [some (Blk.obj (Ob.ab (Ab.stk (List.take (IntKind.i64.wrap ((↑cs.length : Int) - (2 : Int))).toNat cs ++ [IntKind.u32.wrap (IntKind.u64.wrap (IntKind.i64.wrap (IntKind.i64.wrap (IntKind.i32.wrap (top cs 1)) * IntKind.i64.wrap (IntKind.i32.wrap (top cs 0))))), IntKind.u32.wrap (IntKind.i32.wrap (IntKind.u32.wrap ((IntKind.u64.wrap (IntKind.i64.wrap (IntKind.i64.wrap (IntKind.i32.wrap (top cs 1)) * IntKind.i64.wrap (IntKind.i32.wrap (top cs 0))))).fdiv (4294967296 : Int))))]) m o u)))], (0 : Nat), []) := ⟨by kernel_rfl, by kernel_rfl⟩

theorem do33_2 (cs : List Int) (m o u : Int) : Good (evo 14 [.cell (.int .u32 33), sp, anyP, anyP] [stO cs m o u] [0, 1, 1, 0, 0, 0, 0, 0, 0, 1, 1]) [18, 0] [(↑cs.length : Int) < (2 : Int) ∧ (2 : Int) ≤ (65536 : Int), (u != (0 : Int)) = true] (AV.cell (Cell.int IntKind.i32 u), [some (Blk.obj (Ob.ab (Ab.stk cs m o u)))], (1 : Nat), []) := ⟨by kernel_rfl, by kernel_rfl⟩

theorem do33_3 (cs : List Int) (m o u : Int) : Good (evo 14 [.cell (.int .u32 33), sp, anyP, anyP] [stO cs m o u] [0, 1, 1, 0, 0, 0, 0, 0, 0, 2, 1]) [18, 0] [(0 : Int) ≤ (2 : Int) ∧ (2 : Int) ≤ (↑cs.length : Int) ∧ (0 : Int) ≤ (2 : Int) ∧ m - ((↑cs.length : Int) - (2 : Int)) < (2 : Int), (o != (0 : Int)) = true] (AV.cell (Cell.int IntKind.i32 o), [some (Blk.obj (Ob.ab (Ab.stk cs m o u)))], (1 : Nat), []) := ⟨by kernel_rfl, by kernel_rfl⟩

def out33 (cs : List Int) : List Int := [IntKind.u32.wrap (IntKind.u64.wrap (IntKind.i64.wrap (IntKind.i64.wrap (IntKind.i32.wrap (top cs 1)) * IntKind.i64.wrap (IntKind.i32.wrap (top cs 0))))), IntKind.u32.wrap (IntKind.i32.wrap (IntKind.u32.wrap ((IntKind.u64.wrap (IntKind.i64.wrap (IntKind.i64.wrap (IntKind.i32.wrap (top cs 1)) * IntKind.i64.wrap (IntKind.i32.wrap (top cs 0))))).fdiv (4294967296 : Int))))]

theorem row33 : DoRow 33 2 2 out33 := by
  refine ⟨fun cs m o u hc h1 h2 => CanOk.knows (j := 0) rfl fun hk => ?_, fun cs m o u h => CanOk.knows (j := 0) rfl fun hk => ?_, fun cs m o u h1 h2 => CanOk.knows (j := 0) rfl fun hk => ?_⟩
  · obtain ⟨i1, i2, i3, i4, i5⟩ := stk_inv hk
    have e : IntKind.i64.wrap ((cs.length : Int) - (2 : Int)) = (cs.length : Int) - (2 : Int) := wrap_len (by omega) (by omega) (by omega)
    have e2 : ((cs.length : Int) - (2 : Int)).toNat = cs.length - 2 := by omega
    have g := do33_1 cs m o u
    simp only [e, e2] at g
    have h := g.canT (E_valid sO_ok 14) (Nat.le_refl 1) (by ((simp only [AllP, and_true]; repeat' apply And.intro) <;> first | trivial | omega | exact ne_true (by assumption) | exact (top_ok (by assumption) _).1 | (simp only [List.length_take, List.length_append, List.length_cons, List.length_nil]; omega)))
    first
      | exact h
      | (have e3 := List.append_nil (cs.take (cs.length - 2)); rw [← e3] at h; exact h)
  · obtain ⟨i1, i2, i3, i4, i5⟩ := stk_inv hk
    exact (do33_2 cs m o u).canT (E_valid sO_ok 14) (Nat.le_refl 1) (by ((simp only [AllP, and_true]; repeat' apply And.intro) <;> first | trivial | omega | exact ne_true (by assumption) | exact (top_ok (by assumption) _).1 | (simp only [List.length_take, List.length_append, List.length_cons, List.length_nil]; omega)))
  · obtain ⟨i1, i2, i3, i4, i5⟩ := stk_inv hk
    exact (do33_3 cs m o u).canT (E_valid sO_ok 14) (Nat.le_refl 1) (by ((simp only [AllP, and_true]; repeat' apply And.intro) <;> first | trivial | omega | exact ne_true (by assumption) | exact (top_ok (by assumption) _).1 | (simp only [List.length_take, List.length_append, List.length_cons, List.length_nil]; omega)))

theorem do37_1 (cs : List Int) (m o u : Int) : Good (evo 14 [.cell (.int .u32 37), sp, anyP, anyP] [stO cs m o u] [0, 1, 1, 0, 0, 0, 0, 0, 0, 0, 0, 0, 0, 0, 0, 1, 0, 0, 0, 0, 0, 0, 0, 0, 0, 0, 0, 0, 0, 0, 0, 0, 1, 0, 0, 0, 0, 0, 0, 0, 0, 0, 0, 0, 0, 0, 0, 0, 0, 0, 0, 0, 0, 0, 0, 0, 0, 0, 1, 5, 0, 1, 0, 6, 1, 6, 0, 0, 0, 0, 0, 0]) [18, 12, 59, 1, 2] [(0 : Int) ≤ (1 : Int) ∧ (1 : Int) ≤ (↑cs.length : Int) ∧ (0 : Int) ≤ (2 : Int) ∧ (2 : Int) ≤ m - ((↑cs.length : Int) - (1 : Int)), (0 : Int) ≤ (0 : Int) ∧ (0 : Int) < (↑cs.length : Int), (0 : Int) ≤ IntKind.i64.wrap ((↑cs.length : Int) - (1 : Int)) ∧ IntKind.i64.wrap ((↑cs.length : Int) - (1 : Int)) ≤ (↑cs.length : Int), (0 : Int) ≤ IntKind.i64.wrap ((↑cs.length : Int) - (1 : Int)) ∧ IntKind.i64.wrap ((↑cs.length : Int) - (1 : Int)) ≤ (↑cs.length : Int), (2 : Nat) ≤ (2 : Nat) ∧ (2 : Int) ≤ m - (↑(List.take (IntKind.i64.wrap ((↑cs.length : Int) - (1 : Int))).toNat cs).length : Int)] (AV.cell (Cell.int IntKind.i32 (0 : Int)), [some (Blk.obj (Ob.ab (Ab.stk (List.take (IntKind.i64.wrap ((↑cs.length : Int) - (1 : Int))).toNat cs ++ [top cs 0, IntKind.u32.wrap ((IntKind.i32.wrap (top cs 0)).fdiv (2147483648 : Int))]) m o u)))], (0 : Nat), []) := ⟨by kernel_rfl, by kernel_rfl⟩

theorem do37_2 (cs : List Int) (m o u : Int) : Good (evo 14 [.cell (.int .u32 37), sp, anyP, anyP] [stO cs m o u] [0, 1, 1, 0, 0, 0, 0, 0, 0, 1, 1]) [18, 0] [(↑cs.length : Int) < (1 : Int) ∧ (1 : Int) ≤ (65536 : Int), (u != (0 : Int)) = true] (AV.cell (Cell.int IntKind.i32 u), [some (Blk.obj (Ob.ab (Ab.stk cs m o u)))], (1 : Nat), []) := ⟨by kernel_rfl, by kernel_rfl⟩

theorem do37_3 (cs : List Int) (m o u : Int) : Good (evo 14 [.cell (.int .u32 37), sp, anyP, anyP] [stO cs m o u] [0, 1, 1, 0, 0, 0, 0, 0, 0, 2, 1]) [18, 0] [(0 : Int) ≤ (1 : Int) ∧ (1 : Int) ≤ (↑cs.length : Int) ∧ (0 : Int) ≤ (2 : Int) ∧ m - ((↑cs.length : Int) - (1 : Int)) < (2 : Int), (o != (0 : Int)) = true] (AV.cell (Cell.int IntKind.i32 o), [some (Blk.obj (Ob.ab (Ab.stk cs m o u)))], (1 : Nat), []) := ⟨by kernel_rfl, by kernel_rfl⟩

def out37 (cs : List Int) : List Int := [top cs 0, IntKind.u32.wrap ((IntKind.i32.wrap (top cs 0)).fdiv (2147483648 : Int))]

theorem row37 : DoRow 37 1 2 out37 := by
  refine ⟨fun cs m o u hc h1 h2 => CanOk.knows (j := 0) rfl fun hk => ?_, fun cs m o u h => CanOk.knows (j := 0) rfl fun hk => ?_, fun cs m o u h1 h2 => CanOk.knows (j := 0) rfl fun hk => ?_⟩
  · obtain ⟨i1, i2, i3, i4, i5⟩ := stk_inv hk
    have e : IntKind.i64.wrap ((cs.length : Int) - (1 : Int)) = (cs.length : Int) - (1 : Int) := wrap_len (by omega) (by omega) (by omega)
    have e2 : ((cs.length : Int) - (1 : Int)).toNat = cs.length - 1 := by omega
    have g := do37_1 cs m o u
    simp only [e, e2] at g
    have h := g.canT (E_valid sO_ok 14) (Nat.le_refl 1) (by ((simp only [AllP, and_true]; repeat' apply And.intro) <;> first | trivial | omega | exact ne_true (by assumption) | exact (top_ok (by assumption) _).1 | (simp only [List.length_take, List.length_append, List.length_cons, List.length_nil]; omega)))
    first
      | exact h
      | (have e3 := List.append_nil (cs.take (cs.length - 1)); rw [← e3] at h; exact h)
  · obtain ⟨i1, i2, i3, i4, i5⟩ := stk_inv hk
    exact (do37_2 cs m o u).canT (E_valid sO_ok 14) (Nat.le_refl 1) (by ((simp only [AllP, and_true]; repeat' apply And.intro) <;> first | trivial | omega | exact ne_true (by assumption) | exact (top_ok (by assumption) _).1 | (simp only [List.length_take, List.length_append, List.length_cons, List.length_nil]; omega)))
  · obtain ⟨i1, i2, i3, i4, i5⟩ := stk_inv hk
    exact (do37_3 cs m o u).canT (E_valid sO_ok 14) (Nat.le_refl 1) (by ((simp only [AllP, and_true]; repeat' apply And.intro) <;> first | trivial | omega | exact ne_true (by assumption) | exact (top_ok (by assumption) _).1 | (simp only [List.length_take, List.length_append, List.length_cons, List.length_nil]; omega)))

theorem do38_1 (cs : List Int) (m o u : Int) : Good (evo 14 [.cell (.int .u32 38), sp, anyP, anyP] [stO cs m o u] [0, 1, 1, 0, 0, 0, 0, 0, 0, 0, 0, 0, 0, 0, 0, 1, 0, 0, 1, 0, 0, 1, 0, 0, 1, 0, 0, 0, 0, 0, 0, 0, 0, 0, 0, 0, 0, 0, 0, 0, 0, 0, 0, 0, 0, 0, 0, 0, 0, 0, 0, 0, 0, 0, 1, 5, 0, 1, 0, 6, 1, 6, 0, 0, 0, 0, 0, 0]) [18, 12, 6, 6, 6, 51, 1, 2] [(0 : Int) ≤ (4 : Int) ∧ (4 : Int) ≤ (↑cs.length : Int) ∧ (0 : Int) ≤ (2 : Int) ∧ (2 : Int) ≤ m - ((↑cs.length : Int) - (4 : Int)), (0 : Int) ≤ (3 : Int) ∧ (3 : Int) < (↑cs.length : Int), (0 : Int) ≤ (2 : Int) ∧ (2 : Int) < (↑cs.length : Int), (0 : Int) ≤ (1 : Int) ∧ (1 : Int) < (↑cs.length : Int), (0 : Int) ≤ (0 : Int) ∧ (0 : Int) < (↑cs.length : Int), (0 : Int) ≤ IntKind.i64.wrap ((↑cs.length : Int) - (4 : Int)) ∧ IntKind.i64.wrap ((↑cs.length : Int) - (4 : Int)) ≤ (↑cs.length : Int), (0 : Int) ≤ IntKind.i64.wrap ((↑cs.length : Int) - (4 : Int)) ∧ IntKind.i64.wrap ((↑cs.length : Int) - (4 : Int)) ≤ (↑cs.length : Int), (2 : Nat) ≤ (2 : Nat) ∧ (2 : Int) ≤ m - (↑(List.take (IntKind.i64.wrap ((↑cs.length : Int) - (4 : Int))).toNat cs).length : Int)] (AV.cell (Cell.int IntKind.i32 (0 : Int)), [some (Blk.obj (Ob.ab (Ab.stk (List.take (IntKind.i64.wrap ((↑cs.length : Int) - (4 : Int))).toNat cs ++ [IntKind.u32.wrap (IntKind.u64.wrap (IntKind.u64.wrap (↑(BitVec.ofInt (64 : Nat) (IntKind.u64.wrap (IntKind.u64.wrap (top cs 2) * (4294967296 : Int))) ||| BitVec.ofInt (64 : Nat) (IntKind.u64.wrap (top cs 3))).toNat : Int) + IntKind.u64.wrap (↑(BitVec.ofInt (64 : Nat) (IntKind.u64.wrap (IntKind.u64.wrap (top cs 0) * (4294967296 : Int))) ||| BitVec.ofInt (64 : Nat) (IntKind.u64.wrap (top cs 1))).toNat : Int))), IntKind.u32.wrap ((IntKind.u64.wrap (IntKind.u64.wrap (↑(BitVec.ofInt (64 : Nat) (IntKind.u64.wrap (IntKind.u64.wrap (top cs 2) * (4294967296 : Int))) ||| BitVec.ofInt (64 : Nat) (IntKind.u64.wrap (top cs 3))).toNat : Int) + IntKind.u64.wrap (↑(BitVec.ofInt (64 : Nat) (IntKind.u64.wrap (IntKind.u64.wrap (top cs 0) * (4294967296 : Int))) ||| BitVec.ofInt (64 : Nat) (IntKind.u64.wrap (top cs 1))).toNat : Int))).fdiv (4294967296 : Int))]) m o u)))], (0 : Nat), []) := ⟨by kernel_rfl, by kernel_rfl⟩

theorem do38_2 (cs : List Int) (m o u : Int) : Good (evo 14 [.cell (.int .u32 38), sp, anyP, anyP] [stO cs m o u] [0, 1, 1, 0, 0, 0, 0, 0, 0, 1, 1]) [18, 0] [(↑cs.length : Int) < (4 : Int) ∧ (4 : Int) ≤ (65536 : Int), (u != (0 : Int)) = true] (AV.cell (Cell.int IntKind.i32 u), [some (Blk.obj (Ob.ab (Ab.stk cs m o u)))], (1 : Nat), []) := ⟨by kernel_rfl, by kernel_rfl⟩

theorem do38_3 (cs : List Int) (m o u : Int) : Good (evo 14 [.cell (.int .u32 38), sp, anyP, anyP] [stO cs m o u] [0, 1, 1, 0, 0, 0, 0, 0, 0, 2, 1]) [18, 0] [(0 : Int) ≤ (4 : Int) ∧ (4 : Int) ≤ (↑cs.length : Int) ∧ (0 : Int) ≤ (2 : Int) ∧ m - ((↑cs.length : Int) - (4 : Int)) < (2 : Int), (o != (0 : Int)) = true] (AV.cell (Cell.int IntKind.i32 o), [some (Blk.obj (Ob.ab (Ab.stk cs m o u)))], (1 : Nat), []) := ⟨by kernel_rfl, by kernel_rfl⟩

def out38 (cs : List Int) : List Int := [IntKind.u32.wrap (IntKind.u64.wrap (IntKind.u64.wrap (↑(BitVec.ofInt (64 : Nat) (IntKind.u64.wrap (IntKind.u64.wrap (top cs 2) * (4294967296 : Int))) ||| BitVec.ofInt (64 : Nat) (IntKind.u64.wrap (top cs 3))).toNat : Int) + IntKind.u64.wrap (↑(BitVec.ofInt (64 : Nat) (IntKind.u64.wrap (IntKind.u64.wrap (top cs 0) * (4294967296 : Int))) ||| BitVec.ofInt (64 : Nat) (IntKind.u64.wrap (top cs 1))).toNat : Int))), IntKind.u32.wrap ((IntKind.u64.wrap (IntKind.u64.wrap (↑(BitVec.ofInt (64 : Nat) (IntKind.u64.wrap (IntKind.u64.wrap (top cs 2) * (4294967296 : Int))) ||| BitVec.ofInt (64 : Nat) (IntKind.u64.wrap (top cs 3))).toNat : Int) + IntKind.u64.wrap (↑(BitVec.ofInt (64 : Nat) (IntKind.u64.wrap (IntKind.u64.wrap (top cs 0) * (4294967296 : Int))) ||| BitVec.ofInt (64 : Nat) (IntKind.u64.wrap (top cs 1))).toNat : Int))).fdiv (4294967296 : Int))]

theorem row38 : DoRow 38 4 2 out38 := by
  refine ⟨fun cs m o u hc h1 h2 => CanOk.knows (j := 0) rfl fun hk => ?_, fun cs m o u h => CanOk.knows (j := 0) rfl fun hk => ?_, fun cs m o u h1 h2 => CanOk.knows (j := 0) rfl fun hk => ?_⟩
  · obtain ⟨i1, i2, i3, i4, i5⟩ := stk_inv hk
    have e : IntKind.i64.wrap ((cs.length : Int) - (4 : Int)) = (cs.length : Int) - (4 : Int) := wrap_len (by omega) (by omega) (by omega)
    have e2 : ((cs.length : Int) - (4 : Int)).toNat = cs.length - 4 := by omega
    have g := do38_1 cs m o u
    simp only [e, e2] at g
    have h := g.canT (E_valid sO_ok 14) (Nat.le_refl 1) (by ((simp only [AllP, and_true]; repeat' apply And.intro) <;> first | trivial | omega | exact ne_true (by assumption) | exact (top_ok (by assumption) _).1 | (simp only [List.length_take, List.length_append, List.length_cons, List.length_nil]; omega)))
    first
      | exact h
      | (have e3 := List.append_nil (cs.take (cs.length - 4)); rw [← e3] at h; exact h)
  · obtain ⟨i1, i2, i3, i4, i5⟩ := stk_inv hk
    exact (do38_2 cs m o u).canT (E_valid sO_ok 14) (Nat.le_refl 1) (by ((simp only [AllP, and_true]; repeat' apply And.intro) <;> first | trivial | omega | exact ne_true (by assumption) | exact (top_ok (by assumption) _).1 | (simp only [List.length_take, List.length_append, List.length_cons, List.length_nil]; omega)))
  · obtain ⟨i1, i2, i3, i4, i5⟩ := stk_inv hk
    exact (do38_3 cs m o u).canT (E_valid sO_ok 14) (Nat.le_refl 1) (by ((simp only [AllP, and_true]; repeat' apply And.intro) <;> first | trivial | omega | exact ne_true (by assumption) | exact (top_ok (by assumption) _).1 | (simp only [List.length_take, List.length_append, List.length_cons, List.length_nil]; omega)))

theorem do39_1 (cs : List Int) (m o u : Int) : Good (evo 14 [.cell (.int .u32 39), sp, anyP, anyP] [stO cs m o u] [0, 1, 1, 0, 0, 0, 0, 0, 0, 0, 0, 0, 0, 0, 0, 1, 0, 0, 1, 0, 0, 0, 0, 0, 0, 0, 0, 0, 0, 0, 0, 0, 0, 0, 0, 0, 1, 0, 0, 0, 0, 0, 0, 0, 0, 0, 0, 0, 0, 0, 0, 0, 0, 0, 0, 0, 0, 0, 0, 0, 0, 0, 0, 0, 0, 0, 1, 5, 0, 1, 0, 6, 1, 6, 0, 0, 0, 0, 0, 0]) [18, 12, 6, 63, 1, 2] [(0 : Int) ≤ (2 : Int) ∧ (2 : Int) ≤ (↑cs.length : Int) ∧ (0 : Int) ≤ (2 : Int) ∧ (2 : Int) ≤ m - ((↑cs.length : Int) - (2 : Int)), (0 : Int) ≤ (1 : Int) ∧ (1 : Int) < (↑cs.length : Int), (0 : Int) ≤ (0 : Int) ∧ (0 : Int) < (↑cs.length : Int), (0 : Int) ≤ IntKind.i64.wrap ((↑cs.length : Int) - (2 : Int)) ∧ IntKind.i64.wrap ((↑cs.length : Int) - (2 : Int)) ≤ (↑cs.length : Int), (0 : Int) ≤ IntKind.i64.wrap ((↑cs.length : Int) - (2 : Int)) ∧ IntKind.i64.wrap ((↑cs.length : Int) - (2 : Int)) ≤ (↑cs.length : Int), (2 : Nat) ≤ (2 : Nat) ∧ (2 : Int) ≤ m - (↑(List.take (IntKind.i64.wrap ((↑cs.length : Int) - (2 : Int))).toNat cs).length : Int)] (AV.cell (Cell.int IntKind.i32 (0 : Int)), [some (Blk.obj (Ob.ab (Ab.stk (List.take (IntKind.i64.wrap ((↑cs.length : Int) - (2 : Int))).toNat cs ++ [IntKind.u32.wrap (IntKind.u64.wrap ((0 : Int) - IntKind.u64.wrap (↑(BitVec.ofInt (64 : Nat) (IntKind.u64.wrap (IntKind.u64.wrap (top cs 0) * (4294967296 : Int))) ||| BitVec.ofInt (64 : Nat) (IntKind.u64.wrap (top cs 1))).toNat : Int))), IntKind.u32.wrap ((IntKind.u64.wrap ((0 : Int) - IntKind.u64.wrap (↑(BitVec.ofInt (64 : Nat) (IntKind.u64.wrap (IntKind.u64.wrap (top cs 0) * (4294967296 : Int))) ||| BitVec.ofInt (64 : Nat) (IntKind.u64.wrap (top cs 1))).toNat : Int))).fdiv (4294967296 : Int))]) m o u)))], (0 : Nat), []) := ⟨by kernel_rfl, by kernel_rfl⟩

theorem do39_2 (cs : List Int) (m o u : Int) : Good (evo 14 [.cell (.int .u32 39), sp, anyP, anyP] [stO cs m o u] [0, 1, 1, 0, 0, 0, 0, 0, 0, 1, 1]) [18, 0] [(↑cs.length : Int) < (2 : Int) ∧ (2 : Int) ≤ (65536 : Int), (u != (0 : Int)) = true] (AV.cell (Cell.int IntKind.i32 u), [some (Blk.obj (Ob.ab (Ab.stk cs m o u)))], (1 : Nat), []) := ⟨by kernel_rfl, by kernel_rfl⟩

theorem do39_3 (cs : List Int) (m o u : Int) : Good (evo 14 [.cell (.int .u32 39), sp, anyP, anyP] [stO cs m o u] [0, 1, 1, 0, 0, 0, 0, 0, 0, 2, 1]) [18, 0] [(0 : Int) ≤ (2 : Int) ∧ (2 : Int) ≤ (↑cs.length : Int) ∧ (0 : Int) ≤ (2 : Int) ∧ m - ((↑cs.length : Int) - (2 : Int)) < (2 : Int), (o != (0 : Int)) = true] (AV.cell (Cell.int IntKind.i32 o), [some (Blk.obj (Ob.ab (Ab.stk cs m o u)))], (1 : Nat), []) := ⟨by kernel_rfl, by kernel_rfl⟩

def out39 (cs : List Int) : List Int := [IntKind.u32.wrap (IntKind.u64.wrap ((0 : Int) - IntKind.u64.wrap (↑(BitVec.ofInt (64 : Nat) (IntKind.u64.wrap (IntKind.u64.wrap (top cs 0) * (4294967296 : Int))) ||| BitVec.ofInt (64 : Nat) (IntKind.u64.wrap (top cs 1))).toNat : Int))), IntKind.u32.wrap ((IntKind.u64.wrap ((0 : Int) - IntKind.u64.wrap (↑(BitVec.ofInt (64 : Nat) (IntKind.u64.wrap (IntKind.u64.wrap (top cs 0) * (4294967296 : Int))) ||| BitVec.ofInt (64 : Nat) (IntKind.u64.wrap (top cs 1))).toNat : Int))).fdiv (4294967296 : Int))]

theorem row39 : DoRow 39 2 2 out39 := by
  refine ⟨fun cs m o u hc h1 h2 => CanOk.knows (j := 0) rfl fun hk => ?_, fun cs m o u h => CanOk.knows (j := 0) rfl fun hk => ?_, fun cs m o u h1 h2 => CanOk.knows (j := 0) rfl fun hk => ?_⟩
  · obtain ⟨i1, i2, i3, i4, i5⟩ := stk_inv hk
    have e : IntKind.i64.wrap ((cs.length : Int) - (2 : Int)) = (cs.length : Int) - (2 : Int) := wrap_len (by omega) (by omega) (by omega)
    have e2 : ((cs.length : Int) - (2 : Int)).toNat = cs.length - 2 := by omega
    have g := do39_1 cs m o u
    simp only [e, e2] at g
    have h := g.canT (E_valid sO_ok 14) (Nat.le_refl 1) (by ((simp only [AllP, and_true]; repeat' apply And.intro) <;> first | trivial | omega | exact ne_true (by assumption) | exact (top_ok (by assumption) _).1 | (simp only [List.length_take, List.length_append, List.length_cons, List.length_nil]; omega)))
    first
      | exact h
      | (have e3 := List.append_nil (cs.take (cs.length - 2)); rw [← e3] at h; exact h)
  · obtain ⟨i1, i2, i3, i4, i5⟩ := stk_inv hk
    exact (do39_2 cs m o u).canT (E_valid sO_ok 14) (Nat.le_refl 1) (by ((simp only [AllP, and_true]; repeat' apply And.intro) <;> first | trivial | omega | exact ne_true (by assumption) | exact (top_ok (by assumption) _).1 | (simp only [List.length_take, List.length_append, List.length_cons, List.length_nil]; omega)))
  · obtain ⟨i1, i2, i3, i4, i5⟩ := stk_inv hk
    exact (do39_3 cs m o u).canT (E_valid sO_ok 14) (Nat.le_refl 1) (by ((simp only [AllP, and_true]; repeat' apply And.intro) <;> first | trivial | omega | exact ne_true (by assumption) | exact (top_ok (by assumption) _).1 | (simp only [List.length_take, List.length_append, List.length_cons, List.length_nil]; omega)))

theorem do40_1 (cs : List Int) (m o u : Int) : Good (evo 14 [.cell (.int .u32 40), sp, anyP, anyP] [stO cs m o u] [0, 1, 1, 0, 0, 0, 0, 0, 0, 0, 0, 0, 0, 0, 0, 1, 0, 0, 1, 0, 0, 0, 0, 0, 0, 0, 0, 0, 0, 0, 0, 0, 0, 0, 0, 0, 1, 0, 0, 0, 0, 0, 1, 1, 5, 0, 0, 6, 1, 6, 0, 0, 0, 0, 0, 0]) [18, 12, 6, 37, 1, 2] [(0 : Int) ≤ (2 : Int) ∧ (2 : Int) ≤ (↑cs.length : Int) ∧ (0 : Int) ≤ (1 : Int) ∧ (1 : Int) ≤ m - ((↑cs.length : Int) - (2 : Int)), (0 : Int) ≤ (1 : Int) ∧ (1 : Int) < (↑cs.length : Int), (0 : Int) ≤ (0 : Int) ∧ (0 : Int) < (↑cs.length : Int), (0 : Int) ≤ IntKind.i64.wrap ((↑cs.length : Int) - (2 : Int)) ∧ IntKind.i64.wrap ((↑cs.length : Int) - (2 : Int)) ≤ (↑cs.length : Int), (0 : Int) ≤ IntKind.i64.wrap ((↑cs.length : Int) - (2 : Int)) ∧ IntKind.i64.wrap ((↑cs.length : Int) - (2 : Int)) ≤ (↑cs.length : Int), (1 : Nat) ≤ (1 : Nat) ∧ (1 : Int) ≤ m - (↑(List.take (IntKind.i64.wrap ((↑cs.length : Int) - (2 : Int))).toNat cs).length : Int)] (AV.cell (Cell.int IntKind.i32 (0 : Int)), [some (Blk.obj (Ob.ab (Ab.stk (List.take (IntKind.i64.wrap ((↑cs.length : Int) - (2 : Int))).toNat cs ++ [IntKind.u32.wrap (↑(BitVec.ofInt (32 : Nat) (top cs 1) &&& BitVec.ofInt (32 : Nat) (top cs 0)).toNat : Int)]) m o u)))], (0 : Nat), []) := ⟨by kernel_rfl, by kernel_rfl⟩

theorem do40_2 (cs : List Int) (m o u : Int) : Good (evo 14 [.cell (.int .u32 40), sp, anyP, anyP] [stO cs m o u] [0, 1, 1, 0, 0, 0, 0, 0, 0, 1, 1]) [18, 0] [(↑cs.length : Int) < (2 : Int) ∧ (2 : Int) ≤ (65536 : Int), (u != (0 : Int)) = true] (AV.cell (Cell.int IntKind.i32 u), [some (Blk.obj (Ob.ab (Ab.stk cs m o u)))], (1 : Nat), []) := ⟨by kernel_rfl, by kernel_rfl⟩

theorem do40_3 (cs : List Int) (m o u : Int) : Good (evo 14 [.cell (.int .u32 40), sp, anyP, anyP] [stO cs m o u] [0, 1, 1, 0, 0, 0, 0, 0, 0, 2, 1]) [18, 0] [(0 : Int) ≤ (2 : Int) ∧ (2 : Int) ≤ (↑cs.length : Int) ∧ (0 : Int) ≤ (1 : Int) ∧ m - ((↑cs.length : Int) - (2 : Int)) < (1 : Int), (o != (0 : Int)) = true] (AV.cell (Cell.int IntKind.i32 o), [some (Blk.obj (Ob.ab (Ab.stk cs m o u)))], (1 : Nat), []) := ⟨by kernel_rfl, by kernel_rfl⟩

def out40 (cs : List Int) : List Int := [IntKind.u32.wrap (↑(BitVec.ofInt (32 : Nat) (top cs 1) &&& BitVec.ofInt (32 : Nat) (top cs 0)).toNat : Int)]

theorem row40 : DoRow 40 2 1 out40 := by
  refine ⟨fun cs m o u hc h1 h2 => CanOk.knows (j := 0) rfl fun hk => ?_, fun cs m o u h => CanOk.knows (j := 0) rfl fun hk => ?_, fun cs m o u h1 h2 => CanOk.knows (j := 0) rfl fun hk => ?_⟩
  · obtain ⟨i1, i2, i3, i4, i5⟩ := stk_inv hk
    have e : IntKind.i64.wrap ((cs.length : Int) - (2 : Int)) = (cs.length : Int) - (2 : Int) := wrap_len (by omega) (by omega) (by omega)
    have e2 : ((cs.length : Int) - (2 : Int)).toNat = cs.length - 2 := by omega
    have g := do40_1 cs m o u
    simp only [e, e2] at g
    have h := g.canT (E_valid sO_ok 14) (Nat.le_refl 1) (by ((simp only [AllP, and_true]; repeat' apply And.intro) <;> first | trivial | omega | exact ne_true (by assumption) | exact (top_ok (by assumption) _).1 | (simp only [List.length_take, List.length_append, List.length_cons, List.length_nil]; omega)))
    first
      | exact h
      | (have e3 := List.append_nil (cs.take (cs.length - 2)); rw [← e3] at h; exact h)
  · obtain ⟨i1, i2, i3, i4, i5⟩ := stk_inv hk
    exact (do40_2 cs m o u).canT (E_valid sO_ok 14) (Nat.le_refl 1) (by ((simp only [AllP, and_true]; repeat' apply And.intro) <;> first | trivial | omega | exact ne_true (by assumption) | exact (top_ok (by assumption) _).1 | (simp only [List.length_take, List.length_append, List.length_cons, List.length_nil]; omega)))
  · obtain ⟨i1, i2, i3, i4, i5⟩ := stk_inv hk
    exact (do40_3 cs m o u).canT (E_valid sO_ok 14) (Nat.le_refl 1) (by ((simp only [AllP, and_true]; repeat' apply And.intro) <;> first | trivial | omega | exact ne_true (by assumption) | exact (top_ok (by assumption) _).1 | (simp only [List.length_take, List.length_append, List.length_cons, List.length_nil]; omega)))

theorem do41_1 (cs : List Int) (m o u : Int) : Good (evo 14 [.cell (.int .u32 41), sp, anyP, anyP] [stO cs m o u] [0, 1, 1, 0, 0, 0, 0, 0, 0, 0, 0, 0, 0, 0, 0, 1, 0, 0, 1, 0, 0, 0, 0, 0, 0, 0, 0, 0, 0, 0, 0, 0, 0, 0, 0, 0, 1, 0, 0, 0, 0, 0, 0, 1, 1, 5, 0, 0, 6, 1, 6, 0, 0, 0, 0, 0, 0]) [18, 12, 6, 38, 1, 2] [(0 : Int) ≤ (2 : Int) ∧ (2 : Int) ≤ (↑cs.length : Int) ∧ (0 : Int) ≤ (1 : Int) ∧ (1 : Int) ≤ m - ((↑cs.length : Int) - (2 : Int)), (0 : Int) ≤ (1 : Int) ∧ (1 : Int) < (↑cs.length : Int), (0 : Int) ≤ (0 : Int) ∧ (0 : Int) < (↑cs.length : Int), (0 : Int) ≤ IntKind.i64.wrap ((↑cs.length : Int) - (2 : Int)) ∧ IntKind.i64.wrap ((↑cs.length : Int) - (2 : Int)) ≤ (↑cs.length : Int), (0 : Int) ≤ IntKind.i64.wrap ((↑cs.length : Int) - (2 : Int)) ∧ IntKind.i64.wrap ((↑cs.length : Int) - (2 : Int)) ≤ (↑cs.length : Int), (1 : Nat) ≤ (1 : Nat) ∧ (1 : Int) ≤ m - (↑(List.take (IntKind.i64.wrap ((↑cs.length : Int) - (2 : Int))).toNat cs).length : Int)] (AV.cell (Cell.int IntKind.i32 (0 : Int)), [some (Blk.obj (Ob.ab (Ab.stk (List.take (IntKind.i64.wrap ((↑cs.length : Int) - (2 : Int))).toNat cs ++ [IntKind.u32.wrap (↑(BitVec.ofInt (32 : Nat) (top cs 1) ||| BitVec.ofInt (32 : Nat) (top cs 0)).toNat : Int)]) m o u)))], (0 : Nat), []) := ⟨by kernel_rfl, by kernel_rfl⟩

theorem do41_2 (cs : List Int) (m o u : Int) : Good (evo 14 [.cell (.int .u32 41), sp, anyP, anyP] [stO cs m o u] [0, 1, 1, 0, 0, 0, 0, 0, 0, 1, 1]) [18, 0] [(↑cs.length : Int) < (2 : Int) ∧ (2 : Int) ≤ (65536 : Int), (u != (0 : Int)) = true] (AV.cell (Cell.int IntKind.i32 u), [some (Blk.obj (Ob.ab (Ab.stk cs m o u)))], (1 : Nat), []) := ⟨by kernel_rfl, by kernel_rfl⟩

theorem do41_3 (cs : List Int) (m o u : Int) : Good (evo 14 [.cell (.int .u32 41), sp, anyP, anyP] [stO cs m o u] [0, 1, 1, 0, 0, 0, 0, 0, 0, 2, 1]) [18, 0] [(0 : Int) ≤ (2 : Int) ∧ (2 : Int) ≤ (↑cs.length : Int) ∧ (0 : Int) ≤ (1 : Int) ∧ m - ((↑cs.length : Int) - (2 : Int)) < (1 : Int), (o != (0 : Int)) = true] (AV.cell (Cell.int IntKind.i32 o), [some (Blk.obj (Ob.ab (Ab.stk cs m o u)))], (1 : Nat), []) := ⟨by kernel_rfl, by kernel_rfl⟩

def out41 (cs : List Int) : List Int := [IntKind.u32.wrap (↑(BitVec.ofInt (32 : Nat) (top cs 1) ||| BitVec.ofInt (32 : Nat) (top cs 0)).toNat : Int)]

theorem row41 : DoRow 41 2 1 out41 := by
  refine ⟨fun cs m o u hc h1 h2 => CanOk.knows (j := 0) rfl fun hk => ?_, fun cs m o u h => CanOk.knows (j := 0) rfl fun hk => ?_, fun cs m o u h1 h2 => CanOk.knows (j := 0) rfl fun hk => ?_⟩
  · obtain ⟨i1, i2, i3, i4, i5⟩ := stk_inv hk
    have e : IntKind.i64.wrap ((cs.length : Int) - (2 : Int)) = (cs.length : Int) - (2 : Int) := wrap_len (by omega) (by omega) (by omega)
    have e2 : ((cs.length : Int) - (2 : Int)).toNat = cs.length - 2 := by omega
    have g := do41_1 cs m o u
    simp only [e, e2] at g
    have h := g.canT (E_valid sO_ok 14) (Nat.le_refl 1) (by ((simp only [AllP, and_true]; repeat' apply And.intro) <;> first | trivial | omega | exact ne_true (by assumption) | exact (top_ok (by assumption) _).1 | (simp only [List.length_take, List.length_append, List.length_cons, List.length_nil]; omega)))
    first
      | exact h
      | (have e3 := List.append_nil (cs.take (cs.length - 2)); rw [← e3] at h; exact h)
  · obtain ⟨i1, i2, i3, i4, i5⟩ := stk_inv hk
    exact (do41_2 cs m o u).canT (E_valid sO_ok 14) (Nat.le_refl 1) (by ((simp only [AllP, and_true]; repeat' apply And.intro) <;> first | trivial | omega | exact ne_true (by assumption) | exact (top_ok (by assumption) _).1 | (simp only [List.length_take, List.length_append, List.length_cons, List.length_nil]; omega)))
  · obtain ⟨i1, i2, i3, i4, i5⟩ := stk_inv hk
    exact (do41_3 cs m o u).canT (E_valid sO_ok 14) (Nat.le_refl 1) (by ((simp only [AllP, and_true]; repeat' apply And.intro) <;> first | trivial | omega | exact ne_true (by assumption) | exact (top_ok (by assumption) _).1 | (simp only [List.length_take, List.length_append, List.length_cons, List.length_nil]; omega)))

theorem do42_1 (cs : List Int) (m o u : Int) : Good (evo 14 [.cell (.int .u32 42), sp, anyP, anyP] [stO cs m o u] [0, 1, 1, 0, 0, 0, 0, 0, 0, 0, 0, 0, 0, 0, 0, 1, 0, 0, 1, 0, 0, 0, 0, 0, 0, 0, 0, 0, 0, 0, 0, 0, 0, 0, 0, 0, 1, 0, 0, 0, 0, 0, 0, 0, 1, 1, 5, 0, 0, 6, 1, 6, 0, 0, 0, 0, 0, 0]) [18, 12, 6, 39, 1, 2] [(0 : Int) ≤ (2 : Int) ∧ (2 : Int) ≤ (↑cs.length : Int) ∧ (0 : Int) ≤ (1 : Int) ∧ (1 : Int) ≤ m - ((↑cs.length : Int) - (2 : Int)), (0 : Int) ≤ (1 : Int) ∧ (1 : Int) < (↑cs.length : Int), (0 : Int) ≤ (0 : Int) ∧ (0 : Int) < (↑cs.length : Int), (0 : Int) ≤ IntKind.i64.wrap ((↑cs.length : Int) - (2 : Int)) ∧ IntKind.i64.wrap ((↑cs.length : Int) - (2 : Int)) ≤ (↑cs.length : Int), (0 : Int) ≤ IntKind.i64.wrap ((↑cs.length : Int) - (2 : Int)) ∧ IntKind.i64.wrap ((↑cs.length : Int) - (2 : Int)) ≤ (↑cs.length : Int), (1 : Nat) ≤ (1 : Nat) ∧ (1 : Int) ≤ m - (↑(List.take (IntKind.i64.wrap ((↑cs.length : Int) - (2 : Int))).toNat cs).length : Int)] (AV.cell (Cell.int IntKind.i32 (0 : Int)), [some (Blk.obj (Ob.ab (Ab.stk (List.take (IntKind.i64.wrap ((↑cs.length : Int) - (2 : Int))).toNat cs ++ [IntKind.u32.wrap (↑(BitVec.ofInt (32 : Nat) (top cs 1) ^^^ BitVec.ofInt (32 : Nat) (top cs 0)).toNat : Int)]) m o u)))], (0 : Nat), []) := ⟨by kernel_rfl, by kernel_rfl⟩

theorem do42_2 (cs : List Int) (m o u : Int) : Good (evo 14 [.cell (.int .u32 42), sp, anyP, anyP] [stO cs m o u] [0, 1, 1, 0, 0, 0, 0, 0, 0, 1, 1]) [18, 0] [(↑cs.length : Int) < (2 : Int) ∧ (2 : Int) ≤ (65536 : Int), (u != (0 : Int)) = true] (AV.cell (Cell.int IntKind.i32 u), [some (Blk.obj (Ob.ab (Ab.stk cs m o u)))], (1 : Nat), []) := ⟨by kernel_rfl, by kernel_rfl⟩

theorem do42_3 (cs : List Int) (m o u : Int) : Good (evo 14 [.cell (.int .u32 42), sp, anyP, anyP] [stO cs m o u] [0, 1, 1, 0, 0, 0, 0, 0, 0, 2, 1]) [18, 0] [(0 : Int) ≤ (2 : Int) ∧ (2 : Int) ≤ (↑cs.length : Int) ∧ (0 : Int) ≤ (1 : Int) ∧ m - ((↑cs.length : Int) - (2 : Int)) < (1 : Int), (o != (0 : Int)) = true] (AV.cell (Cell.int IntKind.i32 o), [some (Blk.obj (Ob.ab (Ab.stk cs m o u)))], (1 : Nat), []) := ⟨by kernel_rfl, by kernel_rfl⟩

def out42 (cs : List Int) : List Int := [IntKind.u32.wrap (↑(BitVec.ofInt (32 : Nat) (top cs 1) ^^^ BitVec.ofInt (32 : Nat) (top cs 0)).toNat : Int)]

theorem row42 : DoRow 42 2 1 out42 := by
  refine ⟨fun cs m o u hc h1 h2 => CanOk.knows (j := 0) rfl fun hk => ?_, fun cs m o u h => CanOk.knows (j := 0) rfl fun hk => ?_, fun cs m o u h1 h2 => CanOk.knows (j := 0) rfl fun hk => ?_⟩
  · obtain ⟨i1, i2, i3, i4, i5⟩ := stk_inv hk
    have e : IntKind.i64.wrap ((cs.length : Int) - (2 : Int)) = (cs.length : Int) - (2 : Int) := wrap_len (by omega) (by omega) (by omega)
    have e2 : ((cs.length : Int) - (2 : Int)).toNat = cs.length - 2 := by omega
    have g := do42_1 cs m o u
    simp only [e, e2] at g
    have h := g.canT (E_valid sO_ok 14) (Nat.le_refl 1) (by ((simp only [AllP, and_true]; repeat' apply And.intro) <;> first | trivial | omega | exact ne_true (by assumption) | exact (top_ok (by assumption) _).1 | (simp only [List.length_take, List.length_append, List.length_cons, List.length_nil]; omega)))
    first
      | exact h
      | (have e3 := List.append_nil (cs.take (cs.length - 2)); rw [← e3] at h; exact h)
  · obtain ⟨i1, i2, i3, i4, i5⟩ := stk_inv hk
    exact (do42_2 cs m o u).canT (E_valid sO_ok 14) (Nat.le_refl 1) (by ((simp only [AllP, and_true]; repeat' apply And.intro) <;> first | trivial | omega | exact ne_true (by assumption) | exact (top_ok (by assumption) _).1 | (simp only [List.length_take, List.length_append, List.length_cons, List.length_nil]; omega)))
  · obtain ⟨i1, i2, i3, i4, i5⟩ := stk_inv hk
    exact (do42_3 cs m o u).canT (E_valid sO_ok 14) (Nat.le_refl 1) (by ((simp only [AllP, and_true]; repeat' apply And.intro) <;> first | trivial | omega | exact ne_true (by assumption) | exact (top_ok (by assumption) _).1 | (simp only [List.length_take, List.length_append, List.length_cons, List.length_nil]; omega)))

theorem do43_1 (cs : List Int) (m o u : Int) : Good (evo 14 [.cell (.int .u32 43), sp, anyP, anyP] [stO cs m o u] [0, 1, 1, 0, 0, 0, 0, 0, 0, 0, 0, 0, 0, 0, 0, 1, 0, 0, 0, 0, 0, 0, 0, 0, 0, 0, 0, 0, 0, 0, 0, 0, 1, 0, 0, 0, 0, 0, 0, 0, 1, 1, 0, 6, 1, 6, 0, 0, 0, 0, 0, 0]) [18, 12, 36, 1, 2] [(0 : Int) ≤ (1 : Int) ∧ (1 : Int) ≤ (↑cs.length : Int) ∧ (0 : Int) ≤ (1 : Int) ∧ (1 : Int) ≤ m - ((↑cs.length : Int) - (1 : Int)), (0 : Int) ≤ (0 : Int) ∧ (0 : Int) < (↑cs.length : Int), (0 : Int) ≤ IntKind.i64.wrap ((↑cs.length : Int) - (1 : Int)) ∧ IntKind.i64.wrap ((↑cs.length : Int) - (1 : Int)) ≤ (↑cs.length : Int), (0 : Int) ≤ IntKind.i64.wrap ((↑cs.length : Int) - (1 : Int)) ∧ IntKind.i64.wrap ((↑cs.length : Int) - (1 : Int)) ≤ (↑cs.length : Int), (1 : Nat) ≤ (1 : Nat) ∧ (1 : Int) ≤ m - (↑(List.take (IntKind.i64.wrap ((↑cs.length : Int) - (1 : Int))).toNat cs).length : Int)] (AV.cell (Cell.int IntKind.i32 (0 : Int)), [some (Blk.obj (Ob.ab (Ab.stk (List.take (IntKind.i64.wrap ((↑cs.length : Int) - (1 : Int))).toNat cs ++ [IntKind.u32.wrap (↑(BitVec.ofInt (32 : Nat) (4294967295 : Int) ^^^ BitVec.ofInt (32 : Nat) (top cs 0)).toNat : Int)]) m o u)))], (0 : Nat), []) := ⟨by kernel_rfl, by kernel_rfl⟩

theorem do43_2 (cs : List Int) (m o u : Int) : Good (evo 14 [.cell (.int .u32 43), sp, anyP, anyP] [stO cs m o u] [0, 1, 1, 0, 0, 0, 0, 0, 0, 1, 1]) [18, 0] [(↑cs.length : Int) < (1 : Int) ∧ (1 : Int) ≤ (65536 : Int), (u != (0 : Int)) = true] (AV.cell (Cell.int IntKind.i32 u), [some (Blk.obj (Ob.ab (Ab.stk cs m o u)))], (1 : Nat), []) := ⟨by kernel_rfl, by kernel_rfl⟩

theorem do43_3 (cs : List Int) (m o u : Int) : Good (evo 14 [.cell (.int .u32 43), sp, anyP, anyP] [stO cs m o u] [0, 1, 1, 0, 0, 0, 0, 0, 0, 2, 1]) [18, 0] [(0 : Int) ≤ (1 : Int) ∧ (1 : Int) ≤ (↑cs.length : Int) ∧ (0 : Int) ≤ (1 : Int) ∧ m - ((↑cs.length : Int) - (1 : Int)) < (1 : Int), (o != (0 : Int)) = true] (AV.cell (Cell.int IntKind.i32 o), [some (Blk.obj (Ob.ab (Ab.stk cs m o u)))], (1 : Nat), []) := ⟨by kernel_rfl, by kernel_rfl⟩

def out43 (cs : List Int) : List Int := [IntKind.u32.wrap (↑(BitVec.ofInt (32 : Nat) (4294967295 : Int) ^^^ BitVec.ofInt (32 : Nat) (top cs 0)).toNat : Int)]

theorem row43 : DoRow 43 1 1 out43 := by
  refine ⟨fun cs m o u hc h1 h2 => CanOk.knows (j := 0) rfl fun hk => ?_, fun cs m o u h => CanOk.knows (j := 0) rfl fun hk => ?_, fun cs m o u h1 h2 => CanOk.knows (j := 0) rfl fun hk => ?_⟩
  · obtain ⟨i1, i2, i3, i4, i5⟩ := stk_inv hk
    have e : IntKind.i64.wrap ((cs.length : Int) - (1 : Int)) = (cs.length : Int) - (1 : Int) := wrap_len (by omega) (by omega) (by omega)
    have e2 : ((cs.length : Int) - (1 : Int)).toNat = cs.length - 1 := by omega
    have g := do43_1 cs m o u
    simp only [e, e2] at g
    have h := g.canT (E_valid sO_ok 14) (Nat.le_refl 1) (by ((simp only [AllP, and_true]; repeat' apply And.intro) <;> first | trivial | omega | exact ne_true (by assumption) | exact (top_ok (by assumption) _).1 | (simp only [List.length_take, List.length_append, List.length_cons, List.length_nil]; omega)))
    first
      | exact h
      | (have e3 := List.append_nil (cs.take (cs.length - 1)); rw [← e3] at h; exact h)
  · obtain ⟨i1, i2, i3, i4, i5⟩ := stk_inv hk
    exact (do43_2 cs m o u).canT (E_valid sO_ok 14) (Nat.le_refl 1) (by ((simp only [AllP, and_true]; repeat' apply And.intro) <;> first | trivial | omega | exact ne_true (by assumption) | exact (top_ok (by assumption) _).1 | (simp only [List.length_take, List.length_append, List.length_cons, List.length_nil]; omega)))
  · obtain ⟨i1, i2, i3, i4, i5⟩ := stk_inv hk
    exact (do43_3 cs m o u).canT (E_valid sO_ok 14) (Nat.le_refl 1) (by ((simp only [AllP, and_true]; repeat' apply And.intro) <;> first | trivial | omega | exact ne_true (by assumption) | exact (top_ok (by assumption) _).1 | (simp only [List.length_take, List.length_append, List.length_cons, List.length_nil]; omega)))

theorem do44_1 (cs : List Int) (m o u : Int) : Good (evo 14 [.cell (.int .u32 44), sp, anyP, anyP] [stO cs m o u] [0, 1, 1, 0, 0, 0, 0, 0, 0, 0, 0, 0, 0, 0, 0, 1, 0, 0, 1, 0, 0, 0, 0, 0, 0, 0, 0, 0, 0, 0, 0, 0, 0, 0, 0, 0, 1, 0, 0, 0, 0, 0, 0, 0, 0, 1, 1, 5, 0, 1, 0, 6, 1, 6, 0, 0, 0, 0, 0, 0]) [18, 12, 6, 37, 4, 1, 2] [(0 : Int) ≤ (2 : Int) ∧ (2 : Int) ≤ (↑cs.length : Int) ∧ (0 : Int) ≤ (1 : Int) ∧ (1 : Int) ≤ m - ((↑cs.length : Int) - (2 : Int)), (0 : Int) ≤ (1 : Int) ∧ (1 : Int) < (↑cs.length : Int), (0 : Int) ≤ (0 : Int) ∧ (0 : Int) < (↑cs.length : Int), (0 : Int) ≤ top cs 0, (0 : Int) ≤ IntKind.i64.wrap ((↑cs.length : Int) - (2 : Int)) ∧ IntKind.i64.wrap ((↑cs.length : Int) - (2 : Int)) ≤ (↑cs.length : Int), (0 : Int) ≤ IntKind.i64.wrap ((↑cs.length : Int) - (2 : Int)) ∧ IntKind.i64.wrap ((↑cs.length : Int) - (2 : Int)) ≤ (↑cs.length : Int), (1 : Nat) ≤ (1 : Nat) ∧ (1 : Int) ≤ m - (↑(List.take (IntKind.i64.wrap ((↑cs.length : Int) - (2 : Int))).toNat cs).length : Int)] (AV.cell (Cell.int IntKind.i32 (0 : Int)), [some (Blk.obj (Ob.ab (Ab.stk (List.take (IntKind.i64.wrap ((↑cs.length : Int) - (2 : Int))).toNat cs ++ [IntKind.u32.wrap (top cs 1 * (2 : Int) ^ min (top cs 0).toNat (32 : Nat))]) m o u)))], (0 : Nat), []) := ⟨by kernel_rfl, by kernel_rfl⟩

theorem do44_2 (cs : List Int) (m o u : Int) : Good (evo 14 [.cell (.int .u32 44), sp, anyP, anyP] [stO cs m o u] [0, 1, 1, 0, 0, 0, 0, 0, 0, 1, 1]) [18, 0] [(↑cs.length : Int) < (2 : Int) ∧ (2 : Int) ≤ (65536 : Int), (u != (0 : Int)) = true] (AV.cell (Cell.int IntKind.i32 u), [some (Blk.obj (Ob.ab (Ab.stk cs m o u)))], (1 : Nat), []) := ⟨by kernel_rfl, by kernel_rfl⟩

theorem do44_3 (cs : List Int) (m o u : Int) : Good (evo 14 [.cell (.int .u32 44), sp, anyP, anyP] [stO cs m o u] [0, 1, 1, 0, 0, 0, 0, 0, 0, 2, 1]) [18, 0] [(0 : Int) ≤ (2 : Int) ∧ (2 : Int) ≤ (↑cs.length : Int) ∧ (0 : Int) ≤ (1 : Int) ∧ m - ((↑cs.length : Int) - (2 : Int)) < (1 : Int), (o != (0 : Int)) = true] (AV.cell (Cell.int IntKind.i32 o), [some (Blk.obj (Ob.ab (Ab.stk cs m o u)))], (1 : Nat), []) := ⟨by kernel_rfl, by kernel_rfl⟩

def out44 (cs : List Int) : List Int := [IntKind.u32.wrap (top cs 1 * (2 : Int) ^ min (top cs 0).toNat (32 : Nat))]

theorem row44 : DoRow 44 2 1 out44 := by
  refine ⟨fun cs m o u hc h1 h2 => CanOk.knows (j := 0) rfl fun hk => ?_, fun cs m o u h => CanOk.knows (j := 0) rfl fun hk => ?_, fun cs m o u h1 h2 => CanOk.knows (j := 0) rfl fun hk => ?_⟩
  · obtain ⟨i1, i2, i3, i4, i5⟩ := stk_inv hk
    have e : IntKind.i64.wrap ((cs.length : Int) - (2 : Int)) = (cs.length : Int) - (2 : Int) := wrap_len (by omega) (by omega) (by omega)
    have e2 : ((cs.length : Int) - (2 : Int)).toNat = cs.length - 2 := by omega
    have g := do44_1 cs m o u
    simp only [e, e2] at g
    have h := g.canT (E_valid sO_ok 14) (Nat.le_refl 1) (by ((simp only [AllP, and_true]; repeat' apply And.intro) <;> first | trivial | omega | exact ne_true (by assumption) | exact (top_ok (by assumption) _).1 | (simp only [List.length_take, List.length_append, List.length_cons, List.length_nil]; omega)))
    first
      | exact h
      | (have e3 := List.append_nil (cs.take (cs.length - 2)); rw [← e3] at h; exact h)
  · obtain ⟨i1, i2, i3, i4, i5⟩ := stk_inv hk
    exact (do44_2 cs m o u).canT (E_valid sO_ok 14) (Nat.le_refl 1) (by ((simp only [AllP, and_true]; repeat' apply And.intro) <;> first | trivial | omega | exact ne_true (by assumption) | exact (top_ok (by assumption) _).1 | (simp only [List.length_take, List.length_append, List.length_cons, List.length_nil]; omega)))
  · obtain ⟨i1, i2, i3, i4, i5⟩ := stk_inv hk
    exact (do44_3 cs m o u).canT (E_valid sO_ok 14) (Nat.le_refl 1) (by ((simp only [AllP, and_true]; repeat' apply And.intro) <;> first | trivial | omega | exact ne_true (by assumption) | exact (top_ok (by assumption) _).1 | (simp only [List.length_take, List.length_append, List.length_cons, List.length_nil]; omega)))

theorem do45_1 (cs : List Int) (m o u : Int) : Good (evo 14 [.cell (.int .u32 45), sp, anyP, anyP] [stO cs m o u] [0, 1, 1, 0, 0, 0, 0, 0, 0, 0, 0, 0, 0, 0, 0, 1, 0, 0, 1, 0, 0, 0, 0, 0, 0, 0, 0, 0, 0, 0, 0, 0, 0, 0, 0, 0, 1, 0, 0, 0, 0, 0, 0, 0, 0, 0, 1, 1, 5, 0, 0, 0, 6, 1, 6, 0, 0, 0, 0, 0, 0]) [18, 12, 6, 38, 4, 1, 2] [(0 : Int) ≤ (2 : Int) ∧ (2 : Int) ≤ (↑cs.length : Int) ∧ (0 : Int) ≤ (1 : Int) ∧ (1 : Int) ≤ m - ((↑cs.length : Int) - (2 : Int)), (0 : Int) ≤ (1 : Int) ∧ (1 : Int) < (↑cs.length : Int), (0 : Int) ≤ (0 : Int) ∧ (0 : Int) < (↑cs.length : Int), (0 : Int) ≤ top cs 0, (0 : Int) ≤ IntKind.i64.wrap ((↑cs.length : Int) - (2 : Int)) ∧ IntKind.i64.wrap ((↑cs.length : Int) - (2 : Int)) ≤ (↑cs.length : Int), (0 : Int) ≤ IntKind.i64.wrap ((↑cs.length : Int) - (2 : Int)) ∧ IntKind.i64.wrap ((↑cs.length : Int) - (2 : Int)) ≤ (↑cs.length : Int), (1 : Nat) ≤ (1 : Nat) ∧ (1 : Int) ≤ m - (↑(List.take (IntKind.i64.wrap ((↑cs.length : Int) - (2 : Int))).toNat cs).length : Int)] (AV.cell (Cell.int IntKind.i32 (0 : Int)), [some (Blk.obj (Ob.ab (Ab.stk (List.take (IntKind.i64.wrap ((↑cs.length : Int) - (2 : Int))).toNat cs ++ [(top cs 1).fdiv ((2 : Int) ^ min (top cs 0).toNat (32 : Nat))]) m o u)))], (0 : Nat), []) := ⟨by kernel_rfl, by kernel_rfl⟩

theorem do45_2 (cs : List Int) (m o u : Int) : Good (evo 14 [.cell (.int .u32 45), sp, anyP, anyP] [stO cs m o u] [0, 1, 1, 0, 0, 0, 0, 0, 0, 1, 1]) [18, 0] [(↑cs.length : Int) < (2 : Int) ∧ (2 : Int) ≤ (65536 : Int), (u != (0 : Int)) = true] (AV.cell (Cell.int IntKind.i32 u), [some (Blk.obj (Ob.ab (Ab.stk cs m o u)))], (1 : Nat), []) := ⟨by kernel_rfl, by kernel_rfl⟩

theorem do45_3 (cs : List Int) (m o u : Int) : Good (evo 14 [.cell (.int .u32 45), sp, anyP, anyP] [stO cs m o u] [0, 1, 1, 0, 0, 0, 0, 0, 0, 2, 1]) [18, 0] [(0 : Int) ≤ (2 : Int) ∧ (2 : Int) ≤ (↑cs.length : Int) ∧ (0 : Int) ≤ (1 : Int) ∧ m - ((↑cs.length : Int) - (2 : Int)) < (1 : Int), (o != (0 : Int)) = true] (AV.cell (Cell.int IntKind.i32 o), [some (Blk.obj (Ob.ab (Ab.stk cs m o u)))], (1 : Nat), []) := ⟨by kernel_rfl, by kernel_rfl⟩

def out45 (cs : List Int) : List Int := [(top cs 1).fdiv ((2 : Int) ^ min (top cs 0).toNat (32 : Nat))]

theorem row45 : DoRow 45 2 1 out45 := by
  refine ⟨fun cs m o u hc h1 h2 => CanOk.knows (j := 0) rfl fun hk => ?_, fun cs m o u h => CanOk.knows (j := 0) rfl fun hk => ?_, fun cs m o u h1 h2 => CanOk.knows (j := 0) rfl fun hk => ?_⟩
  · obtain ⟨i1, i2, i3, i4, i5⟩ := stk_inv hk
    have e : IntKind.i64.wrap ((cs.length : Int) - (2 : Int)) = (cs.length : Int) - (2 : Int) := wrap_len (by omega) (by omega) (by omega)
    have e2 : ((cs.length : Int) - (2 : Int)).toNat = cs.length - 2 := by omega
    have g := do45_1 cs m o u
    simp only [e, e2] at g
    have h := g.canT (E_valid sO_ok 14) (Nat.le_refl 1) (by ((simp only [AllP, and_true]; repeat' apply And.intro) <;> first | trivial | omega | exact ne_true (by assumption) | exact (top_ok (by assumption) _).1 | (simp only [List.length_take, List.length_append, List.length_cons, List.length_nil]; omega)))
    first
      | exact h
      | (have e3 := List.append_nil (cs.take (cs.length - 2)); rw [← e3] at h; exact h)
  · obtain ⟨i1, i2, i3, i4, i5⟩ := stk_inv hk
    exact (do45_2 cs m o u).canT (E_valid sO_ok 14) (Nat.le_refl 1) (by ((simp only [AllP, and_true]; repeat' apply And.intro) <;> first | trivial | omega | exact ne_true (by assumption) | exact (top_ok (by assumption) _).1 | (simp only [List.length_take, List.length_append, List.length_cons, List.length_nil]; omega)))
  · obtain ⟨i1, i2, i3, i4, i5⟩ := stk_inv hk
    exact (do45_3 cs m o u).canT (E_valid sO_ok 14) (Nat.le_refl 1) (by ((simp only [AllP, and_true]; repeat' apply And.intro) <;> first | trivial | omega | exact ne_true (by assumption) | exact (top_ok (by assumption) _).1 | (simp only [List.length_take, List.length_append, List.length_cons, List.length_nil]; omega)))

end Go.Proofs.Ytnoonoghemgbbaa.Sx

/-
  Do over stacks, way by way (printed by the explorer; wip/plain/gendoo.py): flags.
-/
set_option maxRecDepth 100000
set_option linter.unusedVariables false
set_option linter.unusedSimpArgs false
namespace Go.Proofs.Ytnoonoghemgbbaa.Sx
open Go

theorem do46_1 (cs : List Int) (m o u : Int) : Good (evof 14 [.cell (.int .u32 46), sp, anyP, anyP] [stO cs m o u] [0, 1, 1, 0, 0, 0, 0, 0, 0, 0, 0, 0, 0, 0, 0, 1, 0, 0, 1, 0, 0, 0, 0, 0, 0, 0, 0, 0, 0, 0, 0, 0, 0, 0, 0, 0, 1, 0, 0, 0, 0, 0, 0, 0, 0, 0, 0, 1, 1, 6, 0, 0, 0, 7, 1, 6, 0, 0, 0, 0, 0, 0]) [18, 12, 6, 43, 1, 2] [(0 : Int) ≤ (2 : Int) ∧ (2 : Int) ≤ (↑cs.length : Int) ∧ (0 : Int) ≤ (1 : Int) ∧ (1 : Int) ≤ m - ((↑cs.length : Int) - (2 : Int)), (0 : Int) ≤ (1 : Int) ∧ (1 : Int) < (↑cs.length : Int), (0 : Int) ≤ (0 : Int) ∧ (0 : Int) < (↑cs.length : Int), (0 : Int) ≤ IntKind.i64.wrap ((↑cs.length : Int) - (2 : Int)) ∧ IntKind.i64.wrap ((↑cs.length : Int) - (2 : Int)) ≤ (↑cs.length : Int), (0 : Int) ≤ IntKind.i64.wrap ((↑cs.length : Int) - (2 : Int)) ∧ IntKind.i64.wrap ((↑cs.length : Int) - (2 : Int)) ≤ (↑cs.length : Int), (1 : Nat) ≤ (1 : Nat) ∧ (1 : Int) ≤ m - (↑(List.take (IntKind.i64.wrap ((↑cs.length : Int) - (2 : Int))).toNat cs).length : Int)] (AV.cell (Cell.int IntKind.i32 (0 : Int)), [some (Blk.obj (Ob.ab (Ab.stk (List.take (IntKind.i64.wrap ((↑cs.length : Int) - (2 : Int))).toNat cs ++ [if (top cs 1 == top cs 0) = true then (4294967295 : Int) else (0 : Int)]) m o u)))], (0 : Nat), []) := ⟨by kernel_rfl, by kernel_rfl⟩

theorem do46_2 (cs : List Int) (m o u : Int) : Good (evof 14 [.cell (.int .u32 46), sp, anyP, anyP] [stO cs m o u] [0, 1, 1, 0, 0, 0, 0, 0, 0, 1, 1]) [18, 0] [(↑cs.length : Int) < (2 : Int) ∧ (2 : Int) ≤ (65536 : Int), (u != (0 : Int)) = true] (AV.cell (Cell.int IntKind.i32 u), [some (Blk.obj (Ob.ab (Ab.stk cs m o u)))], (1 : Nat), []) := ⟨by kernel_rfl, by kernel_rfl⟩

theorem do46_3 (cs : List Int) (m o u : Int) : Good (evof 14 [.cell (.int .u32 46), sp, anyP, anyP] [stO cs m o u] [0, 1, 1, 0, 0, 0, 0, 0, 0, 2, 1]) [18, 0] [(0 : Int) ≤ (2 : Int) ∧ (2 : Int) ≤ (↑cs.length : Int) ∧ (0 : Int) ≤ (1 : Int) ∧ m - ((↑cs.length : Int) - (2 : Int)) < (1 : Int), (o != (0 : Int)) = true] (AV.cell (Cell.int IntKind.i32 o), [some (Blk.obj (Ob.ab (Ab.stk cs m o u)))], (1 : Nat), []) := ⟨by kernel_rfl, by kernel_rfl⟩

def out46 (cs : List Int) : List Int := [if (top cs 1 == top cs 0) = true then (4294967295 : Int) else (0 : Int)]

theorem row46 : DoRow 46 2 1 out46 := by
  refine ⟨fun cs m o u hc h1 h2 => CanOk.knows (j := 0) rfl fun hk => ?_, fun cs m o u h => CanOk.knows (j := 0) rfl fun hk => ?_, fun cs m o u h1 h2 => CanOk.knows (j := 0) rfl fun hk => ?_⟩
  · obtain ⟨i1, i2, i3, i4, i5⟩ := stk_inv hk
    have e : IntKind.i64.wrap ((cs.length : Int) - (2 : Int)) = (cs.length : Int) - (2 : Int) := wrap_len (by omega) (by omega) (by omega)
    have e2 : ((cs.length : Int) - (2 : Int)).toNat = cs.length - 2 := by omega
    have g := do46_1 cs m o u
    simp only [e, e2] at g
    have h := g.canT (E_valid sOf_ok 14) (Nat.le_refl 1) (by ((simp only [AllP, and_true]; repeat' apply And.intro) <;> first | trivial | omega | exact ne_true (by assumption) | exact (top_ok (by assumption) _).1 | (simp only [List.length_take, List.length_append, List.length_cons, List.length_nil]; omega)))
    first
      | exact h
      | (have e3 := List.append_nil (cs.take (cs.length - 2)); rw [← e3] at h; exact h)
  · obtain ⟨i1, i2, i3, i4, i5⟩ := stk_inv hk
    exact (do46_2 cs m o u).canT (E_valid sOf_ok 14) (Nat.le_refl 1) (by ((simp only [AllP, and_true]; repeat' apply And.intro) <;> first | trivial | omega | exact ne_true (by assumption) | exact (top_ok (by assumption) _).1 | (simp only [List.length_take, List.length_append, List.length_cons, List.length_nil]; omega)))
  · obtain ⟨i1, i2, i3, i4, i5⟩ := stk_inv hk
    exact (do46_3 cs m o u).canT (E_valid sOf_ok 14) (Nat.le_refl 1) (by ((simp only [AllP, and_true]; repeat' apply And.intro) <;> first | trivial | omega | exact ne_true (by assumption) | exact (top_ok (by assumption) _).1 | (simp only [List.length_take, List.length_append, List.length_cons, List.length_nil]; omega)))

theorem do47_1 (cs : List Int) (m o u : Int) : Good (evof 14 [.cell (.int .u32 47), sp, anyP, anyP] [stO cs m o u] [0, 1, 1, 0, 0, 0, 0, 0, 0, 0, 0, 0, 0, 0, 0, 1, 0, 0, 1, 0, 0, 0, 0, 0, 0, 0, 0, 0, 0, 0, 0, 0, 0, 0, 0, 0, 1, 0, 0, 0, 0, 0, 0, 0, 0, 0, 0, 0, 1, 1, 6, 0, 0, 0, 7, 1, 6, 0, 0, 0, 0, 0, 0]) [18, 12, 6, 44, 1, 2] [(0 : Int) ≤ (2 : Int) ∧ (2 : Int) ≤ (↑cs.length : Int) ∧ (0 : Int) ≤ (1 : Int) ∧ (1 : Int) ≤ m - ((↑cs.length : Int) - (2 : Int)), (0 : Int) ≤ (1 : Int) ∧ (1 : Int) < (↑cs.length : Int), (0 : Int) ≤ (0 : Int) ∧ (0 : Int) < (↑cs.length : Int), (0 : Int) ≤ IntKind.i64.wrap ((↑cs.length : Int) - (2 : Int)) ∧ IntKind.i64.wrap ((↑cs.length : Int) - (2 : Int)) ≤ (↑cs.length : Int), (0 : Int) ≤ IntKind.i64.wrap ((↑cs.length : Int) - (2 : Int)) ∧ IntKind.i64.wrap ((↑cs.length : Int) - (2 : Int)) ≤ (↑cs.length : Int), (1 : Nat) ≤ (1 : Nat) ∧ (1 : Int) ≤ m - (↑(List.take (IntKind.i64.wrap ((↑cs.length : Int) - (2 : Int))).toNat cs).length : Int)] (AV.cell (Cell.int IntKind.i32 (0 : Int)), [some (Blk.obj (Ob.ab (Ab.stk (List.take (IntKind.i64.wrap ((↑cs.length : Int) - (2 : Int))).toNat cs ++ [if (top cs 1 != top cs 0) = true then (4294967295 : Int) else (0 : Int)]) m o u)))], (0 : Nat), []) := ⟨by kernel_rfl, by kernel_rfl⟩

theorem do47_2 (cs : List Int) (m o u : Int) : Good (evof 14 [.cell (.int .u32 47), sp, anyP, anyP] [stO cs m o u] [0, 1, 1, 0, 0, 0, 0, 0, 0, 1, 1]) [18, 0] [(↑cs.length : Int) < (2 : Int) ∧ (2 : Int) ≤ (65536 : Int), (u != (0 : Int)) = true] (AV.cell (Cell.int IntKind.i32 u), [some (Blk.obj (Ob.ab (Ab.stk cs m o u)))], (1 : Nat), []) := ⟨by kernel_rfl, by kernel_rfl⟩

theorem do47_3 (cs : List Int) (m o u : Int) : Good (evof 14 [.cell (.int .u32 47), sp, anyP, anyP] [stO cs m o u] [0, 1, 1, 0, 0, 0, 0, 0, 0, 2, 1]) [18, 0] [(0 : Int) ≤ (2 : Int) ∧ (2 : Int) ≤ (↑cs.length : Int) ∧ (0 : Int) ≤ (1 : Int) ∧ m - ((↑cs.length : Int) - (2 : Int)) < (1 : Int), (o != (0 : Int)) = true] (AV.cell (Cell.int IntKind.i32 o), [some (Blk.obj (Ob.ab (Ab.stk cs m o u)))], (1 : Nat), []) := ⟨by kernel_rfl, by kernel_rfl⟩

def out47 (cs : List Int) : List Int := [if (top cs 1 != top cs 0) = true then (4294967295 : Int) else (0 : Int)]

theorem row47 : DoRow 47 2 1 out47 := by
  refine ⟨fun cs m o u hc h1 h2 => CanOk.knows (j := 0) rfl fun hk => ?_, fun cs m o u h => CanOk.knows (j := 0) rfl fun hk => ?_, fun cs m o u h1 h2 => CanOk.knows (j := 0) rfl fun hk => ?_⟩
  · obtain ⟨i1, i2, i3, i4, i5⟩ := stk_inv hk
    have e : IntKind.i64.wrap ((cs.length : Int) - (2 : Int)) = (cs.length : Int) - (2 : Int) := wrap_len (by omega) (by omega) (by omega)
    have e2 : ((cs.length : Int) - (2 : Int)).toNat = cs.length - 2 := by omega
    have g := do47_1 cs m o u
    simp only [e, e2] at g
    have h := g.canT (E_valid sOf_ok 14) (Nat.le_refl 1) (by ((simp only [AllP, and_true]; repeat' apply And.intro) <;> first | trivial | omega | exact ne_true (by assumption) | exact (top_ok (by assumption) _).1 | (simp only [List.length_take, List.length_append, List.length_cons, List.length_nil]; omega)))
    first
      | exact h
      | (have e3 := List.append_nil (cs.take (cs.length - 2)); rw [← e3] at h; exact h)
  · obtain ⟨i1, i2, i3, i4, i5⟩ := stk_inv hk
    exact (do47_2 cs m o u).canT (E_valid sOf_ok 14) (Nat.le_refl 1) (by ((simp only [AllP, and_true]; repeat' apply And.intro) <;> first | trivial | omega | exact ne_true (by assumption) | exact (top_ok (by assumption) _).1 | (simp only [List.length_take, List.length_append, List.length_cons, List.length_nil]; omega)))
  · obtain ⟨i1, i2, i3, i4, i5⟩ := stk_inv hk
    exact (do47_3 cs m o u).canT (E_valid sOf_ok 14) (Nat.le_refl 1) (by ((simp only [AllP, and_true]; repeat' apply And.intro) <;> first | trivial | omega | exact ne_true (by assumption) | exact (top_ok (by assumption) _).1 | (simp only [List.length_take, List.length_append, List.length_cons, List.length_nil]; omega)))

theorem do48_1 (cs : List Int) (m o u : Int) : Good (evof 14 [.cell (.int .u32 48), sp, anyP, anyP] [stO cs m o u] [0, 1, 1, 0, 0, 0, 0, 0, 0, 0, 0, 0, 0, 0, 0, 1, 0, 0, 1, 0, 0, 0, 0, 0, 0, 0, 0, 0, 0, 0, 0, 0, 0, 0, 0, 0, 1, 0, 0, 0, 0, 0, 0, 0, 0, 0, 0, 0, 0, 0, 0, 1, 1, 6, 0, 0, 0, 7, 1, 6, 0, 0, 0, 0, 0, 0]) [18, 12, 6, 47, 1, 2] [(0 : Int) ≤ (2 : Int) ∧ (2 : Int) ≤ (↑cs.length : Int) ∧ (0 : Int) ≤ (1 : Int) ∧ (1 : Int) ≤ m - ((↑cs.length : Int) - (2 : Int)), (0 : Int) ≤ (1 : Int) ∧ (1 : Int) < (↑cs.length : Int), (0 : Int) ≤ (0 : Int) ∧ (0 : Int) < (↑cs.length : Int), (0 : Int) ≤ IntKind.i64.wrap ((↑cs.length : Int) - (2 : Int)) ∧ IntKind.i64.wrap ((↑cs.length : Int) - (2 : Int)) ≤ (↑cs.length : Int), (0 : Int) ≤ IntKind.i64.wrap ((↑cs.length : Int) - (2 : Int)) ∧ IntKind.i64.wrap ((↑cs.length : Int) - (2 : Int)) ≤ (↑cs.length : Int), (1 : Nat) ≤ (1 : Nat) ∧ (1 : Int) ≤ m - (↑(List.take (IntKind.i64.wrap ((↑cs.length : Int) - (2 : Int))).toNat cs).length : Int)] (AV.cell (Cell.int IntKind.i32 (0 : Int)), [some (Blk.obj (Ob.ab (Ab.stk (List.take (IntKind.i64.wrap ((↑cs.length : Int) - (2 : Int))).toNat cs ++ [if decide (IntKind.i32.wrap (top cs 1) < IntKind.i32.wrap (top cs 0)) = true then (4294967295 : Int) else (0 : Int)]) m o u)))], (0 : Nat), []) := ⟨by kernel_rfl, by kernel_rfl⟩

theorem do48_2 (cs : List Int) (m o u : Int) : Good (evof 14 [.cell (.int .u32 48), sp, anyP, anyP] [stO cs m o u] [0, 1, 1, 0, 0, 0, 0, 0, 0, 1, 1]) [18, 0] [(↑cs.length : Int) < (2 : Int) ∧ (2 : Int) ≤ (65536 : Int), (u != (0 : Int)) = true] (AV.cell (Cell.int IntKind.i32 u), [some (Blk.obj (Ob.ab (Ab.stk cs m o u)))], (1 : Nat), []) := ⟨by kernel_rfl, by kernel_rfl⟩

theorem do48_3 (cs : List Int) (m o u : Int) : Good (evof 14 [.cell (.int .u32 48), sp, anyP, anyP] [stO cs m o u] [0, 1, 1, 0, 0, 0, 0, 0, 0, 2, 1]) [18, 0] [(0 : Int) ≤ (2 : Int) ∧ (2 : Int) ≤ (↑cs.length : Int) ∧ (0 : Int) ≤ (1 : Int) ∧ m - ((↑cs.length : Int) - (2 : Int)) < (1 : Int), (o != (0 : Int)) = true] (AV.cell (Cell.int IntKind.i32 o), [some (Blk.obj (Ob.ab (Ab.stk cs m o u)))], (1 : Nat), []) := ⟨by kernel_rfl, by kernel_rfl⟩

def out48 (cs : List Int) : List Int := [if decide (IntKind.i32.wrap (top cs 1) < IntKind.i32.wrap (top cs 0)) = true then (4294967295 : Int) else (0 : Int)]

theorem row48 : DoRow 48 2 1 out48 := by
  refine ⟨fun cs m o u hc h1 h2 => CanOk.knows (j := 0) rfl fun hk => ?_, fun cs m o u h => CanOk.knows (j := 0) rfl fun hk => ?_, fun cs m o u h1 h2 => CanOk.knows (j := 0) rfl fun hk => ?_⟩
  · obtain ⟨i1, i2, i3, i4, i5⟩ := stk_inv hk
    have e : IntKind.i64.wrap ((cs.length : Int) - (2 : Int)) = (cs.length : Int) - (2 : Int) := wrap_len (by omega) (by omega) (by omega)
    have e2 : ((cs.length : Int) - (2 : Int)).toNat = cs.length - 2 := by omega
    have g := do48_1 cs m o u
    simp only [e, e2] at g
    have h := g.canT (E_valid sOf_ok 14) (Nat.le_refl 1) (by ((simp only [AllP, and_true]; repeat' apply And.intro) <;> first | trivial | omega | exact ne_true (by assumption) | exact (top_ok (by assumption) _).1 | (simp only [List.length_take, List.length_append, List.length_cons, List.length_nil]; omega)))
    first
      | exact h
      | (have e3 := List.append_nil (cs.take (cs.length - 2)); rw [← e3] at h; exact h)
  · obtain ⟨i1, i2, i3, i4, i5⟩ := stk_inv hk
    exact (do48_2 cs m o u).canT (E_valid sOf_ok 14) (Nat.le_refl 1) (by ((simp only [AllP, and_true]; repeat' apply And.intro) <;> first | trivial | omega | exact ne_true (by assumption) | exact (top_ok (by assumption) _).1 | (simp only [List.length_take, List.length_append, List.length_cons, List.length_nil]; omega)))
  · obtain ⟨i1, i2, i3, i4, i5⟩ := stk_inv hk
    exact (do48_3 cs m o u).canT (E_valid sOf_ok 14) (Nat.le_refl 1) (by ((simp only [AllP, and_true]; repeat' apply And.intro) <;> first | trivial | omega | exact ne_true (by assumption) | exact (top_ok (by assumption) _).1 | (simp only [List.length_take, List.length_append, List.length_cons, List.length_nil]; omega)))

theorem do49_1 (cs : List Int) (m o u : Int) : Good (evof 14 [.cell (.int .u32 49), sp, anyP, anyP] [stO cs m o u] [0, 1, 1, 0, 0, 0, 0, 0, 0, 0, 0, 0, 0, 0, 0, 1, 0, 0, 1, 0, 0, 0, 0, 0, 0, 0, 0, 0, 0, 0, 0, 0, 0, 0, 0, 0, 1, 0, 0, 0, 0, 0, 0, 0, 0, 0, 0, 0, 0, 0, 0, 0, 1, 1, 6, 0, 0, 0, 7, 1, 6, 0, 0, 0, 0, 0, 0]) [18, 12, 6, 48, 1, 2] [(0 : Int) ≤ (2 : Int) ∧ (2 : Int) ≤ (↑cs.length : Int) ∧ (0 : Int) ≤ (1 : Int) ∧ (1 : Int) ≤ m - ((↑cs.length : Int) - (2 : Int)), (0 : Int) ≤ (1 : Int) ∧ (1 : Int) < (↑cs.length : Int), (0 : Int) ≤ (0 : Int) ∧ (0 : Int) < (↑cs.length : Int), (0 : Int) ≤ IntKind.i64.wrap ((↑cs.length : Int) - (2 : Int)) ∧ IntKind.i64.wrap ((↑cs.length : Int) - (2 : Int)) ≤ (↑cs.length : Int), (0 : Int) ≤ IntKind.i64.wrap ((↑cs.length : Int) - (2 : Int)) ∧ IntKind.i64.wrap ((↑cs.length : Int) - (2 : Int)) ≤ (↑cs.length : Int), (1 : Nat) ≤ (1 : Nat) ∧ (1 : Int) ≤ m - (↑(List.take (IntKind.i64.wrap ((↑cs.length : Int) - (2 : Int))).toNat cs).length : Int)] (AV.cell (Cell.int IntKind.i32 (0 : Int)), [some (Blk.obj (Ob.ab (Ab.stk (List.take (IntKind.i64.wrap ((↑cs.length : Int) - (2 : Int))).toNat cs ++ [if decide (IntKind.i32.wrap (top cs 1) > IntKind.i32.wrap (top cs 0)) = true then (4294967295 : Int) else (0 : Int)]) m o u)))], (0 : Nat), []) := ⟨by kernel_rfl, by kernel_rfl⟩

theorem do49_2 (cs : List Int) (m o u : Int) : Good (evof 14 [.cell (.int .u32 49), sp, anyP, anyP] [stO cs m o u] [0, 1, 1, 0, 0, 0, 0, 0, 0, 1, 1]) [18, 0] [(↑cs.length : Int) < (2 : Int) ∧ (2 : Int) ≤ (65536 : Int), (u != (0 : Int)) = true] (AV.cell (Cell.int IntKind.i32 u), [some (Blk.obj (Ob.ab (Ab.stk cs m o u)))], (1 : Nat), []) := ⟨by kernel_rfl, by kernel_rfl⟩

theorem do49_3 (cs : List Int) (m o u : Int) : Good (evof 14 [.cell (.int .u32 49), sp, anyP, anyP] [stO cs m o u] [0, 1, 1, 0, 0, 0, 0, 0, 0, 2, 1]) [18, 0] [(0 : Int) ≤ (2 : Int) ∧ (2 : Int) ≤ (↑cs.length : Int) ∧ (0 : Int) ≤ (1 : Int) ∧ m - ((↑cs.length : Int) - (2 : Int)) < (1 : Int), (o != (0 : Int)) = true] (AV.cell (Cell.int IntKind.i32 o), [some (Blk.obj (Ob.ab (Ab.stk cs m o u)))], (1 : Nat), []) := ⟨by kernel_rfl, by kernel_rfl⟩

def out49 (cs : List Int) : List Int := [if decide (IntKind.i32.wrap (top cs 1) > IntKind.i32.wrap (top cs 0)) = true then (4294967295 : Int) else (0 : Int)]

theorem row49 : DoRow 49 2 1 out49 := by
  refine ⟨fun cs m o u hc h1 h2 => CanOk.knows (j := 0) rfl fun hk => ?_, fun cs m o u h => CanOk.knows (j := 0) rfl fun hk => ?_, fun cs m o u h1 h2 => CanOk.knows (j := 0) rfl fun hk => ?_⟩
  · obtain ⟨i1, i2, i3, i4, i5⟩ := stk_inv hk
    have e : IntKind.i64.wrap ((cs.length : Int) - (2 : Int)) = (cs.length : Int) - (2 : Int) := wrap_len (by omega) (by omega) (by omega)
    have e2 : ((cs.length : Int) - (2 : Int)).toNat = cs.length - 2 := by omega
    have g := do49_1 cs m o u
    simp only [e, e2] at g
    have h := g.canT (E_valid sOf_ok 14) (Nat.le_refl 1) (by ((simp only [AllP, and_true]; repeat' apply And.intro) <;> first | trivial | omega | exact ne_true (by assumption) | exact (top_ok (by assumption) _).1 | (simp only [List.length_take, List.length_append, List.length_cons, List.length_nil]; omega)))
    first
      | exact h
      | (have e3 := List.append_nil (cs.take (cs.length - 2)); rw [← e3] at h; exact h)
  · obtain ⟨i1, i2, i3, i4, i5⟩ := stk_inv hk
    exact (do49_2 cs m o u).canT (E_valid sOf_ok 14) (Nat.le_refl 1) (by ((simp only [AllP, and_true]; repeat' apply And.intro) <;> first | trivial | omega | exact ne_true (by assumption) | exact (top_ok (by assumption) _).1 | (simp only [List.length_take, List.length_append, List.length_cons, List.length_nil]; omega)))
  · obtain ⟨i1, i2, i3, i4, i5⟩ := stk_inv hk
    exact (do49_3 cs m o u).canT (E_valid sOf_ok 14) (Nat.le_refl 1) (by ((simp only [AllP, and_true]; repeat' apply And.intro) <;> first | trivial | omega | exact ne_true (by assumption) | exact (top_ok (by assumption) _).1 | (simp only [List.length_take, List.length_append, List.length_cons, List.length_nil]; omega)))

theorem do50_1 (cs : List Int) (m o u : Int) : Good (evof 14 [.cell (.int .u32 50), sp, anyP, anyP] [stO cs m o u] [0, 1, 1, 0, 0, 0, 0, 0, 0, 0, 0, 0, 0, 0, 0, 1, 0, 0, 1, 0, 0, 0, 0, 0, 0, 0, 0, 0, 0, 0, 0, 0, 0, 0, 0, 0, 1, 0, 0, 0, 0, 0, 0, 0, 0, 0, 0, 0, 0, 1, 1, 6, 0, 0, 0, 7, 1, 6, 0, 0, 0, 0, 0, 0]) [18, 12, 6, 45, 1, 2] [(0 : Int) ≤ (2 : Int) ∧ (2 : Int) ≤ (↑cs.length : Int) ∧ (0 : Int) ≤ (1 : Int) ∧ (1 : Int) ≤ m - ((↑cs.length : Int) - (2 : Int)), (0 : Int) ≤ (1 : Int) ∧ (1 : Int) < (↑cs.length : Int), (0 : Int) ≤ (0 : Int) ∧ (0 : Int) < (↑cs.length : Int), (0 : Int) ≤ IntKind.i64.wrap ((↑cs.length : Int) - (2 : Int)) ∧ IntKind.i64.wrap ((↑cs.length : Int) - (2 : Int)) ≤ (↑cs.length : Int), (0 : Int) ≤ IntKind.i64.wrap ((↑cs.length : Int) - (2 : Int)) ∧ IntKind.i64.wrap ((↑cs.length : Int) - (2 : Int)) ≤ (↑cs.length : Int), (1 : Nat) ≤ (1 : Nat) ∧ (1 : Int) ≤ m - (↑(List.take (IntKind.i64.wrap ((↑cs.length : Int) - (2 : Int))).toNat cs).length : Int)] (AV.cell (Cell.int IntKind.i32 (0 : Int)), [some (Blk.obj (Ob.ab (Ab.stk (List.take (IntKind.i64.wrap ((↑cs.length : Int) - (2 : Int))).toNat cs ++ [if decide (top cs 1 < top cs 0) = true then (4294967295 : Int) else (0 : Int)]) m o u)))], (0 : Nat), []) := ⟨by kernel_rfl, by kernel_rfl⟩

theorem do50_2 (cs : List Int) (m o u : Int) : Good (evof 14 [.cell (.int .u32 50), sp, anyP, anyP] [stO cs m o u] [0, 1, 1, 0, 0, 0, 0, 0, 0, 1, 1]) [18, 0] [(↑cs.length : Int) < (2 : Int) ∧ (2 : Int) ≤ (65536 : Int), (u != (0 : Int)) = true] (AV.cell (Cell.int IntKind.i32 u), [some (Blk.obj (Ob.ab (Ab.stk cs m o u)))], (1 : Nat), []) := ⟨by kernel_rfl, by kernel_rfl⟩

theorem do50_3 (cs : List Int) (m o u : Int) : Good (evof 14 [.cell (.int .u32 50), sp, anyP, anyP] [stO cs m o u] [0, 1, 1, 0, 0, 0, 0, 0, 0, 2, 1]) [18, 0] [(0 : Int) ≤ (2 : Int) ∧ (2 : Int) ≤ (↑cs.length : Int) ∧ (0 : Int) ≤ (1 : Int) ∧ m - ((↑cs.length : Int) - (2 : Int)) < (1 : Int), (o != (0 : Int)) = true] (AV.cell (Cell.int IntKind.i32 o), [some (Blk.obj (Ob.ab (Ab.stk cs m o u)))], (1 : Nat), []) := ⟨by kernel_rfl, by kernel_rfl⟩

def out50 (cs : List Int) : List Int := [if decide (top cs 1 < top cs 0) = true then (4294967295 : Int) else (0 : Int)]

theorem row50 : DoRow 50 2 1 out50 := by
  refine ⟨fun cs m o u hc h1 h2 => CanOk.knows (j := 0) rfl fun hk => ?_, fun cs m o u h => CanOk.knows (j := 0) rfl fun hk => ?_, fun cs m o u h1 h2 => CanOk.knows (j := 0) rfl fun hk => ?_⟩
  · obtain ⟨i1, i2, i3, i4, i5⟩ := stk_inv hk
    have e : IntKind.i64.wrap ((cs.length : Int) - (2 : Int)) = (cs.length : Int) - (2 : Int) := wrap_len (by omega) (by omega) (by omega)
    have e2 : ((cs.length : Int) - (2 : Int)).toNat = cs.length - 2 := by omega
    have g := do50_1 cs m o u
    simp only [e, e2] at g
    have h := g.canT (E_valid sOf_ok 14) (Nat.le_refl 1) (by ((simp only [AllP, and_true]; repeat' apply And.intro) <;> first | trivial | omega | exact ne_true (by assumption) | exact (top_ok (by assumption) _).1 | (simp only [List.length_take, List.length_append, List.length_cons, List.length_nil]; omega)))
    first
      | exact h
      | (have e3 := List.append_nil (cs.take (cs.length - 2)); rw [← e3] at h; exact h)
  · obtain ⟨i1, i2, i3, i4, i5⟩ := stk_inv hk
    exact (do50_2 cs m o u).canT (E_valid sOf_ok 14) (Nat.le_refl 1) (by ((simp only [AllP, and_true]; repeat' apply And.intro) <;> first | trivial | omega | exact ne_true (by assumption) | exact (top_ok (by assumption) _).1 | (simp only [List.length_take, List.length_append, List.length_cons, List.length_nil]; omega)))
  · obtain ⟨i1, i2, i3, i4, i5⟩ := stk_inv hk
    exact (do50_3 cs m o u).canT (E_valid sOf_ok 14) (Nat.le_refl 1) (by ((simp only [AllP, and_true]; repeat' apply And.intro) <;> first | trivial | omega | exact ne_true (by assumption) | exact (top_ok (by assumption) _).1 | (simp only [List.length_take, List.length_append, List.length_cons, List.length_nil]; omega)))

theorem do51_1 (cs : List Int) (m o u : Int) : Good (evof 14 [.cell (.int .u32 51), sp, anyP, anyP] [stO cs m o u] [0, 1, 1, 0, 0, 0, 0, 0, 0, 0, 0, 0, 0, 0, 0, 1, 0, 0, 1, 0, 0, 0, 0, 0, 0, 0, 0, 0, 0, 0, 0, 0, 0, 0, 0, 0, 1, 0, 0, 0, 0, 0, 0, 0, 0, 0, 0, 0, 0, 0, 1, 1, 6, 0, 0, 0, 7, 1, 6, 0, 0, 0, 0, 0, 0]) [18, 12, 6, 46, 1, 2] [(0 : Int) ≤ (2 : Int) ∧ (2 : Int) ≤ (↑cs.length : Int) ∧ (0 : Int) ≤ (1 : Int) ∧ (1 : Int) ≤ m - ((↑cs.length : Int) - (2 : Int)), (0 : Int) ≤ (1 : Int) ∧ (1 : Int) < (↑cs.length : Int), (0 : Int) ≤ (0 : Int) ∧ (0 : Int) < (↑cs.length : Int), (0 : Int) ≤ IntKind.i64.wrap ((↑cs.length : Int) - (2 : Int)) ∧ IntKind.i64.wrap ((↑cs.length : Int) - (2 : Int)) ≤ (↑cs.length : Int), (0 : Int) ≤ IntKind.i64.wrap ((↑cs.length : Int) - (2 : Int)) ∧ IntKind.i64.wrap ((↑cs.length : Int) - (2 : Int)) ≤ (↑cs.length : Int), (1 : Nat) ≤ (1 : Nat) ∧ (1 : Int) ≤ m - (↑(List.take (IntKind.i64.wrap ((↑cs.length : Int) - (2 : Int))).toNat cs).length : Int)] (AV.cell (Cell.int IntKind.i32 (0 : Int)), [some (Blk.obj (Ob.ab (Ab.stk (List.take (IntKind.i64.wrap ((↑cs.length : Int) - (2 : Int))).toNat cs ++ [if decide (top cs 1 > top cs 0) = true then (4294967295 : Int) else (0 : Int)]) m o u)))], (0 : Nat), []) := ⟨by kernel_rfl, by kernel_rfl⟩

theorem do51_2 (cs : List Int) (m o u : Int) : Good (evof 14 [.cell (.int .u32 51), sp, anyP, anyP] [stO cs m o u] [0, 1, 1, 0, 0, 0, 0, 0, 0, 1, 1]) [18, 0] [(↑cs.length : Int) < (2 : Int) ∧ (2 : Int) ≤ (65536 : Int), (u != (0 : Int)) = true] (AV.cell (Cell.int IntKind.i32 u), [some (Blk.obj (Ob.ab (Ab.stk cs m o u)))], (1 : Nat), []) := ⟨by kernel_rfl, by kernel_rfl⟩

theorem do51_3 (cs : List Int) (m o u : Int) : Good (evof 14 [.cell (.int .u32 51), sp, anyP, anyP] [stO cs m o u] [0, 1, 1, 0, 0, 0, 0, 0, 0, 2, 1]) [18, 0] [(0 : Int) ≤ (2 : Int) ∧ (2 : Int) ≤ (↑cs.length : Int) ∧ (0 : Int) ≤ (1 : Int) ∧ m - ((↑cs.length : Int) - (2 : Int)) < (1 : Int), (o != (0 : Int)) = true] (AV.cell (Cell.int IntKind.i32 o), [some (Blk.obj (Ob.ab (Ab.stk cs m o u)))], (1 : Nat), []) := ⟨by kernel_rfl, by kernel_rfl⟩

def out51 (cs : List Int) : List Int := [if decide (top cs 1 > top cs 0) = true then (4294967295 : Int) else (0 : Int)]

theorem row51 : DoRow 51 2 1 out51 := by
  refine ⟨fun cs m o u hc h1 h2 => CanOk.knows (j := 0) rfl fun hk => ?_, fun cs m o u h => CanOk.knows (j := 0) rfl fun hk => ?_, fun cs m o u h1 h2 => CanOk.knows (j := 0) rfl fun hk => ?_⟩
  · obtain ⟨i1, i2, i3, i4, i5⟩ := stk_inv hk
    have e : IntKind.i64.wrap ((cs.length : Int) - (2 : Int)) = (cs.length : Int) - (2 : Int) := wrap_len (by omega) (by omega) (by omega)
    have e2 : ((cs.length : Int) - (2 : Int)).toNat = cs.length - 2 := by omega
    have g := do51_1 cs m o u
    simp only [e, e2] at g
    have h := g.canT (E_valid sOf_ok 14) (Nat.le_refl 1) (by ((simp only [AllP, and_true]; repeat' apply And.intro) <;> first | trivial | omega | exact ne_true (by assumption) | exact (top_ok (by assumption) _).1 | (simp only [List.length_take, List.length_append, List.length_cons, List.length_nil]; omega)))
    first
      | exact h
      | (have e3 := List.append_nil (cs.take (cs.length - 2)); rw [← e3] at h; exact h)
  · obtain ⟨i1, i2, i3, i4, i5⟩ := stk_inv hk
    exact (do51_2 cs m o u).canT (E_valid sOf_ok 14) (Nat.le_refl 1) (by ((simp only [AllP, and_true]; repeat' apply And.intro) <;> first | trivial | omega | exact ne_true (by assumption) | exact (top_ok (by assumption) _).1 | (simp only [List.length_take, List.length_append, List.length_cons, List.length_nil]; omega)))
  · obtain ⟨i1, i2, i3, i4, i5⟩ := stk_inv hk
    exact (do51_3 cs m o u).canT (E_valid sOf_ok 14) (Nat.le_refl 1) (by ((simp only [AllP, and_true]; repeat' apply And.intro) <;> first | trivial | omega | exact ne_true (by assumption) | exact (top_ok (by assumption) _).1 | (simp only [List.length_take, List.length_append, List.length_cons, List.length_nil]; omega)))

theorem do52_1 (cs : List Int) (m o u : Int) : Good (evof 14 [.cell (.int .u32 52), sp, anyP, anyP] [stO cs m o u] [0, 1, 1, 0, 0, 0, 0, 0, 0, 0, 0, 0, 0, 0, 0, 1, 0, 0, 0, 0, 0, 0, 0, 0, 0, 0, 0, 0, 0, 0, 0, 0, 1, 0, 0, 0, 0, 0, 0, 0, 0, 1, 0, 1, 0, 6, 1, 6, 0, 0, 0, 0, 0, 0]) [18, 12, 37, 1, 2] [(0 : Int) ≤ (1 : Int) ∧ (1 : Int) ≤ (↑cs.length : Int) ∧ (0 : Int) ≤ (1 : Int) ∧ (1 : Int) ≤ m - ((↑cs.length : Int) - (1 : Int)), (0 : Int) ≤ (0 : Int) ∧ (0 : Int) < (↑cs.length : Int), (0 : Int) ≤ IntKind.i64.wrap ((↑cs.length : Int) - (1 : Int)) ∧ IntKind.i64.wrap ((↑cs.length : Int) - (1 : Int)) ≤ (↑cs.length : Int), (0 : Int) ≤ IntKind.i64.wrap ((↑cs.length : Int) - (1 : Int)) ∧ IntKind.i64.wrap ((↑cs.length : Int) - (1 : Int)) ≤ (↑cs.length : Int), (1 : Nat) ≤ (1 : Nat) ∧ (1 : Int) ≤ m - (↑(List.take (IntKind.i64.wrap ((↑cs.length : Int) - (1 : Int))).toNat cs).length : Int)] (AV.cell (Cell.int IntKind.i32 (0 : Int)), [some (Blk.obj (Ob.ab (Ab.stk (List.take (IntKind.i64.wrap ((↑cs.length : Int) - (1 : Int))).toNat cs ++ [if (top cs 0 == (0 : Int)) = true then (4294967295 : Int) else (0 : Int)]) m o u)))], (0 : Nat), []) := ⟨by kernel_rfl, by kernel_rfl⟩

theorem do52_2 (cs : List Int) (m o u : Int) : Good (evof 14 [.cell (.int .u32 52), sp, anyP, anyP] [stO cs m o u] [0, 1, 1, 0, 0, 0, 0, 0, 0, 1, 1]) [18, 0] [(↑cs.length : Int) < (1 : Int) ∧ (1 : Int) ≤ (65536 : Int), (u != (0 : Int)) = true] (AV.cell (Cell.int IntKind.i32 u), [some (Blk.obj (Ob.ab (Ab.stk cs m o u)))], (1 : Nat), []) := ⟨by kernel_rfl, by kernel_rfl⟩

theorem do52_3 (cs : List Int) (m o u : Int) : Good (evof 14 [.cell (.int .u32 52), sp, anyP, anyP] [stO cs m o u] [0, 1, 1, 0, 0, 0, 0, 0, 0, 2, 1]) [18, 0] [(0 : Int) ≤ (1 : Int) ∧ (1 : Int) ≤ (↑cs.length : Int) ∧ (0 : Int) ≤ (1 : Int) ∧ m - ((↑cs.length : Int) - (1 : Int)) < (1 : Int), (o != (0 : Int)) = true] (AV.cell (Cell.int IntKind.i32 o), [some (Blk.obj (Ob.ab (Ab.stk cs m o u)))], (1 : Nat), []) := ⟨by kernel_rfl, by kernel_rfl⟩

def out52 (cs : List Int) : List Int := [if (top cs 0 == (0 : Int)) = true then (4294967295 : Int) else (0 : Int)]

theorem row52 : DoRow 52 1 1 out52 := by
  refine ⟨fun cs m o u hc h1 h2 => CanOk.knows (j := 0) rfl fun hk => ?_, fun cs m o u h => CanOk.knows (j := 0) rfl fun hk => ?_, fun cs m o u h1 h2 => CanOk.knows (j := 0) rfl fun hk => ?_⟩
  · obtain ⟨i1, i2, i3, i4, i5⟩ := stk_inv hk
    have e : IntKind.i64.wrap ((cs.length : Int) - (1 : Int)) = (cs.length : Int) - (1 : Int) := wrap_len (by omega) (by omega) (by omega)
    have e2 : ((cs.length : Int) - (1 : Int)).toNat = cs.length - 1 := by omega
    have g := do52_1 cs m o u
    simp only [e, e2] at g
    have h := g.canT (E_valid sOf_ok 14) (Nat.le_refl 1) (by ((simp only [AllP, and_true]; repeat' apply And.intro) <;> first | trivial | omega | exact ne_true (by assumption) | exact (top_ok (by assumption) _).1 | (simp only [List.length_take, List.length_append, List.length_cons, List.length_nil]; omega)))
    first
      | exact h
      | (have e3 := List.append_nil (cs.take (cs.length - 1)); rw [← e3] at h; exact h)
  · obtain ⟨i1, i2, i3, i4, i5⟩ := stk_inv hk
    exact (do52_2 cs m o u).canT (E_valid sOf_ok 14) (Nat.le_refl 1) (by ((simp only [AllP, and_true]; repeat' apply And.intro) <;> first | trivial | omega | exact ne_true (by assumption) | exact (top_ok (by assumption) _).1 | (simp only [List.length_take, List.length_append, List.length_cons, List.length_nil]; omega)))
  · obtain ⟨i1, i2, i3, i4, i5⟩ := stk_inv hk
    exact (do52_3 cs m o u).canT (E_valid sOf_ok 14) (Nat.le_refl 1) (by ((simp only [AllP, and_true]; repeat' apply And.intro) <;> first | trivial | omega | exact ne_true (by assumption) | exact (top_ok (by assumption) _).1 | (simp only [List.length_take, List.length_append, List.length_cons, List.length_nil]; omega)))

theorem do53_1 (cs : List Int) (m o u : Int) : Good (evof 14 [.cell (.int .u32 53), sp, anyP, anyP] [stO cs m o u] [0, 1, 1, 0, 0, 0, 0, 0, 0, 0, 0, 0, 0, 0, 0, 1, 0, 0, 0, 0, 0, 0, 0, 0, 0, 0, 0, 0, 0, 0, 0, 0, 1, 0, 0, 0, 0, 0, 0, 0, 0, 0, 1, 0, 1, 0, 6, 1, 6, 0, 0, 0, 0, 0, 0]) [18, 12, 38, 1, 2] [(0 : Int) ≤ (1 : Int) ∧ (1 : Int) ≤ (↑cs.length : Int) ∧ (0 : Int) ≤ (1 : Int) ∧ (1 : Int) ≤ m - ((↑cs.length : Int) - (1 : Int)), (0 : Int) ≤ (0 : Int) ∧ (0 : Int) < (↑cs.length : Int), (0 : Int) ≤ IntKind.i64.wrap ((↑cs.length : Int) - (1 : Int)) ∧ IntKind.i64.wrap ((↑cs.length : Int) - (1 : Int)) ≤ (↑cs.length : Int), (0 : Int) ≤ IntKind.i64.wrap ((↑cs.length : Int) - (1 : Int)) ∧ IntKind.i64.wrap ((↑cs.length : Int) - (1 : Int)) ≤ (↑cs.length : Int), (1 : Nat) ≤ (1 : Nat) ∧ (1 : Int) ≤ m - (↑(List.take (IntKind.i64.wrap ((↑cs.length : Int) - (1 : Int))).toNat cs).length : Int)] (AV.cell (Cell.int IntKind.i32 (0 : Int)), [some (Blk.obj (Ob.ab (Ab.stk (List.take (IntKind.i64.wrap ((↑cs.length : Int) - (1 : Int))).toNat cs ++ [if decide (IntKind.i32.wrap (top cs 0) < (0 : Int)) = true then (4294967295 : Int) else (0 : Int)]) m o u)))], (0 : Nat), []) := ⟨by kernel_rfl, by kernel_rfl⟩

theorem do53_2 (cs : List Int) (m o u : Int) : Good (evof 14 [.cell (.int .u32 53), sp, anyP, anyP] [stO cs m o u] [0, 1, 1, 0, 0, 0, 0, 0, 0, 1, 1]) [18, 0] [(↑cs.length : Int) < (1 : Int) ∧ (1 : Int) ≤ (65536 : Int), (u != (0 : Int)) = true] (AV.cell (Cell.int IntKind.i32 u), [some (Blk.obj (Ob.ab (Ab.stk cs m o u)))], (1 : Nat), []) := ⟨by kernel_rfl, by kernel_rfl⟩

theorem do53_3 (cs : List Int) (m o u : Int) : Good (evof 14 [.cell (.int .u32 53), sp, anyP, anyP] [stO cs m o u] [0, 1, 1, 0, 0, 0, 0, 0, 0, 2, 1]) [18, 0] [(0 : Int) ≤ (1 : Int) ∧ (1 : Int) ≤ (↑cs.length : Int) ∧ (0 : Int) ≤ (1 : Int) ∧ m - ((↑cs.length : Int) - (1 : Int)) < (1 : Int), (o != (0 : Int)) = true] (AV.cell (Cell.int IntKind.i32 o), [some (Blk.obj (Ob.ab (Ab.stk cs m o u)))], (1 : Nat), []) := ⟨by kernel_rfl, by kernel_rfl⟩

def out53 (cs : List Int) : List Int := [if decide (IntKind.i32.wrap (top cs 0) < (0 : Int)) = true then (4294967295 : Int) else (0 : Int)]

theorem row53 : DoRow 53 1 1 out53 := by
  refine ⟨fun cs m o u hc h1 h2 => CanOk.knows (j := 0) rfl fun hk => ?_, fun cs m o u h => CanOk.knows (j := 0) rfl fun hk => ?_, fun cs m o u h1 h2 => CanOk.knows (j := 0) rfl fun hk => ?_⟩
  · obtain ⟨i1, i2, i3, i4, i5⟩ := stk_inv hk
    have e : IntKind.i64.wrap ((cs.length : Int) - (1 : Int)) = (cs.length : Int) - (1 : Int) := wrap_len (by omega) (by omega) (by omega)
    have e2 : ((cs.length : Int) - (1 : Int)).toNat = cs.length - 1 := by omega
    have g := do53_1 cs m o u
    simp only [e, e2] at g
    have h := g.canT (E_valid sOf_ok 14) (Nat.le_refl 1) (by ((simp only [AllP, and_true]; repeat' apply And.intro) <;> first | trivial | omega | exact ne_true (by assumption) | exact (top_ok (by assumption) _).1 | (simp only [List.length_take, List.length_append, List.length_cons, List.length_nil]; omega)))
    first
      | exact h
      | (have e3 := List.append_nil (cs.take (cs.length - 1)); rw [← e3] at h; exact h)
  · obtain ⟨i1, i2, i3, i4, i5⟩ := stk_inv hk
    exact (do53_2 cs m o u).canT (E_valid sOf_ok 14) (Nat.le_refl 1) (by ((simp only [AllP, and_true]; repeat' apply And.intro) <;> first | trivial | omega | exact ne_true (by assumption) | exact (top_ok (by assumption) _).1 | (simp only [List.length_take, List.length_append, List.length_cons, List.length_nil]; omega)))
  · obtain ⟨i1, i2, i3, i4, i5⟩ := stk_inv hk
    exact (do53_3 cs m o u).canT (E_valid sOf_ok 14) (Nat.le_refl 1) (by ((simp only [AllP, and_true]; repeat' apply And.intro) <;> first | trivial | omega | exact ne_true (by assumption) | exact (top_ok (by assumption) _).1 | (simp only [List.length_take, List.length_append, List.length_cons, List.length_nil]; omega)))

theorem do54_1 (cs : List Int) (m o u : Int) : Good (evof 14 [.cell (.int .u32 54), sp, anyP, anyP] [stO cs m o u] [0, 1, 1, 0, 0, 0, 0, 0, 0, 0, 0, 0, 0, 0, 0, 1, 0, 0, 0, 0, 0, 0, 0, 0, 0, 0, 0, 0, 0, 0, 0, 0, 1, 0, 0, 0, 0, 0, 0, 0, 0, 0, 0, 1, 0, 1, 0, 6, 1, 6, 0, 0, 0, 0, 0, 0]) [18, 12, 39, 1, 2] [(0 : Int) ≤ (1 : Int) ∧ (1 : Int) ≤ (↑cs.length : Int) ∧ (0 : Int) ≤ (1 : Int) ∧ (1 : Int) ≤ m - ((↑cs.length : Int) - (1 : Int)), (0 : Int) ≤ (0 : Int) ∧ (0 : Int) < (↑cs.length : Int), (0 : Int) ≤ IntKind.i64.wrap ((↑cs.length : Int) - (1 : Int)) ∧ IntKind.i64.wrap ((↑cs.length : Int) - (1 : Int)) ≤ (↑cs.length : Int), (0 : Int) ≤ IntKind.i64.wrap ((↑cs.length : Int) - (1 : Int)) ∧ IntKind.i64.wrap ((↑cs.length : Int) - (1 : Int)) ≤ (↑cs.length : Int), (1 : Nat) ≤ (1 : Nat) ∧ (1 : Int) ≤ m - (↑(List.take (IntKind.i64.wrap ((↑cs.length : Int) - (1 : Int))).toNat cs).length : Int)] (AV.cell (Cell.int IntKind.i32 (0 : Int)), [some (Blk.obj (Ob.ab (Ab.stk (List.take (IntKind.i64.wrap ((↑cs.length : Int) - (1 : Int))).toNat cs ++ [if decide (IntKind.i32.wrap (top cs 0) > (0 : Int)) = true then (4294967295 : Int) else (0 : Int)]) m o u)))], (0 : Nat), []) := ⟨by kernel_rfl, by kernel_rfl⟩

theorem do54_2 (cs : List Int) (m o u : Int) : Good (evof 14 [.cell (.int .u32 54), sp, anyP, anyP] [stO cs m o u] [0, 1, 1, 0, 0, 0, 0, 0, 0, 1, 1]) [18, 0] [(↑cs.length : Int) < (1 : Int) ∧ (1 : Int) ≤ (65536 : Int), (u != (0 : Int)) = true] (AV.cell (Cell.int IntKind.i32 u), [some (Blk.obj (Ob.ab (Ab.stk cs m o u)))], (1 : Nat), []) := ⟨by kernel_rfl, by kernel_rfl⟩

theorem do54_3 (cs : List Int) (m o u : Int) : Good (evof 14 [.cell (.int .u32 54), sp, anyP, anyP] [stO cs m o u] [0, 1, 1, 0, 0, 0, 0, 0, 0, 2, 1]) [18, 0] [(0 : Int) ≤ (1 : Int) ∧ (1 : Int) ≤ (↑cs.length : Int) ∧ (0 : Int) ≤ (1 : Int) ∧ m - ((↑cs.length : Int) - (1 : Int)) < (1 : Int), (o != (0 : Int)) = true] (AV.cell (Cell.int IntKind.i32 o), [some (Blk.obj (Ob.ab (Ab.stk cs m o u)))], (1 : Nat), []) := ⟨by kernel_rfl, by kernel_rfl⟩

def out54 (cs : List Int) : List Int := [if decide (IntKind.i32.wrap (top cs 0) > (0 : Int)) = true then (4294967295 : Int) else (0 : Int)]

theorem row54 : DoRow 54 1 1 out54 := by
  refine ⟨fun cs m o u hc h1 h2 => CanOk.knows (j := 0) rfl fun hk => ?_, fun cs m o u h => CanOk.knows (j := 0) rfl fun hk => ?_, fun cs m o u h1 h2 => CanOk.knows (j := 0) rfl fun hk => ?_⟩
  · obtain ⟨i1, i2, i3, i4, i5⟩ := stk_inv hk
    have e : IntKind.i64.wrap ((cs.length : Int) - (1 : Int)) = (cs.length : Int) - (1 : Int) := wrap_len (by omega) (by omega) (by omega)
    have e2 : ((cs.length : Int) - (1 : Int)).toNat = cs.length - 1 := by omega
    have g := do54_1 cs m o u
    simp only [e, e2] at g
    have h := g.canT (E_valid sOf_ok 14) (Nat.le_refl 1) (by ((simp only [AllP, and_true]; repeat' apply And.intro) <;> first | trivial | omega | exact ne_true (by assumption) | exact (top_ok (by assumption) _).1 | (simp only [List.length_take, List.length_append, List.length_cons, List.length_nil]; omega)))
    first
      | exact h
      | (have e3 := List.append_nil (cs.take (cs.length - 1)); rw [← e3] at h; exact h)
  · obtain ⟨i1, i2, i3, i4, i5⟩ := stk_inv hk
    exact (do54_2 cs m o u).canT (E_valid sOf_ok 14) (Nat.le_refl 1) (by ((simp only [AllP, and_true]; repeat' apply And.intro) <;> first | trivial | omega | exact ne_true (by assumption) | exact (top_ok (by assumption) _).1 | (simp only [List.length_take, List.length_append, List.length_cons, List.length_nil]; omega)))
  · obtain ⟨i1, i2, i3, i4, i5⟩ := stk_inv hk
    exact (do54_3 cs m o u).canT (E_valid sOf_ok 14) (Nat.le_refl 1) (by ((simp only [AllP, and_true]; repeat' apply And.intro) <;> first | trivial | omega | exact ne_true (by assumption) | exact (top_ok (by assumption) _).1 | (simp only [List.length_take, List.length_append, List.length_cons, List.length_nil]; omega)))

theorem do55_1 (cs : List Int) (m o u : Int) : Good (evof 14 [.cell (.int .u32 55), sp, anyP, anyP] [stO cs m o u] [0, 1, 1, 0, 0, 0, 0, 0, 0, 0, 0, 0, 0, 0, 0, 1, 0, 0, 1, 0, 0, 1, 0, 0, 0, 0, 0, 0, 0, 0, 0, 0, 0, 0, 0, 0, 0, 0, 0, 0, 0, 0, 0, 0, 0, 0, 0, 0, 0, 0, 0, 0, 0, 1, 5, 0, 0, 1, 0, 6, 1, 6, 0, 0, 0, 0, 0, 0]) [18, 12, 6, 6, 49, 1, 2] [(0 : Int) ≤ (3 : Int) ∧ (3 : Int) ≤ (↑cs.length : Int) ∧ (0 : Int) ≤ (1 : Int) ∧ (1 : Int) ≤ m - ((↑cs.length : Int) - (3 : Int)), (0 : Int) ≤ (2 : Int) ∧ (2 : Int) < (↑cs.length : Int), (0 : Int) ≤ (1 : Int) ∧ (1 : Int) < (↑cs.length : Int), (0 : Int) ≤ (0 : Int) ∧ (0 : Int) < (↑cs.length : Int), (0 : Int) ≤ IntKind.i64.wrap ((↑cs.length : Int) - (3 : Int)) ∧ IntKind.i64.wrap ((↑cs.length : Int) - (3 : Int)) ≤ (↑cs.length : Int), (0 : Int) ≤ IntKind.i64.wrap ((↑cs.length : Int) - (3 : Int)) ∧ IntKind.i64.wrap ((↑cs.length : Int) - (3 : Int)) ≤ (↑cs.length : Int), (1 : Nat) ≤ (1 : Nat) ∧ (1 : Int) ≤ m - (↑(List.take (IntKind.i64.wrap ((↑cs.length : Int) - (3 : Int))).toNat cs).length : Int)] (AV.cell (Cell.int IntKind.i32 (0 : Int)), [some (Blk.obj (Ob.ab (Ab.stk (List.take (IntKind.i64.wrap ((↑cs.length : Int) - (3 : Int))).toNat cs ++ [if decide (IntKind.u32.wrap (top cs 2 - top cs 1) < IntKind.u32.wrap (top cs 0 - top cs 1)) = true then (4294967295 : Int) else (0 : Int)]) m o u)))], (0 : Nat), []) := ⟨by kernel_rfl, by kernel_rfl⟩

theorem do55_2 (cs : List Int) (m o u : Int) : Good (evof 14 [.cell (.int .u32 55), sp, anyP, anyP] [stO cs m o u] [0, 1, 1, 0, 0, 0, 0, 0, 0, 1, 1]) [18, 0] [(↑cs.length : Int) < (3 : Int) ∧ (3 : Int) ≤ (65536 : Int), (u != (0 : Int)) = true] (AV.cell (Cell.int IntKind.i32 u), [some (Blk.obj (Ob.ab (Ab.stk cs m o u)))], (1 : Nat), []) := ⟨by kernel_rfl, by kernel_rfl⟩

theorem do55_3 (cs : List Int) (m o u : Int) : Good (evof 14 [.cell (.int .u32 55), sp, anyP, anyP] [stO cs m o u] [0, 1, 1, 0, 0, 0, 0, 0, 0, 2, 1]) [18, 0] [(0 : Int) ≤ (3 : Int) ∧ (3 : Int) ≤ (↑cs.length : Int) ∧ (0 : Int) ≤ (1 : Int) ∧ m - ((↑cs.length : Int) - (3 : Int)) < (1 : Int), (o != (0 : Int)) = true] (AV.cell (Cell.int IntKind.i32 o), [some (Blk.obj (Ob.ab (Ab.stk cs m o u)))], (1 : Nat), []) := ⟨by kernel_rfl, by kernel_rfl⟩

def out55 (cs : List Int) : List Int := [if decide (IntKind.u32.wrap (top cs 2 - top cs 1) < IntKind.u32.wrap (top cs 0 - top cs 1)) = true then (4294967295 : Int) else (0 : Int)]

theorem row55 : DoRow 55 3 1 out55 := by
  refine ⟨fun cs m o u hc h1 h2 => CanOk.knows (j := 0) rfl fun hk => ?_, fun cs m o u h => CanOk.knows (j := 0) rfl fun hk => ?_, fun cs m o u h1 h2 => CanOk.knows (j := 0) rfl fun hk => ?_⟩
  · obtain ⟨i1, i2, i3, i4, i5⟩ := stk_inv hk
    have e : IntKind.i64.wrap ((cs.length : Int) - (3 : Int)) = (cs.length : Int) - (3 : Int) := wrap_len (by omega) (by omega) (by omega)
    have e2 : ((cs.length : Int) - (3 : Int)).toNat = cs.length - 3 := by omega
    have g := do55_1 cs m o u
    simp only [e, e2] at g
    have h := g.canT (E_valid sOf_ok 14) (Nat.le_refl 1) (by ((simp only [AllP, and_true]; repeat' apply And.intro) <;> first | trivial | omega | exact ne_true (by assumption) | exact (top_ok (by assumption) _).1 | (simp only [List.length_take, List.length_append, List.length_cons, List.length_nil]; omega)))
    first
      | exact h
      | (have e3 := List.append_nil (cs.take (cs.length - 3)); rw [← e3] at h; exact h)
  · obtain ⟨i1, i2, i3, i4, i5⟩ := stk_inv hk
    exact (do55_2 cs m o u).canT (E_valid sOf_ok 14) (Nat.le_refl 1) (by ((simp only [AllP, and_true]; repeat' apply And.intro) <;> first | trivial | omega | exact ne_true (by assumption) | exact (top_ok (by assumption) _).1 | (simp only [List.length_take, List.length_append, List.length_cons, List.length_nil]; omega)))
  · obtain ⟨i1, i2, i3, i4, i5⟩ := stk_inv hk
    exact (do55_3 cs m o u).canT (E_valid sOf_ok 14) (Nat.le_refl 1) (by ((simp only [AllP, and_true]; repeat' apply And.intro) <;> first | trivial | omega | exact ne_true (by assumption) | exact (top_ok (by assumption) _).1 | (simp only [List.length_take, List.length_append, List.length_cons, List.length_nil]; omega)))

end Go.Proofs.Ytnoonoghemgbbaa.Sx

/-
  Do over stacks, way by way (printed by the explorer; wip/plain/genp8.py): what looks deep, what hands to the return stack and back.
-/
set_option maxRecDepth 100000
set_option linter.unusedVariables false
set_option linter.unusedSimpArgs false
namespace Go.Proofs.Ytnoonoghemgbbaa.Sx
open Go

noncomputable abbrev evo2 (f : FuncId) (a : List AV) (H : Heap Nob) (d : Dec) := trimF 2 (E sO f a H d)

theorem do71_1 (cs : List Int) (m o u : Int) (rs : List Int) (m2 o2 u2 : Int) : Good (evo2 14 [.cell (.int .u32 71), sp, .cell (.ptr false 1 0 0), anyP] [stO cs m o u, stO rs m2 o2 u2] [0, 1, 1, 0, 0, 0, 0, 0, 0, 0, 0, 1, 0, 0, 0, 1, 1, 0, 0, 0]) [18, 4, 2, 4] [(0 : Int) ≤ (1 : Int) ∧ (1 : Int) ≤ (↑cs.length : Int) ∧ (0 : Int) ≤ (0 : Int) ∧ (0 : Int) ≤ m - ((↑cs.length : Int) - (1 : Int)), (0 : Int) ≤ (0 : Int) ∧ (0 : Int) < (↑cs.length : Int), (1 : Nat) ≤ (1 : Nat) ∧ (1 : Int) ≤ m2 - (↑rs.length : Int), (0 : Nat) < cs.length] (AV.cell (Cell.int IntKind.i32 (0 : Int)), [some (Blk.obj (Ob.ab (Ab.stk (List.take (cs.length - (1 : Nat)) cs) m o u))), some (Blk.obj (Ob.ab (Ab.stk (rs ++ [top cs 0]) m2 o2 u2)))], (0 : Nat), []) := ⟨by kernel_rfl, by kernel_rfl⟩

theorem do71_2 (cs : List Int) (m o u : Int) (rs : List Int) (m2 o2 u2 : Int) : Good (evo2 14 [.cell (.int .u32 71), sp, .cell (.ptr false 1 0 0), anyP] [stO cs m o u, stO rs m2 o2 u2] [0, 1, 1, 0, 0, 0, 0, 0, 0, 0, 0, 1, 0, 0, 1, 0, 0, 1, 1]) [18, 4, 2, 0, 0, 0] [(0 : Int) ≤ (1 : Int) ∧ (1 : Int) ≤ (↑cs.length : Int) ∧ (0 : Int) ≤ (0 : Int) ∧ (0 : Int) ≤ m - ((↑cs.length : Int) - (1 : Int)), (0 : Int) ≤ (0 : Int) ∧ (0 : Int) < (↑cs.length : Int), m2 - (↑rs.length : Int) < (1 : Int), ((o2 != (0 : Int)) == false) = false, ((o2 != (0 : Int)) == false) = false, (o2 != (0 : Int)) = true] (AV.cell (Cell.int IntKind.i32 o2), [some (Blk.obj (Ob.ab (Ab.stk cs m o u))), some (Blk.obj (Ob.ab (Ab.stk rs m2 o2 u2)))], (2 : Nat), []) := ⟨by kernel_rfl, by kernel_rfl⟩

theorem do71_3 (cs : List Int) (m o u : Int) (rs : List Int) (m2 o2 u2 : Int) : Good (evo2 14 [.cell (.int .u32 71), sp, .cell (.ptr false 1 0 0), anyP] [stO cs m o u, stO rs m2 o2 u2] [0, 1, 1, 0, 0, 0, 0, 0, 0, 1, 1]) [18, 0] [(↑cs.length : Int) < (1 : Int) ∧ (1 : Int) ≤ (65536 : Int), (u != (0 : Int)) = true] (AV.cell (Cell.int IntKind.i32 u), [some (Blk.obj (Ob.ab (Ab.stk cs m o u))), some (Blk.obj (Ob.ab (Ab.stk rs m2 o2 u2)))], (2 : Nat), []) := ⟨by kernel_rfl, by kernel_rfl⟩

theorem do72_1 (cs : List Int) (m o u : Int) (rs : List Int) (m2 o2 u2 : Int) : Good (evo2 14 [.cell (.int .u32 72), sp, .cell (.ptr false 1 0 0), anyP] [stO cs m o u, stO rs m2 o2 u2] [0, 1, 1, 0, 0, 0, 0, 0, 0, 0, 0, 0, 1, 1, 0, 0, 0, 1, 1, 0, 0, 0]) [18, 8, 2, 4] [(0 : Int) ≤ (0 : Int) ∧ (0 : Int) ≤ (↑cs.length : Int) ∧ (0 : Int) ≤ (1 : Int) ∧ (1 : Int) ≤ m - ((↑cs.length : Int) - (0 : Int)), (0 : Int) ≤ (0 : Int) ∧ (0 : Int) < (↑rs.length : Int), (1 : Nat) ≤ (1 : Nat) ∧ (1 : Int) ≤ m - (↑cs.length : Int), (0 : Nat) < rs.length] (AV.cell (Cell.int IntKind.i32 (0 : Int)), [some (Blk.obj (Ob.ab (Ab.stk (cs ++ [top rs 0]) m o u))), some (Blk.obj (Ob.ab (Ab.stk (List.take (rs.length - (1 : Nat)) rs) m2 o2 u2)))], (0 : Nat), []) := ⟨by kernel_rfl, by kernel_rfl⟩

theorem do72_2 (cs : List Int) (m o u : Int) (rs : List Int) (m2 o2 u2 : Int) : Good (evo2 14 [.cell (.int .u32 72), sp, .cell (.ptr false 1 0 0), anyP] [stO cs m o u, stO rs m2 o2 u2] [0, 1, 1, 0, 0, 0, 0, 0, 0, 2, 1]) [18, 0] [(0 : Int) ≤ (0 : Int) ∧ (0 : Int) ≤ (↑cs.length : Int) ∧ (0 : Int) ≤ (1 : Int) ∧ m - ((↑cs.length : Int) - (0 : Int)) < (1 : Int), (o != (0 : Int)) = true] (AV.cell (Cell.int IntKind.i32 o), [some (Blk.obj (Ob.ab (Ab.stk cs m o u))), some (Blk.obj (Ob.ab (Ab.stk rs m2 o2 u2)))], (2 : Nat), []) := ⟨by kernel_rfl, by kernel_rfl⟩

theorem do72_3 (cs : List Int) (m o u : Int) (rs : List Int) (m2 o2 u2 : Int) : Good (evo2 14 [.cell (.int .u32 72), sp, .cell (.ptr false 1 0 0), anyP] [stO cs m o u, stO rs m2 o2 u2] [0, 1, 1, 0, 0, 0, 0, 0, 0, 0, 0, 0, 1, 1, 1, 1]) [18, 8, 0] [(0 : Int) ≤ (0 : Int) ∧ (0 : Int) ≤ (↑cs.length : Int) ∧ (0 : Int) ≤ (1 : Int) ∧ (1 : Int) ≤ m - ((↑cs.length : Int) - (0 : Int)), (0 : Int) < (0 : Int) ∨ (↑rs.length : Int) ≤ (0 : Int), (u2 != (0 : Int)) = true] (AV.cell (Cell.int IntKind.i32 u2), [some (Blk.obj (Ob.ab (Ab.stk cs m o u))), some (Blk.obj (Ob.ab (Ab.stk rs m2 o2 u2)))], (2 : Nat), []) := ⟨by kernel_rfl, by kernel_rfl⟩

theorem do73_1 (cs : List Int) (m o u : Int) (rs : List Int) (m2 o2 u2 : Int) : Good (evo2 14 [.cell (.int .u32 73), sp, .cell (.ptr false 1 0 0), anyP] [stO cs m o u, stO rs m2 o2 u2] [0, 1, 1, 0, 0, 0, 0, 0, 0, 0, 0, 0, 0, 1, 0, 0, 0, 1, 1, 0, 1]) [18, 8, 2] [(0 : Int) ≤ (0 : Int) ∧ (0 : Int) ≤ (↑cs.length : Int) ∧ (0 : Int) ≤ (1 : Int) ∧ (1 : Int) ≤ m - ((↑cs.length : Int) - (0 : Int)), (0 : Int) ≤ (0 : Int) ∧ (0 : Int) < (↑rs.length : Int), (1 : Nat) ≤ (1 : Nat) ∧ (1 : Int) ≤ m - (↑cs.length : Int)] (AV.cell (Cell.int IntKind.i32 (0 : Int)), [some (Blk.obj (Ob.ab (Ab.stk (cs ++ [top rs 0]) m o u))), some (Blk.obj (Ob.ab (Ab.stk rs m2 o2 u2)))], (0 : Nat), []) := ⟨by kernel_rfl, by kernel_rfl⟩

theorem do73_2 (cs : List Int) (m o u : Int) (rs : List Int) (m2 o2 u2 : Int) : Good (evo2 14 [.cell (.int .u32 73), sp, .cell (.ptr false 1 0 0), anyP] [stO cs m o u, stO rs m2 o2 u2] [0, 1, 1, 0, 0, 0, 0, 0, 0, 2, 1]) [18, 0] [(0 : Int) ≤ (0 : Int) ∧ (0 : Int) ≤ (↑cs.length : Int) ∧ (0 : Int) ≤ (1 : Int) ∧ m - ((↑cs.length : Int) - (0 : Int)) < (1 : Int), (o != (0 : Int)) = true] (AV.cell (Cell.int IntKind.i32 o), [some (Blk.obj (Ob.ab (Ab.stk cs m o u))), some (Blk.obj (Ob.ab (Ab.stk rs m2 o2 u2)))], (2 : Nat), []) := ⟨by kernel_rfl, by kernel_rfl⟩

theorem do73_3 (cs : List Int) (m o u : Int) (rs : List Int) (m2 o2 u2 : Int) : Good (evo2 14 [.cell (.int .u32 73), sp, .cell (.ptr false 1 0 0), anyP] [stO cs m o u, stO rs m2 o2 u2] [0, 1, 1, 0, 0, 0, 0, 0, 0, 0, 0, 0, 0, 1, 1, 1]) [18, 8, 0] [(0 : Int) ≤ (0 : Int) ∧ (0 : Int) ≤ (↑cs.length : Int) ∧ (0 : Int) ≤ (1 : Int) ∧ (1 : Int) ≤ m - ((↑cs.length : Int) - (0 : Int)), (0 : Int) < (0 : Int) ∨ (↑rs.length : Int) ≤ (0 : Int), (u2 != (0 : Int)) = true] (AV.cell (Cell.int IntKind.i32 u2), [some (Blk.obj (Ob.ab (Ab.stk cs m o u))), some (Blk.obj (Ob.ab (Ab.stk rs m2 o2 u2)))], (2 : Nat), []) := ⟨by kernel_rfl, by kernel_rfl⟩

theorem do6_1 (cs : List Int) (m o u : Int) : Good (evo 14 [.cell (.int .u32 6), sp, anyP, anyP] [stO cs m o u] [0, 1, 1, 0, 0, 1, 1, 0, 0, 0, 1, 0, 0]) [18, 2, 3] [(0 : Int) ≤ (0 : Int) ∧ (0 : Int) < (↑cs.length : Int), (top cs 0 == (0 : Int)) = false, (1 : Nat) ≤ (1 : Nat) ∧ (1 : Int) ≤ m - (↑cs.length : Int)] (AV.cell (Cell.int IntKind.i32 (0 : Int)), [some (Blk.obj (Ob.ab (Ab.stk (cs ++ [top cs 0]) m o u)))], (0 : Nat), []) := ⟨by kernel_rfl, by kernel_rfl⟩

theorem do6_2 (cs : List Int) (m o u : Int) : Good (evo 14 [.cell (.int .u32 6), sp, anyP, anyP] [stO cs m o u] [0, 1, 1, 0, 0, 1, 1, 0, 1, 1]) [18, 0] [(0 : Int) < (0 : Int) ∨ (↑cs.length : Int) ≤ (0 : Int), (u != (0 : Int)) = true] (AV.cell (Cell.int IntKind.i32 u), [some (Blk.obj (Ob.ab (Ab.stk cs m o u)))], (1 : Nat), []) := ⟨by kernel_rfl, by kernel_rfl⟩

theorem do6_3 (cs : List Int) (m o u : Int) : Good (evo 14 [.cell (.int .u32 6), sp, anyP, anyP] [stO cs m o u] [0, 1, 1, 0, 0, 1, 1, 0, 0, 0, 1, 0, 1]) [18, 2, 3] [(0 : Int) ≤ (0 : Int) ∧ (0 : Int) < (↑cs.length : Int), (top cs 0 == (0 : Int)) = false, m - (↑cs.length : Int) < (1 : Int)] (AV.cell (Cell.int IntKind.i32 o), [some (Blk.obj (Ob.ab (Ab.stk cs m o u)))], (1 : Nat), []) := ⟨by kernel_rfl, by kernel_rfl⟩

theorem do6_4 (cs : List Int) (m o u : Int) : Good (evo 14 [.cell (.int .u32 6), sp, anyP, anyP] [stO cs m o u] [0, 1, 1, 0, 0, 1, 1, 0, 0, 0, 1, 1]) [18, 2] [(0 : Int) ≤ (0 : Int) ∧ (0 : Int) < (↑cs.length : Int), (top cs 0 == (0 : Int)) = true] (AV.cell (Cell.int IntKind.i32 (0 : Int)), [some (Blk.obj (Ob.ab (Ab.stk cs m o u)))], (1 : Nat), []) := ⟨by kernel_rfl, by kernel_rfl⟩

theorem do13_1 (cs : List Int) (m o u : Int) : Good (evo 14 [.cell (.int .u32 13), sp, anyP, anyP] [stO cs m o u] [0, 1, 1, 0, 0, 0, 1, 1, 1, 4, 1, 7, 0, 0]) [22] [(1 : Nat) ≤ (1 : Nat) ∧ (1 : Int) ≤ m - (↑cs.length : Int)] (AV.cell (Cell.int IntKind.i32 (0 : Int)), [some (Blk.obj (Ob.ab (Ab.stk (cs ++ [IntKind.u32.wrap (↑cs.length : Int)]) m o u)))], (0 : Nat), []) := ⟨by kernel_rfl, by kernel_rfl⟩

theorem do13_2 (cs : List Int) (m o u : Int) : Good (evo 14 [.cell (.int .u32 13), sp, anyP, anyP] [stO cs m o u] [0, 1, 1, 0, 0, 0, 1, 1, 1, 4, 0, 0, 1]) [22] [m - (↑cs.length : Int) < (1 : Int)] (AV.cell (Cell.int IntKind.i32 o), [some (Blk.obj (Ob.ab (Ab.stk cs m o u)))], (1 : Nat), []) := ⟨by kernel_rfl, by kernel_rfl⟩

theorem do14_1 (cs : List Int) (m o u : Int) : Good (evo 14 [.cell (.int .u32 14), sp, anyP, anyP] [stO cs m o u] [0, 1, 1, 0, 0, 0, 0, 1, 1, 0, 0, 0, 0, 0, 0, 0, 0, 0]) [20, 5, 3, 4] [(0 : Int) ≤ (0 : Int) ∧ (0 : Int) < (↑cs.length : Int), (0 : Int) ≤ IntKind.i64.wrap ((1 : Int) + IntKind.i64.wrap (if (4096 : Int) < top cs 0 then (4096 : Int) else top cs 0)) ∧ IntKind.i64.wrap ((1 : Int) + IntKind.i64.wrap (if (4096 : Int) < top cs 0 then (4096 : Int) else top cs 0)) < (↑cs.length : Int), (0 : Nat) < cs.length, (1 : Nat) ≤ (1 : Nat) ∧ (1 : Int) ≤ m - (↑(List.take (cs.length - (1 : Nat)) cs).length : Int)] (AV.cell (Cell.int IntKind.i32 (0 : Int)), [some (Blk.obj (Ob.ab (Ab.stk (List.take (cs.length - (1 : Nat)) cs ++ [cs.getD (cs.length - (1 : Nat) - (IntKind.i64.wrap ((1 : Int) + IntKind.i64.wrap (if (4096 : Int) < top cs 0 then (4096 : Int) else top cs 0))).toNat) (0 : Int)]) m o u)))], (0 : Nat), []) := ⟨by kernel_rfl, by kernel_rfl⟩

theorem do14_2 (cs : List Int) (m o u : Int) : Good (evo 14 [.cell (.int .u32 14), sp, anyP, anyP] [stO cs m o u] [0, 1, 1, 0, 0, 0, 0, 1, 1, 0, 1, 1]) [20, 0] [(0 : Int) < (0 : Int) ∨ (↑cs.length : Int) ≤ (0 : Int), (u != (0 : Int)) = true] (AV.cell (Cell.int IntKind.i32 u), [some (Blk.obj (Ob.ab (Ab.stk cs m o u)))], (1 : Nat), []) := ⟨by kernel_rfl, by kernel_rfl⟩

theorem do14_3 (cs : List Int) (m o u : Int) : Good (evo 14 [.cell (.int .u32 14), sp, anyP, anyP] [stO cs m o u] [0, 1, 1, 0, 0, 0, 0, 1, 1, 0, 0, 0, 0, 1, 1]) [20, 5, 0] [(0 : Int) ≤ (0 : Int) ∧ (0 : Int) < (↑cs.length : Int), IntKind.i64.wrap ((1 : Int) + IntKind.i64.wrap (if (4096 : Int) < top cs 0 then (4096 : Int) else top cs 0)) < (0 : Int) ∨ (↑cs.length : Int) ≤ IntKind.i64.wrap ((1 : Int) + IntKind.i64.wrap (if (4096 : Int) < top cs 0 then (4096 : Int) else top cs 0)), (u != (0 : Int)) = true] (AV.cell (Cell.int IntKind.i32 u), [some (Blk.obj (Ob.ab (Ab.stk cs m o u)))], (1 : Nat), []) := ⟨by kernel_rfl, by kernel_rfl⟩

theorem do14_4 (cs : List Int) (m o u : Int) : Good (evo 14 [.cell (.int .u32 14), sp, anyP, anyP] [stO cs m o u] [0, 1, 1, 0, 0, 0, 0, 1, 1, 0, 0, 0, 0, 0, 0, 0, 0, 1]) [20, 5, 3, 4] [(0 : Int) ≤ (0 : Int) ∧ (0 : Int) < (↑cs.length : Int), (0 : Int) ≤ IntKind.i64.wrap ((1 : Int) + IntKind.i64.wrap (if (4096 : Int) < top cs 0 then (4096 : Int) else top cs 0)) ∧ IntKind.i64.wrap ((1 : Int) + IntKind.i64.wrap (if (4096 : Int) < top cs 0 then (4096 : Int) else top cs 0)) < (↑cs.length : Int), (0 : Nat) < cs.length, m - (↑(List.take (cs.length - (1 : Nat)) cs).length : Int) < (1 : Int)] (AV.cell (Cell.int IntKind.i32 o), [some (Blk.obj (Ob.ab (Ab.stk (List.take (cs.length - (1 : Nat)) cs) m o u)))], (0 : Nat), []) := ⟨by kernel_rfl, by kernel_rfl⟩

abbrev sp1 : AV := .cell (.ptr false 1 0 0)

theorem tor_ok {cs rs : List Int} {m o u m2 o2 u2 : Int} (h : 0 < cs.length) (h2 : (1 : Int) ≤ m2 - rs.length) : CanOk Try.prog 14 [stO cs m o u, stO rs m2 o2 u2] [.cell (.int .u32 71), sp, sp1, anyP] (i32' 0) [stO (cs.take (cs.length - 1)) m o u, stO (rs ++ [top cs 0]) m2 o2 u2] 0 :=
  CanOk.knows (j := 0) rfl fun hk => by
    obtain ⟨i1, i2, i3, i4, i5⟩ := stk_inv hk
    exact (do71_1 cs m o u rs m2 o2 u2).canT (E_valid sO_ok 14) (Nat.le_refl 2) (by ((simp only [AllP, and_true]; repeat' apply And.intro) <;> first | trivial | omega | exact ne_true (by assumption) | exact (top_ok (by assumption) _).1 | (simp only [List.length_take, List.length_append, List.length_cons, List.length_nil]; omega)))

theorem tor_few {cs rs : List Int} {m o u m2 o2 u2 : Int} (h : cs.length = 0) : CanOk Try.prog 14 [stO cs m o u, stO rs m2 o2 u2] [.cell (.int .u32 71), sp, sp1, anyP] (i32' u) [stO cs m o u, stO rs m2 o2 u2] 2 :=
  CanOk.knows (j := 0) rfl fun hk => by
    obtain ⟨i1, i2, i3, i4, i5⟩ := stk_inv hk
    exact (do71_3 cs m o u rs m2 o2 u2).canT (E_valid sO_ok 14) (Nat.le_refl 2) (by ((simp only [AllP, and_true]; repeat' apply And.intro) <;> first | trivial | omega | exact ne_true (by assumption) | exact (top_ok (by assumption) _).1 | (simp only [List.length_take, List.length_append, List.length_cons, List.length_nil]; omega)))

theorem bne_false {x : Int} (h : x ≠ 0) : ((x != 0) == false) = false := by simp [h]

theorem tor_full {cs rs : List Int} {m o u m2 o2 u2 : Int} (h : 0 < cs.length) (h2 : m2 - rs.length < (1 : Int)) : CanOk Try.prog 14 [stO cs m o u, stO rs m2 o2 u2] [.cell (.int .u32 71), sp, sp1, anyP] (i32' o2) [stO cs m o u, stO rs m2 o2 u2] 2 :=
  CanOk.knows (j := 0) rfl fun hk => CanOk.knows (j := 1) rfl fun hk2 => by
    obtain ⟨i1, i2, i3, i4, i5⟩ := stk_inv hk
    obtain ⟨j1, j2, j3, j4, j5⟩ := stk_inv hk2
    exact (do71_2 cs m o u rs m2 o2 u2).canT (E_valid sO_ok 14) (Nat.le_refl 2) ⟨by omega, by omega, h2, bne_false j4, bne_false j4, ne_true j4, trivial⟩

theorem rfrom_ok {cs rs : List Int} {m o u m2 o2 u2 : Int} (h : 0 < rs.length) (h2 : (1 : Int) ≤ m - cs.length) : CanOk Try.prog 14 [stO cs m o u, stO rs m2 o2 u2] [.cell (.int .u32 72), sp, sp1, anyP] (i32' 0) [stO (cs ++ [top rs 0]) m o u, stO (rs.take (rs.length - 1)) m2 o2 u2] 0 :=
  (do72_1 cs m o u rs m2 o2 u2).canT (E_valid sO_ok 14) (Nat.le_refl 2) (by ((simp only [AllP, and_true]; repeat' apply And.intro) <;> first | trivial | omega | exact ne_true (by assumption) | exact (top_ok (by assumption) _).1 | (simp only [List.length_take, List.length_append, List.length_cons, List.length_nil]; omega)))

theorem rfrom_full {cs rs : List Int} {m o u m2 o2 u2 : Int} (h2 : m - cs.length < (1 : Int)) : CanOk Try.prog 14 [stO cs m o u, stO rs m2 o2 u2] [.cell (.int .u32 72), sp, sp1, anyP] (i32' o) [stO cs m o u, stO rs m2 o2 u2] 2 :=
  CanOk.knows (j := 0) rfl fun hk => by
    obtain ⟨i1, i2, i3, i4, i5⟩ := stk_inv hk
    exact (do72_2 cs m o u rs m2 o2 u2).canT (E_valid sO_ok 14) (Nat.le_refl 2) (by ((simp only [AllP, and_true]; repeat' apply And.intro) <;> first | trivial | omega | exact ne_true (by assumption) | exact (top_ok (by assumption) _).1 | (simp only [List.length_take, List.length_append, List.length_cons, List.length_nil]; omega)))

theorem rfrom_few {cs rs : List Int} {m o u m2 o2 u2 : Int} (h : rs.length = 0) (h2 : (1 : Int) ≤ m - cs.length) : CanOk Try.prog 14 [stO cs m o u, stO rs m2 o2 u2] [.cell (.int .u32 72), sp, sp1, anyP] (i32' u2) [stO cs m o u, stO rs m2 o2 u2] 2 :=
  CanOk.knows (j := 1) rfl fun hk => by
    obtain ⟨i1, i2, i3, i4, i5⟩ := stk_inv hk
    exact (do72_3 cs m o u rs m2 o2 u2).canT (E_valid sO_ok 14) (Nat.le_refl 2) (by ((simp only [AllP, and_true]; repeat' apply And.intro) <;> first | trivial | omega | exact ne_true (by assumption) | exact (top_ok (by assumption) _).1 | (simp only [List.length_take, List.length_append, List.length_cons, List.length_nil]; omega)))

theorem rat_ok {cs rs : List Int} {m o u m2 o2 u2 : Int} (h : 0 < rs.length) (h2 : (1 : Int) ≤ m - cs.length) : CanOk Try.prog 14 [stO cs m o u, stO rs m2 o2 u2] [.cell (.int .u32 73), sp, sp1, anyP] (i32' 0) [stO (cs ++ [top rs 0]) m o u, stO rs m2 o2 u2] 0 :=
  (do73_1 cs m o u rs m2 o2 u2).canT (E_valid sO_ok 14) (Nat.le_refl 2) (by ((simp only [AllP, and_true]; repeat' apply And.intro) <;> first | trivial | omega | exact ne_true (by assumption) | exact (top_ok (by assumption) _).1 | (simp only [List.length_take, List.length_append, List.length_cons, List.length_nil]; omega)))

theorem rat_full {cs rs : List Int} {m o u m2 o2 u2 : Int} (h2 : m - cs.length < (1 : Int)) : CanOk Try.prog 14 [stO cs m o u, stO rs m2 o2 u2] [.cell (.int .u32 73), sp, sp1, anyP] (i32' o) [stO cs m o u, stO rs m2 o2 u2] 2 :=
  CanOk.knows (j := 0) rfl fun hk => by
    obtain ⟨i1, i2, i3, i4, i5⟩ := stk_inv hk
    exact (do73_2 cs m o u rs m2 o2 u2).canT (E_valid sO_ok 14) (Nat.le_refl 2) (by ((simp only [AllP, and_true]; repeat' apply And.intro) <;> first | trivial | omega | exact ne_true (by assumption) | exact (top_ok (by assumption) _).1 | (simp only [List.length_take, List.length_append, List.length_cons, List.length_nil]; omega)))

theorem rat_few {cs rs : List Int} {m o u m2 o2 u2 : Int} (h : rs.length = 0) (h2 : (1 : Int) ≤ m - cs.length) : CanOk Try.prog 14 [stO cs m o u, stO rs m2 o2 u2] [.cell (.int .u32 73), sp, sp1, anyP] (i32' u2) [stO cs m o u, stO rs m2 o2 u2] 2 :=
  CanOk.knows (j := 1) rfl fun hk => by
    obtain ⟨i1, i2, i3, i4, i5⟩ := stk_inv hk
    exact (do73_3 cs m o u rs m2 o2 u2).canT (E_valid sO_ok 14) (Nat.le_refl 2) (by ((simp only [AllP, and_true]; repeat' apply And.intro) <;> first | trivial | omega | exact ne_true (by assumption) | exact (top_ok (by assumption) _).1 | (simp only [List.length_take, List.length_append, List.length_cons, List.length_nil]; omega)))

theorem depth_ok {cs : List Int} {m o u : Int} (h2 : (1 : Int) ≤ m - cs.length) : CanOk Try.prog 14 [stO cs m o u] [.cell (.int .u32 13), sp, anyP, anyP] (i32' 0) [stO (cs ++ [IntKind.u32.wrap cs.length]) m o u] 0 :=
  (do13_1 cs m o u).canT (E_valid sO_ok 14) (Nat.le_refl 1) (by ((simp only [AllP, and_true]; repeat' apply And.intro) <;> first | trivial | omega | exact ne_true (by assumption) | exact (top_ok (by assumption) _).1 | (simp only [List.length_take, List.length_append, List.length_cons, List.length_nil]; omega)))

theorem depth_full {cs : List Int} {m o u : Int} (h2 : m - cs.length < (1 : Int)) : CanOk Try.prog 14 [stO cs m o u] [.cell (.int .u32 13), sp, anyP, anyP] (i32' o) [stO cs m o u] 1 :=
  CanOk.knows (j := 0) rfl fun hk => by
    obtain ⟨i1, i2, i3, i4, i5⟩ := stk_inv hk
    exact (do13_2 cs m o u).canT (E_valid sO_ok 14) (Nat.le_refl 1) (by ((simp only [AllP, and_true]; repeat' apply And.intro) <;> first | trivial | omega | exact ne_true (by assumption) | exact (top_ok (by assumption) _).1 | (simp only [List.length_take, List.length_append, List.length_cons, List.length_nil]; omega)))

theorem qdup_ok {cs : List Int} {m o u : Int} (h : 0 < cs.length) (h2 : (1 : Int) ≤ m - cs.length) (h3 : top cs 0 ≠ 0) : CanOk Try.prog 14 [stO cs m o u] [.cell (.int .u32 6), sp, anyP, anyP] (i32' 0) [stO (cs ++ [top cs 0]) m o u] 0 :=
  (do6_1 cs m o u).canT (E_valid sO_ok 14) (Nat.le_refl 1) ⟨by omega, by simp only [beq_eq_false_iff_ne]; exact h3, ⟨Nat.le_refl 1, h2⟩, trivial⟩

theorem qdup_zero {cs : List Int} {m o u : Int} (h : 0 < cs.length) (h3 : top cs 0 = 0) : CanOk Try.prog 14 [stO cs m o u] [.cell (.int .u32 6), sp, anyP, anyP] (i32' 0) [stO cs m o u] 1 :=
  (do6_4 cs m o u).canT (E_valid sO_ok 14) (Nat.le_refl 1) ⟨by omega, by simp only [beq_iff_eq]; exact h3, trivial⟩

theorem qdup_few {cs : List Int} {m o u : Int} (h : cs.length = 0) : CanOk Try.prog 14 [stO cs m o u] [.cell (.int .u32 6), sp, anyP, anyP] (i32' u) [stO cs m o u] 1 :=
  CanOk.knows (j := 0) rfl fun hk => by
    obtain ⟨i1, i2, i3, i4, i5⟩ := stk_inv hk
    exact (do6_2 cs m o u).canT (E_valid sO_ok 14) (Nat.le_refl 1) (by ((simp only [AllP, and_true]; repeat' apply And.intro) <;> first | trivial | omega | exact ne_true (by assumption) | exact (top_ok (by assumption) _).1 | (simp only [List.length_take, List.length_append, List.length_cons, List.length_nil]; omega)))

theorem qdup_full {cs : List Int} {m o u : Int} (h : 0 < cs.length) (h2 : m - cs.length < (1 : Int)) (h3 : top cs 0 ≠ 0) : CanOk Try.prog 14 [stO cs m o u] [.cell (.int .u32 6), sp, anyP, anyP] (i32' o) [stO cs m o u] 1 :=
  CanOk.knows (j := 0) rfl fun hk => by
    obtain ⟨i1, i2, i3, i4, i5⟩ := stk_inv hk
    exact (do6_3 cs m o u).canT (E_valid sO_ok 14) (Nat.le_refl 1) ⟨by omega, by simp only [beq_eq_false_iff_ne]; exact h3, h2, trivial⟩

/-- How deep PICK and ROLL look. -/
abbrev deepAt (cs : List Int) : Nat := 1 + (min 4096 (top cs 0)).toNat

theorem deep_eq {cs : List Int} (hc : cellsOk cs) : IntKind.i64.wrap ((1 : Int) + IntKind.i64.wrap (if (4096 : Int) < top cs 0 then (4096 : Int) else top cs 0)) = (deepAt cs : Int) := by
  have h := top_ok hc 0
  have e : (if (4096 : Int) < top cs 0 then (4096 : Int) else top cs 0) = min 4096 (top cs 0) := by split <;> omega
  rw [e]
  generalize hx : min 4096 (top cs 0) = x
  have : 0 ≤ x ∧ x ≤ 4096 := by omega
  rw [IntKind.wrap_i64, IntKind.wrap_i64]
  unfold deepAt
  rw [hx]
  omega

theorem pick_ok {cs : List Int} {m o u : Int} (hc : cellsOk cs) (h : deepAt cs < cs.length) : CanOk Try.prog 14 [stO cs m o u] [.cell (.int .u32 14), sp, anyP, anyP] (i32' 0) [stO (cs.take (cs.length - 1) ++ [top cs (deepAt cs)]) m o u] 0 :=
  CanOk.knows (j := 0) rfl fun hk => by
    obtain ⟨i1, i2, i3, i4, i5⟩ := stk_inv hk
    have g := do14_1 cs m o u
    simp only [deep_eq hc, Int.toNat_natCast] at g
    exact g.canT (E_valid sO_ok 14) (Nat.le_refl 1) (by ((simp only [AllP, and_true]; repeat' apply And.intro) <;> first | trivial | omega | exact ne_true (by assumption) | exact (top_ok (by assumption) _).1 | (simp only [List.length_take, List.length_append, List.length_cons, List.length_nil]; omega)))

theorem pick_none {cs : List Int} {m o u : Int} (h : cs.length = 0) : CanOk Try.prog 14 [stO cs m o u] [.cell (.int .u32 14), sp, anyP, anyP] (i32' u) [stO cs m o u] 1 :=
  CanOk.knows (j := 0) rfl fun hk => by
    obtain ⟨i1, i2, i3, i4, i5⟩ := stk_inv hk
    exact (do14_2 cs m o u).canT (E_valid sO_ok 14) (Nat.le_refl 1) (by ((simp only [AllP, and_true]; repeat' apply And.intro) <;> first | trivial | omega | exact ne_true (by assumption) | exact (top_ok (by assumption) _).1 | (simp only [List.length_take, List.length_append, List.length_cons, List.length_nil]; omega)))

theorem pick_few {cs : List Int} {m o u : Int} (hc : cellsOk cs) (h : 0 < cs.length) (h2 : cs.length ≤ deepAt cs) : CanOk Try.prog 14 [stO cs m o u] [.cell (.int .u32 14), sp, anyP, anyP] (i32' u) [stO cs m o u] 1 :=
  CanOk.knows (j := 0) rfl fun hk => by
    obtain ⟨i1, i2, i3, i4, i5⟩ := stk_inv hk
    have g := do14_3 cs m o u
    simp only [deep_eq hc] at g
    exact g.canT (E_valid sO_ok 14) (Nat.le_refl 1) (by ((simp only [AllP, and_true]; repeat' apply And.intro) <;> first | trivial | omega | exact ne_true (by assumption) | exact (top_ok (by assumption) _).1 | (simp only [List.length_take, List.length_append, List.length_cons, List.length_nil]; omega)))

end Go.Proofs.Ytnoonoghemgbbaa.Sx

/-
  Do over stacks: its summary.
-/
set_option maxRecDepth 100000
set_option linter.unusedVariables false
set_option linter.unusedSimpArgs false
namespace Go.Proofs.Ytnoonoghemgbbaa.Sx
open Go
noncomputable section

instance (cs : List Int) : Decidable (cellsOk cs) := inferInstanceAs (Decidable (∀ x ∈ cs, 0 ≤ x ∧ x < 4294967296))

structure OpRow where
  t : Nat
  g : Nat
  f : List Int → List Int

def opsL : List (Option OpRow) := [none, some ⟨1, 2, out1⟩, some ⟨1, 0, out2⟩, some ⟨2, 2, out3⟩, some ⟨2, 3, out4⟩, some ⟨3, 3, out5⟩, none, some ⟨2, 1, out7⟩, some ⟨2, 3, out8⟩, some ⟨2, 4, out9⟩,
  some ⟨2, 0, out10⟩, some ⟨4, 4, out11⟩, some ⟨4, 6, out12⟩, none, none, none, some ⟨2, 1, out16⟩, some ⟨2, 1, out17⟩, some ⟨2, 1, out18⟩, none,
  none, none, none, none, some ⟨1, 1, out24⟩, some ⟨1, 1, out25⟩, some ⟨2, 1, out26⟩, some ⟨2, 1, out27⟩, some ⟨1, 1, out28⟩, some ⟨1, 1, out29⟩,
  some ⟨1, 1, out30⟩, some ⟨1, 1, out31⟩, some ⟨2, 2, out32⟩, some ⟨2, 2, out33⟩, none, none, none, some ⟨1, 2, out37⟩, some ⟨4, 2, out38⟩, some ⟨2, 2, out39⟩,
  some ⟨2, 1, out40⟩, some ⟨2, 1, out41⟩, some ⟨2, 1, out42⟩, some ⟨1, 1, out43⟩, some ⟨2, 1, out44⟩, some ⟨2, 1, out45⟩, some ⟨2, 1, out46⟩, some ⟨2, 1, out47⟩, some ⟨2, 1, out48⟩, some ⟨2, 1, out49⟩,
  some ⟨2, 1, out50⟩, some ⟨2, 1, out51⟩, some ⟨1, 1, out52⟩, some ⟨1, 1, out53⟩, some ⟨1, 1, out54⟩, some ⟨3, 1, out55⟩, none, none, none, none,
  none, none, none, none, none, some ⟨1, 1, out65⟩, some ⟨1, 1, out66⟩, some ⟨1, 1, out67⟩, some ⟨1, 1, out68⟩, some ⟨1, 1, out69⟩]

def RowsOk : Nat → List (Option OpRow) → Prop
  | _, [] => True
  | k, some r :: l => DoRow (Int.ofNat k) r.t r.g r.f ∧ RowsOk (k + 1) l
  | k, none :: l => RowsOk (k + 1) l

theorem RowsOk.get : ∀ {l : List (Option OpRow)} {b k : Nat} {r : OpRow}, RowsOk b l → l[k]? = some (some r) → DoRow (Int.ofNat (b + k)) r.t r.g r.f
  | [], _, _, _, _, h => by simp at h
  | some x :: l, b, 0, r, ⟨h1, _⟩, h => by simp at h; subst h; exact h1
  | some x :: l, b, k + 1, r, ⟨_, h2⟩, h => by have := RowsOk.get h2 (by simpa using h); rwa [show b + 1 + k = b + (k + 1) by omega] at this
  | none :: l, b, 0, r, _, h => by simp at h
  | none :: l, b, k + 1, r, h2, h => by have := RowsOk.get (l := l) h2 (by simpa using h); rwa [show b + 1 + k = b + (k + 1) by omega] at this

theorem opsL_ok : RowsOk 0 opsL := ⟨row1, row2, row3, row4, row5, row7, row8, row9, row10, row11, row12, row16, row17, row18, row24, row25, row26, row27, row28, row29, row30, row31, row32, row33, row37, row38, row39, row40, row41, row42, row43, row44, row45, row46, row47, row48, row49, row50, row51, row52, row53, row54, row55, row65, row66, row67, row68, row69, trivial⟩

/-- What a primitive makes of cells. -/
def dw (t : Nat) (f : List Int → List Int) (cs : List Int) : List Int := cs.take (cs.length - t) ++ f cs

def opWays (t g : Nat) (f : List Int → List Int) (cs : List Int) (m o u : Int) : List (Way Nob) := [
  ⟨[cd (cellsOk cs ∧ t ≤ cs.length ∧ (g : Int) ≤ m - (cs.length - t))], decide (t ≤ cs.length ∧ (g : Int) ≤ m - (cs.length - t)), i32' 0, [stO (dw t f cs) m o u], 0⟩,
  ⟨[cd (cs.length < t)], decide (cs.length < t), i32' u, [stO cs m o u], 1⟩,
  ⟨[cd (t ≤ cs.length ∧ m - (cs.length - t) < (g : Int))], true, i32' o, [stO cs m o u], 1⟩]

def depthWays (cs : List Int) (m o u : Int) : List (Way Nob) := [
  ⟨[cd ((1 : Int) ≤ m - cs.length)], decide ((1 : Int) ≤ m - cs.length), i32' 0, [stO (cs ++ [IntKind.u32.wrap cs.length]) m o u], 0⟩,
  ⟨[cd (m - cs.length < (1 : Int))], true, i32' o, [stO cs m o u], 1⟩]

def qdupWays (cs : List Int) (m o u : Int) : List (Way Nob) := [
  ⟨[cd (0 < cs.length ∧ (1 : Int) ≤ m - cs.length ∧ top cs 0 ≠ 0)], decide (0 < cs.length ∧ (1 : Int) ≤ m - cs.length ∧ top cs 0 ≠ 0), i32' 0, [stO (cs ++ [top cs 0]) m o u], 0⟩,
  ⟨[cd (0 < cs.length ∧ top cs 0 = 0)], decide (0 < cs.length ∧ top cs 0 = 0), i32' 0, [stO cs m o u], 1⟩,
  ⟨[cd (cs.length = 0)], decide (cs.length = 0), i32' u, [stO cs m o u], 1⟩,
  ⟨[cd (0 < cs.length ∧ m - cs.length < (1 : Int) ∧ top cs 0 ≠ 0)], true, i32' o, [stO cs m o u], 1⟩]

def pickWays (cs : List Int) (m o u : Int) : List (Way Nob) := [
  ⟨[cd (cellsOk cs ∧ deepAt cs < cs.length)], decide (deepAt cs < cs.length), i32' 0, [stO (cs.take (cs.length - 1) ++ [top cs (deepAt cs)]) m o u], 0⟩,
  ⟨[cd (cs.length = 0)], decide (cs.length = 0), i32' u, [stO cs m o u], 1⟩,
  ⟨[cd (cellsOk cs ∧ 0 < cs.length ∧ cs.length ≤ deepAt cs)], true, i32' u, [stO cs m o u], 1⟩]

def doS (n : Nat) (cs : List Int) (m o u : Int) : Option (List (Way Nob)) :=
  match nth opsL n with
  | some (some r) => some (opWays r.t r.g r.f cs m o u)
  | _ => match Nat.beq n 13 with
    | true => some (depthWays cs m o u)
    | false => match Nat.beq n 6 with
      | true => some (qdupWays cs m o u)
      | false => match Nat.beq n 14 with
        | true => some (pickWays cs m o u)
        | false => none

def doSG : List AV → List VB → Option (List (Way Nob))
  | [.cell (.int .u32 (.ofNat n)), .cell (.ptr false 0 0 0), .cell .anyp, .cell .anyp], [.o (.ab (.stk cs m o u))] => doS n cs m o u
  | _, _ => none

theorem doSG_ok : Valid Try.prog 14 (objSum doSG) := objSum_valid fun args Hc ws h => by
  unfold doSG at h
  split at h
  · rename_i n cs m o u
    unfold doS at h
    split at h
    · rename_i r hr
      cases h
      rw [nth_eq] at hr
      have hd := opsL_ok.get hr
      rw [Nat.zero_add] at hd
      exact ⟨fun hc => hd.one cs m o u hc.1.1 hc.1.2.1 hc.1.2.2, fun hc => hd.two cs m o u hc.1, fun hc => hd.three cs m o u hc.1.1 hc.1.2, trivial⟩
    · split at h
      · rename_i hn
        cases h
        have := Nat.eq_of_beq_eq_true hn
        subst this
        exact ⟨fun hc => depth_ok hc.1, fun hc => depth_full hc.1, trivial⟩
      · split at h
        · rename_i hn
          cases h
          have := Nat.eq_of_beq_eq_true hn
          subst this
          exact ⟨fun hc => qdup_ok hc.1.1 hc.1.2.1 hc.1.2.2, fun hc => qdup_zero hc.1.1 hc.1.2, fun hc => qdup_few hc.1, fun hc => qdup_full hc.1.1 hc.1.2.1 hc.1.2.2, trivial⟩
        · split at h
          · rename_i hn
            cases h
            have := Nat.eq_of_beq_eq_true hn
            subst this
            exact ⟨fun hc => pick_ok hc.1.1 hc.1.2, fun hc => pick_none hc.1, fun hc => pick_few hc.1.1 hc.1.2.1 hc.1.2.2, trivial⟩
          · cases h
  · cases h

def torWays (cs : List Int) (m o u : Int) (rs : List Int) (m2 o2 u2 : Int) : List (Way Nob) := [
  ⟨[cd (0 < cs.length ∧ (1 : Int) ≤ m2 - rs.length)], decide (0 < cs.length ∧ (1 : Int) ≤ m2 - rs.length), i32' 0, [stO (cs.take (cs.length - 1)) m o u, stO (rs ++ [top cs 0]) m2 o2 u2], 0⟩,
  ⟨[cd (cs.length = 0)], decide (cs.length = 0), i32' u, [stO cs m o u, stO rs m2 o2 u2], 2⟩,
  ⟨[cd (0 < cs.length ∧ m2 - rs.length < (1 : Int))], true, i32' o2, [stO cs m o u, stO rs m2 o2 u2], 2⟩]

def rfromWays (cs : List Int) (m o u : Int) (rs : List Int) (m2 o2 u2 : Int) : List (Way Nob) := [
  ⟨[cd (0 < rs.length ∧ (1 : Int) ≤ m - cs.length)], decide (0 < rs.length ∧ (1 : Int) ≤ m - cs.length), i32' 0, [stO (cs ++ [top rs 0]) m o u, stO (rs.take (rs.length - 1)) m2 o2 u2], 0⟩,
  ⟨[cd (m - cs.length < (1 : Int))], decide (m - cs.length < (1 : Int)), i32' o, [stO cs m o u, stO rs m2 o2 u2], 2⟩,
  ⟨[cd (rs.length = 0 ∧ (1 : Int) ≤ m - cs.length)], true, i32' u2, [stO cs m o u, stO rs m2 o2 u2], 2⟩]

def ratWays (cs : List Int) (m o u : Int) (rs : List Int) (m2 o2 u2 : Int) : List (Way Nob) := [
  ⟨[cd (0 < rs.length ∧ (1 : Int) ≤ m - cs.length)], decide (0 < rs.length ∧ (1 : Int) ≤ m - cs.length), i32' 0, [stO (cs ++ [top rs 0]) m o u, stO rs m2 o2 u2], 0⟩,
  ⟨[cd (m - cs.length < (1 : Int))], decide (m - cs.length < (1 : Int)), i32' o, [stO cs m o u, stO rs m2 o2 u2], 2⟩,
  ⟨[cd (rs.length = 0 ∧ (1 : Int) ≤ m - cs.length)], true, i32' u2, [stO cs m o u, stO rs m2 o2 u2], 2⟩]

def doRG : List AV → List VB → Option (List (Way Nob))
  | [.cell (.int .u32 (.ofNat n)), .cell (.ptr false 0 0 0), .cell (.ptr false 1 0 0), .cell .anyp], [.o (.ab (.stk cs m o u)), .o (.ab (.stk rs m2 o2 u2))] =>
    match Nat.beq n 71 with
    | true => some (torWays cs m o u rs m2 o2 u2)
    | false => match Nat.beq n 72 with
      | true => some (rfromWays cs m o u rs m2 o2 u2)
      | false => match Nat.beq n 73 with
        | true => some (ratWays cs m o u rs m2 o2 u2)
        | false => none
  | _, _ => none

theorem doRG_ok : Valid Try.prog 14 (objSum doRG) := objSum_valid fun args Hc ws h => by
  unfold doRG at h
  split at h
  · rename_i n cs m o u rs m2 o2 u2
    split at h
    · rename_i hn
      cases h
      have := Nat.eq_of_beq_eq_true hn
      subst this
      exact ⟨fun hc => tor_ok hc.1.1 hc.1.2, fun hc => tor_few hc.1, fun hc => tor_full hc.1.1 hc.1.2, trivial⟩
    · split at h
      · rename_i hn
        cases h
        have := Nat.eq_of_beq_eq_true hn
        subst this
        exact ⟨fun hc => rfrom_ok hc.1.1 hc.1.2, fun hc => rfrom_full hc.1, fun hc => rfrom_few hc.1.1 hc.1.2, trivial⟩
      · split at h
        · rename_i hn
          cases h
          have := Nat.eq_of_beq_eq_true hn
          subst this
          exact ⟨fun hc => rat_ok hc.1.1 hc.1.2, fun hc => rat_full hc.1, fun hc => rat_few hc.1.1 hc.1.2, trivial⟩
        · cases h
  · cases h

/-- Of which arguments Do takes note. -/
def doP : List AV → Option (Sum Nob)
  | .cell (.int .u32 (.ofNat n)) :: _ => match Nat.ble 71 n with
    | true => some (maskSum [3] (objSum doRG))
    | false => some (maskSum [2, 3] (objSum doSG))
  | _ => none

theorem doP_ok : Valid Try.prog 14 (pickSum doP) := pickSum_valid fun args s h => by
  unfold doP at h
  split at h
  · split at h
    · cases h
      exact maskSum_valid doRG_ok
    · cases h
      exact maskSum_valid doSG_ok
  · cases h

end
end Go.Proofs.Ytnoonoghemgbbaa.Sx

/-
  When two lists of cells are one: the loop of 'cells'.
-/
set_option maxRecDepth 100000
set_option linter.unusedVariables false
set_option linter.unusedSimpArgs false
namespace Go.Proofs.Ytnoonoghemgbbaa.Sx
open Go

abbrev SLc (b n : Nat) (c : Option Nat) : AV := .cell (.slice false b 0 0 n c 1)
def clt (n : Nat) (c1 c2 : Option Nat) (i : Int) : List AV := [SLc 0 n c1, SLc 1 n c2, .tup [], .tup [], .cell (.bool false), .junk, SLc 0 n c1, i64 n, SLc 1 n c2, i64 n, .junk, SLc 0 n c1, i64 n, i64 i,
  .junk, .junk, .junk, .junk, .junk, .junk, .junk, .junk, .junk, .junk, .junk, .junk]
def clj : List Nat := [5, 10, 14, 15, 16, 17, 18, 19, 20, 21, 22, 23, 24, 25]
abbrev twoH (l1 l2 : List Int) : Heap Nob := [some (.cells true 1 fun _ => .ints .u32 l1), some (.cells true 1 fun _ => .ints .u32 l2)]
noncomputable abbrev clrun (l1 l2 : List Int) (n : Nat) (c1 c2 : Option Nat) (i : Nat) (d : Dec) := junkE clj (codeR (D := Nob) Try.prog (look []) (fun _ => none) 200 0 (bodyOf Try.prog 12 0) (clt n c1 c2 i) (twoH l1 l2) d)

abbrev atC (l : List Int) (i : Nat) : Int := l.getD (0 + i * 1) 0

theorem clrun_4 (l1 l2 : List Int) (n : Nat) (c1 c2 : Option Nat) (i : Nat) : Good (clrun l1 l2 n c1 c2 i [0]) [0] [decide ((↑i : Int) < (↑n : Int)) = false]
    (.exit 0, clt n c1 c2 i, twoH l1 l2, 2, []) := ⟨by kernel_rfl, by kernel_rfl⟩

theorem clrun_1 (l1 l2 : List Int) (n : Nat) (c1 c2 : Option Nat) (i : Nat) : Good (clrun l1 l2 n c1 c2 i [1, 2, 0, 0]) [0, 0, 0, 0, 0, 0] [decide ((↑i : Int) < (↑n : Int)) = true, false = false ∧ (0 : Int) ≤ (↑i : Int) ∧ (↑i : Int) < (↑n : Int), false = false ∧ (0 : Nat) < (1 : Nat) ∧ 0 + i * 1 < l1.length ∧ True, false = false ∧ (0 : Int) ≤ (↑i : Int) ∧ (↑i : Int) < (↑n : Int), false = false ∧ (0 : Nat) < (1 : Nat) ∧ 0 + i * 1 < l2.length ∧ True, (atC l1 i != atC l2 i) = false]
    (.normal, clt n c1 c2 (IntKind.i64.wrap (i + 1)), twoH l1 l2, 2, []) := ⟨by kernel_rfl, by kernel_rfl⟩

theorem take_getD {l1 l2 : List Int} {n i : Nat} (hi : i < n) (h1 : n ≤ l1.length) (h2 : n ≤ l2.length) (h : l1.take n = l2.take n) : l1.getD i 0 = l2.getD i 0 := by
  have e : (l1.take n)[i]? = (l2.take n)[i]? := by rw [h]
  rw [List.getElem?_take, List.getElem?_take, if_pos hi, if_pos hi] at e
  rw [List.getD_eq_getElem?_getD, List.getD_eq_getElem?_getD, e]

theorem cells_loop {l1 l2 : List Int} {n : Nat} {c1 c2 : Option Nat} (h1 : n ≤ l1.length) (h2 : n ≤ l2.length) (hn : (n : Int) ≤ 9223372036854775807) (h : l1.take n = l2.take n) : ∀ (k i : Nat), i + k = n →
    Runs Try.prog (.loop (bodyOf Try.prog 12 0)) (clt n c1 c2 i) (twoH l1 l2) (.exit 0) (clt n c1 c2 n) (twoH l1 l2) 2
  | 0, i, hk => by
    have : i = n := by omega
    subst this
    have hr := (clrun_4 l1 l2 i c1 c2 i).runsJ hmix (AllV.look (l := []) trivial) (fun _ _ _ h => by cases h) (by simp [AllP])
    exact (Runs.last hr (by intro h; cases h)).low (by decide)
  | k + 1, i, hk => by
    have hi : i < n := by omega
    have ew : IntKind.i64.wrap ((i : Int) + 1) = ((i + 1 : Nat) : Int) := by rw [wrap_i64 (by omega) (by omega)]; rfl
    have ea : ∀ l : List Int, atC l i = l.getD i 0 := fun l => by simp [atC]
    have hb : Runs Try.prog (bodyOf Try.prog 12 0) (clt n c1 c2 i) (twoH l1 l2) .normal (clt n c1 c2 ((i + 1 : Nat) : Int)) (twoH l1 l2) 2 := by
      refine ew ▸ (clrun_1 l1 l2 n c1 c2 i).runsJ hmix (AllV.look (l := []) trivial) (fun _ _ _ h => by cases h) ?_
      have e0 : 0 + i * 1 = i := by omega
      simp only [AllP, ea, take_getD hi h1 h2 h, e0]
      simp
      omega
    exact (Runs.round hb (cells_loop h1 h2 hn h k (i + 1) (by omega))).low (by decide)

noncomputable abbrev E12 (l1 l2 : List Int) (n : Nat) (c1 c2 : Option Nat) : Sum Nob := runF (D := Nob) Try.prog (look []) (atLoop 12 0 (bodyOf Try.prog 12 0, someLoop clj (clt n c1 c2 0) (twoH l1 l2) (.exit 0) (clt n c1 c2 n) (twoH l1 l2) 2)) 200 12 12

theorem cells_run (l1 l2 : List Int) (n : Nat) (c1 c2 : Option Nat) : Good (E12 l1 l2 n c1 c2 [SLc 0 n c1, SLc 1 n c2] (twoH l1 l2) [0, 1]) [0] [((n : Int) != (n : Int)) = false] (.cell (.bool true), twoH l1 l2, 2, []) := ⟨by kernel_rfl, by kernel_rfl⟩

theorem cells_can {l1 l2 : List Int} {n : Nat} {c1 c2 : Option Nat} (h1 : n ≤ l1.length) (h2 : n ≤ l2.length) (hn : (n : Int) ≤ 9223372036854775807) (h : l1.take n = l2.take n) : CanOk Try.prog 12 (twoH l1 l2) [SLc 0 n c1, SLc 1 n c2] (.cell (.bool true)) (twoH l1 l2) 2 :=
  (cells_run l1 l2 n c1 c2).can (runF_valid hmix (AllV.look (l := []) trivial) (atLoop_ok (someLoop_valid (cells_loop h1 h2 hn h n 0 (by omega)))) 200 12 12) ⟨by simp, trivial⟩

theorem cells_nil : Good (E [] 12 [.cell .empty, .cell .empty] [] [0, 0, 0]) [] [] (.cell (.bool true), [], 0, []) := ⟨by kernel_rfl, by kernel_rfl⟩

def cellsG : List AV → View → Option (List (Way Nob))
  | [.cell (.slice false 0 0 0 n c1 1), .cell (.slice false 1 0 0 n2 c2 1)], [(true, .ints .u32 l1), (true, .ints .u32 l2)] =>
    some [⟨[cd (n2 = n ∧ n ≤ l1.length ∧ n ≤ l2.length ∧ (n : Int) ≤ 9223372036854775807 ∧ l1.take n = l2.take n)], true, .cell (.bool true), twoH l1 l2, 2⟩]
  | [.cell .empty, .cell .empty], [] => some [⟨[], true, .cell (.bool true), [], 0⟩]
  | _, _ => none

theorem cellsG_ok : Valid Try.prog 12 (canonSum cellsG) := canon_of fun args Hc l h => by
  unfold cellsG at h
  split at h
  · cases h
    refine ⟨fun hc => ?_, trivial⟩
    obtain ⟨⟨rfl, h1, h2, h3, h4⟩, _⟩ := hc
    exact cells_can h1 h2 h3 h4
  · cases h
    exact ⟨fun _ => cells_nil.can (E_valid (l := []) trivial 12) trivial, trivial⟩
  · cases h

/-- A new stack. -/
theorem new_1 (m o u : Int) : Good (E [] 19 [i64 m, i32' o, i32' u] [] [1, 1, 0, 1, 1, 0, 1, 1, 0, 0]) [0, 0, 0, 0, 0, 0, 0, 0, 0, 0] [(decide (m < (1 : Int)) == false) = true, (decide (m < (1 : Int)) == false) = true, decide (m < (1 : Int)) = false, (decide (m > (4096 : Int)) == false) = true, (decide (m > (4096 : Int)) == false) = true, decide (m > (4096 : Int)) = false, (decide (o ≥ (0 : Int)) == false) = true, (decide (o ≥ (0 : Int)) == false) = true, decide (o ≥ (0 : Int)) = false, decide (u ≥ (0 : Int)) = false]
    (.tup [.cell (.ptr false 0 0 0), .cell (.int .i64 0)], ofView Nob (stN m o u), 0, []) := ⟨by kernel_rfl, by kernel_rfl⟩

theorem only_zero : ∀ (i k : Nat), i ≠ 0 → [0][i]? = some k → k ∉ (0 :: ([] : List Nat)) := by
  intro i k hi hk
  have h := (List.getElem?_eq_some_iff.1 hk).1
  simp at h
  exact absurd h hi

theorem new_ok {m o u : Int} (h : 1 ≤ m ∧ m ≤ 4096 ∧ o < 0 ∧ u < 0) : CanOk Try.prog 19 ([] : Heap Nob) [i64 m, i32' o, i32' u] (.tup [.cell (.ptr false 0 0 0), .cell (.int .i64 0)]) [stO [] m o u] 0 :=
  CanOk.made (T := [none]) (p := 0) (j := 0) (es := []) (κ := [0]) (V' := stN m o u) (v1 := .tup [.cell (.ptr false 0 0 0), .cell (.int .i64 0)]) (d' := .stk [] m o u)
    ((new_1 m o u).can (E_valid (l := []) trivial 19) (by simp only [AllP]; simp; omega)) (by simp [ofView]) (by decide) ⟨rfl, trivial⟩ (by simp) ⟨⟨by simp; omega, by omega, by omega, by omega, by omega⟩, .inl ⟨rfl, rfl⟩⟩ (by decide) ⟨Nat.succ_pos _, trivial⟩ rfl rfl (by simp) only_zero (by simp) rfl

def newG : List AV → List VB → Option (List (Way Nob))
  | [.cell (.int .i64 m), .cell (.int .i32 o), .cell (.int .i32 u)], [] => some [⟨[cd (1 ≤ m ∧ m ≤ 4096 ∧ o < 0 ∧ u < 0)], true, .tup [.cell (.ptr false 0 0 0), .cell (.int .i64 0)], [stO [] m o u], 0⟩]
  | _, _ => none

theorem newG_ok : Valid Try.prog 19 (objSum newG) := objSum_valid fun args Hc ws h => by
  unfold newG at h
  split at h
  · cases h
    exact ⟨fun hc => new_ok hc.1, trivial⟩
  · cases h

end Go.Proofs.Ytnoonoghemgbbaa.Sx

/-
  PlainOrder: part 1: what 'becomes' is run with.
-/
set_option maxRecDepth 100000
set_option linter.unusedVariables false
set_option linter.unusedSimpArgs false
namespace Go.Proofs.Ytnoonoghemgbbaa.Sx
open Go

noncomputable abbrev sB : List (Nat × Sum Nob) := [(14, pickSum doP), (22, quietSum namedG), (13, objSum allO), (21, objSum pushO), (19, objSum newG), (12, canonSum cellsG)]
theorem sB_ok : AllV Try.prog sB := ⟨doP_ok, named_ok, allO_ok, pushO_ok, newG_ok, cellsG_ok, trivial⟩
noncomputable abbrev evB (f : FuncId) (a : List AV) (H : Heap Nob) (d : Dec) := trimF 2 (E sB f a H d)
noncomputable abbrev evB3 (f : FuncId) (a : List AV) (H : Heap Nob) (d : Dec) := trimF 3 (E sB f a H d)

def ordA (n k : Nat) : List AV := [SLc 0 k none, SLc 1 n (some n), SLc 0 k none, i32' 0]
def ordA2 (n k k2 : Nat) : List AV := [SLc 0 k none, SLc 1 n (some n), SLc 2 k2 none, i32' 0]
def ordH (xs : List Int) (ns : List Cell) : Heap Nob := [some (.cells true 1 fun _ => .ints .u32 xs), some (.cells true 1 fun _ => .raw ns)]
def ordH2 (xs : List Int) (ns : List Cell) (ys : List Int) : Heap Nob := [some (.cells true 1 fun _ => .ints .u32 xs), some (.cells true 1 fun _ => .raw ns), some (.cells true 1 fun _ => .ints .u32 ys)]

end Go.Proofs.Ytnoonoghemgbbaa.Sx
