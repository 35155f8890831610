import Derived.Test.YtnoonoghemgbbaaOr8
/-
  Do over stacks, way by way (printed by the explorer; wip/plain/gendoo.py): order words.
-/
set_option maxRecDepth 100000
set_option linter.unusedVariables false
set_option linter.unusedSimpArgs false
namespace Go.Proofs.Ytnoonoghemgbbaa.Sx
open Go

theorem do1_1 (cs : List Int) (m o u : Int) : Good (evo 14 [.cell (.int .u32 1), sp, anyP, anyP] [stO cs m o u] [0, 1, 1, 0, 0, 0, 0, 0, 0, 0, 0, 0, 0, 0, 0, 1, 0, 0, 0, 0, 0, 1, 0, 1, 0, 0, 1, 2, 0, 0, 1, 0, 10, 1, 6, 0, 0, 0, 0, 0, 0]) [18, 12, 32, 1, 2] [(0 : Int) ≤ (1 : Int) ∧ (1 : Int) ≤ (↑cs.length : Int) ∧ (0 : Int) ≤ (2 : Int) ∧ (2 : Int) ≤ m - ((↑cs.length : Int) - (1 : Int)), (0 : Int) ≤ (0 : Int) ∧ (0 : Int) < (↑cs.length : Int), (0 : Int) ≤ IntKind.i64.wrap ((↑cs.length : Int) - (1 : Int)) ∧ IntKind.i64.wrap ((↑cs.length : Int) - (1 : Int)) ≤ (↑cs.length : Int), (0 : Int) ≤ IntKind.i64.wrap ((↑cs.length : Int) - (1 : Int)) ∧ IntKind.i64.wrap ((↑cs.length : Int) - (1 : Int)) ≤ (↑cs.length : Int), (2 : Nat) ≤ (2 : Nat) ∧ (2 : Int) ≤ m - (↑(List.take (IntKind.i64.wrap ((↑cs.length : Int) - (1 : Int))).toNat cs).length : Int)] (AV.cell (Cell.int IntKind.i32 (0 : Int)), [some (Blk.obj (Ob.ab (Ab.stk (List.take (IntKind.i64.wrap ((↑cs.length : Int) - (1 : Int))).toNat cs ++ [top cs 0, top cs 0]) m o u)))], (0 : Nat), []) := ⟨by kernel_rfl, by kernel_rfl⟩

theorem do1_2 (cs : List Int) (m o u : Int) : Good (evo 14 [.cell (.int .u32 1), sp, anyP, anyP] [stO cs m o u] [0, 1, 1, 0, 0, 0, 0, 0, 0, 1, 1]) [18, 0] [(↑cs.length : Int) < (1 : Int) ∧ (1 : Int) ≤ (65536 : Int), (u != (0 : Int)) = true] (AV.cell (Cell.int IntKind.i32 u), [some (Blk.obj (Ob.ab (Ab.stk cs m o u)))], (1 : Nat), []) := ⟨by kernel_rfl, by kernel_rfl⟩

theorem do1_3 (cs : List Int) (m o u : Int) : Good (evo 14 [.cell (.int .u32 1), sp, anyP, anyP] [stO cs m o u] [0, 1, 1, 0, 0, 0, 0, 0, 0, 2, 1]) [18, 0] [(0 : Int) ≤ (1 : Int) ∧ (1 : Int) ≤ (↑cs.length : Int) ∧ (0 : Int) ≤ (2 : Int) ∧ m - ((↑cs.length : Int) - (1 : Int)) < (2 : Int), (o != (0 : Int)) = true] (AV.cell (Cell.int IntKind.i32 o), [some (Blk.obj (Ob.ab (Ab.stk cs m o u)))], (1 : Nat), []) := ⟨by kernel_rfl, by kernel_rfl⟩

def out1 (cs : List Int) : List Int := [top cs 0, top cs 0]

theorem row1 : DoRow 1 1 2 out1 := by
  refine ⟨fun cs m o u hc h1 h2 => CanOk.knows (j := 0) rfl fun hk => ?_, fun cs m o u h => CanOk.knows (j := 0) rfl fun hk => ?_, fun cs m o u h1 h2 => CanOk.knows (j := 0) rfl fun hk => ?_⟩
  · obtain ⟨i1, i2, i3, i4, i5⟩ := stk_inv hk
    have e : IntKind.i64.wrap ((cs.length : Int) - (1 : Int)) = (cs.length : Int) - (1 : Int) := wrap_len (by omega) (by omega) (by omega)
    have e2 : ((cs.length : Int) - (1 : Int)).toNat = cs.length - 1 := by omega
    have g := do1_1 cs m o u
    simp only [e, e2] at g
    have h := g.canT (E_valid sO_ok 14) (Nat.le_refl 1) (by ((simp only [AllP, and_true]; repeat' apply And.intro) <;> first | trivial | omega | exact ne_true (by assumption) | exact (top_ok (by assumption) _).1 | (simp only [List.length_take, List.length_append, List.length_cons, List.length_nil]; omega)))
    first
      | exact h
      | (have e3 := List.append_nil (cs.take (cs.length - 1)); rw [← e3] at h; exact h)
  · obtain ⟨i1, i2, i3, i4, i5⟩ := stk_inv hk
    exact (do1_2 cs m o u).canT (E_valid sO_ok 14) (Nat.le_refl 1) (by ((simp only [AllP, and_true]; repeat' apply And.intro) <;> first | trivial | omega | exact ne_true (by assumption) | exact (top_ok (by assumption) _).1 | (simp only [List.length_take, List.length_append, List.length_cons, List.length_nil]; omega)))
  · obtain ⟨i1, i2, i3, i4, i5⟩ := stk_inv hk
    exact (do1_3 cs m o u).canT (E_valid sO_ok 14) (Nat.le_refl 1) (by ((simp only [AllP, and_true]; repeat' apply And.intro) <;> first | trivial | omega | exact ne_true (by assumption) | exact (top_ok (by assumption) _).1 | (simp only [List.length_take, List.length_append, List.length_cons, List.length_nil]; omega)))

theorem do2_1 (cs : List Int) (m o u : Int) : Good (evo 14 [.cell (.int .u32 2), sp, anyP, anyP] [stO cs m o u] [0, 1, 1, 0, 0, 0, 0, 0, 0, 0, 0, 0, 0, 0, 0, 1, 0, 0, 0, 1, 1, 0, 0, 1, 0, 5, 1, 6, 0, 0, 0, 0, 0, 0]) [18, 12, 14, 1] [(0 : Int) ≤ (1 : Int) ∧ (1 : Int) ≤ (↑cs.length : Int) ∧ (0 : Int) ≤ (0 : Int) ∧ (0 : Int) ≤ m - ((↑cs.length : Int) - (1 : Int)), (0 : Int) ≤ (0 : Int) ∧ (0 : Int) < (↑cs.length : Int), (0 : Int) ≤ IntKind.i64.wrap ((↑cs.length : Int) - (1 : Int)) ∧ IntKind.i64.wrap ((↑cs.length : Int) - (1 : Int)) ≤ (↑cs.length : Int), (0 : Int) ≤ IntKind.i64.wrap ((↑cs.length : Int) - (1 : Int)) ∧ IntKind.i64.wrap ((↑cs.length : Int) - (1 : Int)) ≤ (↑cs.length : Int)] (AV.cell (Cell.int IntKind.i32 (0 : Int)), [some (Blk.obj (Ob.ab (Ab.stk (List.take (IntKind.i64.wrap ((↑cs.length : Int) - (1 : Int))).toNat cs) m o u)))], (0 : Nat), []) := ⟨by kernel_rfl, by kernel_rfl⟩

theorem do2_2 (cs : List Int) (m o u : Int) : Good (evo 14 [.cell (.int .u32 2), sp, anyP, anyP] [stO cs m o u] [0, 1, 1, 0, 0, 0, 0, 0, 0, 1, 1]) [18, 0] [(↑cs.length : Int) < (1 : Int) ∧ (1 : Int) ≤ (65536 : Int), (u != (0 : Int)) = true] (AV.cell (Cell.int IntKind.i32 u), [some (Blk.obj (Ob.ab (Ab.stk cs m o u)))], (1 : Nat), []) := ⟨by kernel_rfl, by kernel_rfl⟩

theorem do2_3 (cs : List Int) (m o u : Int) : Good (evo 14 [.cell (.int .u32 2), sp, anyP, anyP] [stO cs m o u] [0, 1, 1, 0, 0, 0, 0, 0, 0, 2, 1]) [18, 0] [(0 : Int) ≤ (1 : Int) ∧ (1 : Int) ≤ (↑cs.length : Int) ∧ (0 : Int) ≤ (0 : Int) ∧ m - ((↑cs.length : Int) - (1 : Int)) < (0 : Int), (o != (0 : Int)) = true] (AV.cell (Cell.int IntKind.i32 o), [some (Blk.obj (Ob.ab (Ab.stk cs m o u)))], (1 : Nat), []) := ⟨by kernel_rfl, by kernel_rfl⟩

def out2 (cs : List Int) : List Int := []

theorem row2 : DoRow 2 1 0 out2 := by
  refine ⟨fun cs m o u hc h1 h2 => CanOk.knows (j := 0) rfl fun hk => ?_, fun cs m o u h => CanOk.knows (j := 0) rfl fun hk => ?_, fun cs m o u h1 h2 => CanOk.knows (j := 0) rfl fun hk => ?_⟩
  · obtain ⟨i1, i2, i3, i4, i5⟩ := stk_inv hk
    have e : IntKind.i64.wrap ((cs.length : Int) - (1 : Int)) = (cs.length : Int) - (1 : Int) := wrap_len (by omega) (by omega) (by omega)
    have e2 : ((cs.length : Int) - (1 : Int)).toNat = cs.length - 1 := by omega
    have g := do2_1 cs m o u
    simp only [e, e2] at g
    have h := g.canT (E_valid sO_ok 14) (Nat.le_refl 1) (by ((simp only [AllP, and_true]; repeat' apply And.intro) <;> first | trivial | omega | exact ne_true (by assumption) | exact (top_ok (by assumption) _).1 | (simp only [List.length_take, List.length_append, List.length_cons, List.length_nil]; omega)))
    first
      | exact h
      | (have e3 := List.append_nil (cs.take (cs.length - 1)); rw [← e3] at h; exact h)
  · obtain ⟨i1, i2, i3, i4, i5⟩ := stk_inv hk
    exact (do2_2 cs m o u).canT (E_valid sO_ok 14) (Nat.le_refl 1) (by ((simp only [AllP, and_true]; repeat' apply And.intro) <;> first | trivial | omega | exact ne_true (by assumption) | exact (top_ok (by assumption) _).1 | (simp only [List.length_take, List.length_append, List.length_cons, List.length_nil]; omega)))
  · obtain ⟨i1, i2, i3, i4, i5⟩ := stk_inv hk
    exact (do2_3 cs m o u).canT (E_valid sO_ok 14) (Nat.le_refl 1) (by ((simp only [AllP, and_true]; repeat' apply And.intro) <;> first | trivial | omega | exact ne_true (by assumption) | exact (top_ok (by assumption) _).1 | (simp only [List.length_take, List.length_append, List.length_cons, List.length_nil]; omega)))

theorem do3_1 (cs : List Int) (m o u : Int) : Good (evo 14 [.cell (.int .u32 3), sp, anyP, anyP] [stO cs m o u] [0, 1, 1, 0, 0, 0, 0, 0, 0, 0, 0, 0, 0, 0, 0, 1, 0, 0, 1, 0, 0, 0, 0, 0, 0, 1, 0, 1, 0, 0, 1, 2, 0, 0, 1, 0, 10, 1, 6, 0, 0, 0, 0, 0, 0]) [18, 12, 6, 33, 1, 2] [(0 : Int) ≤ (2 : Int) ∧ (2 : Int) ≤ (↑cs.length : Int) ∧ (0 : Int) ≤ (2 : Int) ∧ (2 : Int) ≤ m - ((↑cs.length : Int) - (2 : Int)), (0 : Int) ≤ (1 : Int) ∧ (1 : Int) < (↑cs.length : Int), (0 : Int) ≤ (0 : Int) ∧ (0 : Int) < (↑cs.length : Int), (0 : Int) ≤ IntKind.i64.wrap ((↑cs.length : Int) - (2 : Int)) ∧ IntKind.i64.wrap ((↑cs.length : Int) - (2 : Int)) ≤ (↑cs.length : Int), (0 : Int) ≤ IntKind.i64.wrap ((↑cs.length : Int) - (2 : Int)) ∧ IntKind.i64.wrap ((↑cs.length : Int) - (2 : Int)) ≤ (↑cs.length : Int), (2 : Nat) ≤ (2 : Nat) ∧ (2 : Int) ≤ m - (↑(List.take (IntKind.i64.wrap ((↑cs.length : Int) - (2 : Int))).toNat cs).length : Int)] (AV.cell (Cell.int IntKind.i32 (0 : Int)), [some (Blk.obj (Ob.ab (Ab.stk (List.take (IntKind.i64.wrap ((↑cs.length : Int) - (2 : Int))).toNat cs ++ [top cs 0, top cs 1]) m o u)))], (0 : Nat), []) := ⟨by kernel_rfl, by kernel_rfl⟩

theorem do3_2 (cs : List Int) (m o u : Int) : Good (evo 14 [.cell (.int .u32 3), sp, anyP, anyP] [stO cs m o u] [0, 1, 1, 0, 0, 0, 0, 0, 0, 1, 1]) [18, 0] [(↑cs.length : Int) < (2 : Int) ∧ (2 : Int) ≤ (65536 : Int), (u != (0 : Int)) = true] (AV.cell (Cell.int IntKind.i32 u), [some (Blk.obj (Ob.ab (Ab.stk cs m o u)))], (1 : Nat), []) := ⟨by kernel_rfl, by kernel_rfl⟩

theorem do3_3 (cs : List Int) (m o u : Int) : Good (evo 14 [.cell (.int .u32 3), sp, anyP, anyP] [stO cs m o u] [0, 1, 1, 0, 0, 0, 0, 0, 0, 2, 1]) [18, 0] [(0 : Int) ≤ (2 : Int) ∧ (2 : Int) ≤ (↑cs.length : Int) ∧ (0 : Int) ≤ (2 : Int) ∧ m - ((↑cs.length : Int) - (2 : Int)) < (2 : Int), (o != (0 : Int)) = true] (AV.cell (Cell.int IntKind.i32 o), [some (Blk.obj (Ob.ab (Ab.stk cs m o u)))], (1 : Nat), []) := ⟨by kernel_rfl, by kernel_rfl⟩

def out3 (cs : List Int) : List Int := [top cs 0, top cs 1]

theorem row3 : DoRow 3 2 2 out3 := by
  refine ⟨fun cs m o u hc h1 h2 => CanOk.knows (j := 0) rfl fun hk => ?_, fun cs m o u h => CanOk.knows (j := 0) rfl fun hk => ?_, fun cs m o u h1 h2 => CanOk.knows (j := 0) rfl fun hk => ?_⟩
  · obtain ⟨i1, i2, i3, i4, i5⟩ := stk_inv hk
    have e : IntKind.i64.wrap ((cs.length : Int) - (2 : Int)) = (cs.length : Int) - (2 : Int) := wrap_len (by omega) (by omega) (by omega)
    have e2 : ((cs.length : Int) - (2 : Int)).toNat = cs.length - 2 := by omega
    have g := do3_1 cs m o u
    simp only [e, e2] at g
    have h := g.canT (E_valid sO_ok 14) (Nat.le_refl 1) (by ((simp only [AllP, and_true]; repeat' apply And.intro) <;> first | trivial | omega | exact ne_true (by assumption) | exact (top_ok (by assumption) _).1 | (simp only [List.length_take, List.length_append, List.length_cons, List.length_nil]; omega)))
    first
      | exact h
      | (have e3 := List.append_nil (cs.take (cs.length - 2)); rw [← e3] at h; exact h)
  · obtain ⟨i1, i2, i3, i4, i5⟩ := stk_inv hk
    exact (do3_2 cs m o u).canT (E_valid sO_ok 14) (Nat.le_refl 1) (by ((simp only [AllP, and_true]; repeat' apply And.intro) <;> first | trivial | omega | exact ne_true (by assumption) | exact (top_ok (by assumption) _).1 | (simp only [List.length_take, List.length_append, List.length_cons, List.length_nil]; omega)))
  · obtain ⟨i1, i2, i3, i4, i5⟩ := stk_inv hk
    exact (do3_3 cs m o u).canT (E_valid sO_ok 14) (Nat.le_refl 1) (by ((simp only [AllP, and_true]; repeat' apply And.intro) <;> first | trivial | omega | exact ne_true (by assumption) | exact (top_ok (by assumption) _).1 | (simp only [List.length_take, List.length_append, List.length_cons, List.length_nil]; omega)))

theorem do4_1 (cs : List Int) (m o u : Int) : Good (evo 14 [.cell (.int .u32 4), sp, anyP, anyP] [stO cs m o u] [0, 1, 1, 0, 0, 0, 0, 0, 0, 0, 0, 0, 0, 0, 0, 1, 0, 0, 1, 0, 0, 0, 0, 0, 0, 0, 1, 0, 1, 0, 0, 1, 2, 0, 1, 2, 0, 0, 1, 0, 12, 1, 6, 0, 0, 0, 0, 0, 0]) [18, 12, 6, 42, 1, 2] [(0 : Int) ≤ (2 : Int) ∧ (2 : Int) ≤ (↑cs.length : Int) ∧ (0 : Int) ≤ (3 : Int) ∧ (3 : Int) ≤ m - ((↑cs.length : Int) - (2 : Int)), (0 : Int) ≤ (1 : Int) ∧ (1 : Int) < (↑cs.length : Int), (0 : Int) ≤ (0 : Int) ∧ (0 : Int) < (↑cs.length : Int), (0 : Int) ≤ IntKind.i64.wrap ((↑cs.length : Int) - (2 : Int)) ∧ IntKind.i64.wrap ((↑cs.length : Int) - (2 : Int)) ≤ (↑cs.length : Int), (0 : Int) ≤ IntKind.i64.wrap ((↑cs.length : Int) - (2 : Int)) ∧ IntKind.i64.wrap ((↑cs.length : Int) - (2 : Int)) ≤ (↑cs.length : Int), (3 : Nat) ≤ (3 : Nat) ∧ (3 : Int) ≤ m - (↑(List.take (IntKind.i64.wrap ((↑cs.length : Int) - (2 : Int))).toNat cs).length : Int)] (AV.cell (Cell.int IntKind.i32 (0 : Int)), [some (Blk.obj (Ob.ab (Ab.stk (List.take (IntKind.i64.wrap ((↑cs.length : Int) - (2 : Int))).toNat cs ++ [top cs 1, top cs 0, top cs 1]) m o u)))], (0 : Nat), []) := ⟨by kernel_rfl, by kernel_rfl⟩

theorem do4_2 (cs : List Int) (m o u : Int) : Good (evo 14 [.cell (.int .u32 4), sp, anyP, anyP] [stO cs m o u] [0, 1, 1, 0, 0, 0, 0, 0, 0, 1, 1]) [18, 0] [(↑cs.length : Int) < (2 : Int) ∧ (2 : Int) ≤ (65536 : Int), (u != (0 : Int)) = true] (AV.cell (Cell.int IntKind.i32 u), [some (Blk.obj (Ob.ab (Ab.stk cs m o u)))], (1 : Nat), []) := ⟨by kernel_rfl, by kernel_rfl⟩

theorem do4_3 (cs : List Int) (m o u : Int) : Good (evo 14 [.cell (.int .u32 4), sp, anyP, anyP] [stO cs m o u] [0, 1, 1, 0, 0, 0, 0, 0, 0, 2, 1]) [18, 0] [(0 : Int) ≤ (2 : Int) ∧ (2 : Int) ≤ (↑cs.length : Int) ∧ (0 : Int) ≤ (3 : Int) ∧ m - ((↑cs.length : Int) - (2 : Int)) < (3 : Int), (o != (0 : Int)) = true] (AV.cell (Cell.int IntKind.i32 o), [some (Blk.obj (Ob.ab (Ab.stk cs m o u)))], (1 : Nat), []) := ⟨by kernel_rfl, by kernel_rfl⟩

def out4 (cs : List Int) : List Int := [top cs 1, top cs 0, top cs 1]

theorem row4 : DoRow 4 2 3 out4 := by
  refine ⟨fun cs m o u hc h1 h2 => CanOk.knows (j := 0) rfl fun hk => ?_, fun cs m o u h => CanOk.knows (j := 0) rfl fun hk => ?_, fun cs m o u h1 h2 => CanOk.knows (j := 0) rfl fun hk => ?_⟩
  · obtain ⟨i1, i2, i3, i4, i5⟩ := stk_inv hk
    have e : IntKind.i64.wrap ((cs.length : Int) - (2 : Int)) = (cs.length : Int) - (2 : Int) := wrap_len (by omega) (by omega) (by omega)
    have e2 : ((cs.length : Int) - (2 : Int)).toNat = cs.length - 2 := by omega
    have g := do4_1 cs m o u
    simp only [e, e2] at g
    have h := g.canT (E_valid sO_ok 14) (Nat.le_refl 1) (by ((simp only [AllP, and_true]; repeat' apply And.intro) <;> first | trivial | omega | exact ne_true (by assumption) | exact (top_ok (by assumption) _).1 | (simp only [List.length_take, List.length_append, List.length_cons, List.length_nil]; omega)))
    first
      | exact h
      | (have e3 := List.append_nil (cs.take (cs.length - 2)); rw [← e3] at h; exact h)
  · obtain ⟨i1, i2, i3, i4, i5⟩ := stk_inv hk
    exact (do4_2 cs m o u).canT (E_valid sO_ok 14) (Nat.le_refl 1) (by ((simp only [AllP, and_true]; repeat' apply And.intro) <;> first | trivial | omega | exact ne_true (by assumption) | exact (top_ok (by assumption) _).1 | (simp only [List.length_take, List.length_append, List.length_cons, List.length_nil]; omega)))
  · obtain ⟨i1, i2, i3, i4, i5⟩ := stk_inv hk
    exact (do4_3 cs m o u).canT (E_valid sO_ok 14) (Nat.le_refl 1) (by ((simp only [AllP, and_true]; repeat' apply And.intro) <;> first | trivial | omega | exact ne_true (by assumption) | exact (top_ok (by assumption) _).1 | (simp only [List.length_take, List.length_append, List.length_cons, List.length_nil]; omega)))

theorem do5_1 (cs : List Int) (m o u : Int) : Good (evo 14 [.cell (.int .u32 5), sp, anyP, anyP] [stO cs m o u] [0, 1, 1, 0, 0, 0, 0, 0, 0, 0, 0, 0, 0, 0, 0, 1, 0, 0, 1, 0, 0, 1, 0, 0, 0, 0, 0, 0, 0, 0, 1, 0, 1, 0, 0, 1, 2, 0, 1, 2, 0, 0, 1, 0, 12, 1, 6, 0, 0, 0, 0, 0, 0]) [18, 12, 6, 6, 43, 1, 2] [(0 : Int) ≤ (3 : Int) ∧ (3 : Int) ≤ (↑cs.length : Int) ∧ (0 : Int) ≤ (3 : Int) ∧ (3 : Int) ≤ m - ((↑cs.length : Int) - (3 : Int)), (0 : Int) ≤ (2 : Int) ∧ (2 : Int) < (↑cs.length : Int), (0 : Int) ≤ (1 : Int) ∧ (1 : Int) < (↑cs.length : Int), (0 : Int) ≤ (0 : Int) ∧ (0 : Int) < (↑cs.length : Int), (0 : Int) ≤ IntKind.i64.wrap ((↑cs.length : Int) - (3 : Int)) ∧ IntKind.i64.wrap ((↑cs.length : Int) - (3 : Int)) ≤ (↑cs.length : Int), (0 : Int) ≤ IntKind.i64.wrap ((↑cs.length : Int) - (3 : Int)) ∧ IntKind.i64.wrap ((↑cs.length : Int) - (3 : Int)) ≤ (↑cs.length : Int), (3 : Nat) ≤ (3 : Nat) ∧ (3 : Int) ≤ m - (↑(List.take (IntKind.i64.wrap ((↑cs.length : Int) - (3 : Int))).toNat cs).length : Int)] (AV.cell (Cell.int IntKind.i32 (0 : Int)), [some (Blk.obj (Ob.ab (Ab.stk (List.take (IntKind.i64.wrap ((↑cs.length : Int) - (3 : Int))).toNat cs ++ [top cs 1, top cs 0, top cs 2]) m o u)))], (0 : Nat), []) := ⟨by kernel_rfl, by kernel_rfl⟩

theorem do5_2 (cs : List Int) (m o u : Int) : Good (evo 14 [.cell (.int .u32 5), sp, anyP, anyP] [stO cs m o u] [0, 1, 1, 0, 0, 0, 0, 0, 0, 1, 1]) [18, 0] [(↑cs.length : Int) < (3 : Int) ∧ (3 : Int) ≤ (65536 : Int), (u != (0 : Int)) = true] (AV.cell (Cell.int IntKind.i32 u), [some (Blk.obj (Ob.ab (Ab.stk cs m o u)))], (1 : Nat), []) := ⟨by kernel_rfl, by kernel_rfl⟩

theorem do5_3 (cs : List Int) (m o u : Int) : Good (evo 14 [.cell (.int .u32 5), sp, anyP, anyP] [stO cs m o u] [0, 1, 1, 0, 0, 0, 0, 0, 0, 2, 1]) [18, 0] [(0 : Int) ≤ (3 : Int) ∧ (3 : Int) ≤ (↑cs.length : Int) ∧ (0 : Int) ≤ (3 : Int) ∧ m - ((↑cs.length : Int) - (3 : Int)) < (3 : Int), (o != (0 : Int)) = true] (AV.cell (Cell.int IntKind.i32 o), [some (Blk.obj (Ob.ab (Ab.stk cs m o u)))], (1 : Nat), []) := ⟨by kernel_rfl, by kernel_rfl⟩

def out5 (cs : List Int) : List Int := [top cs 1, top cs 0, top cs 2]

theorem row5 : DoRow 5 3 3 out5 := by
  refine ⟨fun cs m o u hc h1 h2 => CanOk.knows (j := 0) rfl fun hk => ?_, fun cs m o u h => CanOk.knows (j := 0) rfl fun hk => ?_, fun cs m o u h1 h2 => CanOk.knows (j := 0) rfl fun hk => ?_⟩
  · obtain ⟨i1, i2, i3, i4, i5⟩ := stk_inv hk
    have e : IntKind.i64.wrap ((cs.length : Int) - (3 : Int)) = (cs.length : Int) - (3 : Int) := wrap_len (by omega) (by omega) (by omega)
    have e2 : ((cs.length : Int) - (3 : Int)).toNat = cs.length - 3 := by omega
    have g := do5_1 cs m o u
    simp only [e, e2] at g
    have h := g.canT (E_valid sO_ok 14) (Nat.le_refl 1) (by ((simp only [AllP, and_true]; repeat' apply And.intro) <;> first | trivial | omega | exact ne_true (by assumption) | exact (top_ok (by assumption) _).1 | (simp only [List.length_take, List.length_append, List.length_cons, List.length_nil]; omega)))
    first
      | exact h
      | (have e3 := List.append_nil (cs.take (cs.length - 3)); rw [← e3] at h; exact h)
  · obtain ⟨i1, i2, i3, i4, i5⟩ := stk_inv hk
    exact (do5_2 cs m o u).canT (E_valid sO_ok 14) (Nat.le_refl 1) (by ((simp only [AllP, and_true]; repeat' apply And.intro) <;> first | trivial | omega | exact ne_true (by assumption) | exact (top_ok (by assumption) _).1 | (simp only [List.length_take, List.length_append, List.length_cons, List.length_nil]; omega)))
  · obtain ⟨i1, i2, i3, i4, i5⟩ := stk_inv hk
    exact (do5_3 cs m o u).canT (E_valid sO_ok 14) (Nat.le_refl 1) (by ((simp only [AllP, and_true]; repeat' apply And.intro) <;> first | trivial | omega | exact ne_true (by assumption) | exact (top_ok (by assumption) _).1 | (simp only [List.length_take, List.length_append, List.length_cons, List.length_nil]; omega)))

theorem do7_1 (cs : List Int) (m o u : Int) : Good (evo 14 [.cell (.int .u32 7), sp, anyP, anyP] [stO cs m o u] [0, 1, 1, 0, 0, 0, 0, 0, 0, 0, 0, 0, 0, 0, 0, 1, 0, 0, 1, 0, 0, 0, 0, 0, 0, 0, 0, 0, 1, 0, 1, 0, 0, 0, 1, 0, 8, 1, 6, 0, 0, 0, 0, 0, 0]) [18, 12, 6, 28, 1, 2] [(0 : Int) ≤ (2 : Int) ∧ (2 : Int) ≤ (↑cs.length : Int) ∧ (0 : Int) ≤ (1 : Int) ∧ (1 : Int) ≤ m - ((↑cs.length : Int) - (2 : Int)), (0 : Int) ≤ (1 : Int) ∧ (1 : Int) < (↑cs.length : Int), (0 : Int) ≤ (0 : Int) ∧ (0 : Int) < (↑cs.length : Int), (0 : Int) ≤ IntKind.i64.wrap ((↑cs.length : Int) - (2 : Int)) ∧ IntKind.i64.wrap ((↑cs.length : Int) - (2 : Int)) ≤ (↑cs.length : Int), (0 : Int) ≤ IntKind.i64.wrap ((↑cs.length : Int) - (2 : Int)) ∧ IntKind.i64.wrap ((↑cs.length : Int) - (2 : Int)) ≤ (↑cs.length : Int), (1 : Nat) ≤ (1 : Nat) ∧ (1 : Int) ≤ m - (↑(List.take (IntKind.i64.wrap ((↑cs.length : Int) - (2 : Int))).toNat cs).length : Int)] (AV.cell (Cell.int IntKind.i32 (0 : Int)), [some (Blk.obj (Ob.ab (Ab.stk (List.take (IntKind.i64.wrap ((↑cs.length : Int) - (2 : Int))).toNat cs ++ [top cs 0]) m o u)))], (0 : Nat), []) := ⟨by kernel_rfl, by kernel_rfl⟩

theorem do7_2 (cs : List Int) (m o u : Int) : Good (evo 14 [.cell (.int .u32 7), sp, anyP, anyP] [stO cs m o u] [0, 1, 1, 0, 0, 0, 0, 0, 0, 1, 1]) [18, 0] [(↑cs.length : Int) < (2 : Int) ∧ (2 : Int) ≤ (65536 : Int), (u != (0 : Int)) = true] (AV.cell (Cell.int IntKind.i32 u), [some (Blk.obj (Ob.ab (Ab.stk cs m o u)))], (1 : Nat), []) := ⟨by kernel_rfl, by kernel_rfl⟩

theorem do7_3 (cs : List Int) (m o u : Int) : Good (evo 14 [.cell (.int .u32 7), sp, anyP, anyP] [stO cs m o u] [0, 1, 1, 0, 0, 0, 0, 0, 0, 2, 1]) [18, 0] [(0 : Int) ≤ (2 : Int) ∧ (2 : Int) ≤ (↑cs.length : Int) ∧ (0 : Int) ≤ (1 : Int) ∧ m - ((↑cs.length : Int) - (2 : Int)) < (1 : Int), (o != (0 : Int)) = true] (AV.cell (Cell.int IntKind.i32 o), [some (Blk.obj (Ob.ab (Ab.stk cs m o u)))], (1 : Nat), []) := ⟨by kernel_rfl, by kernel_rfl⟩

def out7 (cs : List Int) : List Int := [top cs 0]

theorem row7 : DoRow 7 2 1 out7 := by
  refine ⟨fun cs m o u hc h1 h2 => CanOk.knows (j := 0) rfl fun hk => ?_, fun cs m o u h => CanOk.knows (j := 0) rfl fun hk => ?_, fun cs m o u h1 h2 => CanOk.knows (j := 0) rfl fun hk => ?_⟩
  · obtain ⟨i1, i2, i3, i4, i5⟩ := stk_inv hk
    have e : IntKind.i64.wrap ((cs.length : Int) - (2 : Int)) = (cs.length : Int) - (2 : Int) := wrap_len (by omega) (by omega) (by omega)
    have e2 : ((cs.length : Int) - (2 : Int)).toNat = cs.length - 2 := by omega
    have g := do7_1 cs m o u
    simp only [e, e2] at g
    have h := g.canT (E_valid sO_ok 14) (Nat.le_refl 1) (by ((simp only [AllP, and_true]; repeat' apply And.intro) <;> first | trivial | omega | exact ne_true (by assumption) | exact (top_ok (by assumption) _).1 | (simp only [List.length_take, List.length_append, List.length_cons, List.length_nil]; omega)))
    first
      | exact h
      | (have e3 := List.append_nil (cs.take (cs.length - 2)); rw [← e3] at h; exact h)
  · obtain ⟨i1, i2, i3, i4, i5⟩ := stk_inv hk
    exact (do7_2 cs m o u).canT (E_valid sO_ok 14) (Nat.le_refl 1) (by ((simp only [AllP, and_true]; repeat' apply And.intro) <;> first | trivial | omega | exact ne_true (by assumption) | exact (top_ok (by assumption) _).1 | (simp only [List.length_take, List.length_append, List.length_cons, List.length_nil]; omega)))
  · obtain ⟨i1, i2, i3, i4, i5⟩ := stk_inv hk
    exact (do7_3 cs m o u).canT (E_valid sO_ok 14) (Nat.le_refl 1) (by ((simp only [AllP, and_true]; repeat' apply And.intro) <;> first | trivial | omega | exact ne_true (by assumption) | exact (top_ok (by assumption) _).1 | (simp only [List.length_take, List.length_append, List.length_cons, List.length_nil]; omega)))

theorem do8_1 (cs : List Int) (m o u : Int) : Good (evo 14 [.cell (.int .u32 8), sp, anyP, anyP] [stO cs m o u] [0, 1, 1, 0, 0, 0, 0, 0, 0, 0, 0, 0, 0, 0, 0, 1, 0, 0, 1, 0, 0, 0, 0, 0, 0, 0, 0, 0, 0, 1, 0, 1, 0, 0, 1, 2, 0, 1, 2, 0, 0, 1, 0, 12, 1, 6, 0, 0, 0, 0, 0, 0]) [18, 12, 6, 45, 1, 2] [(0 : Int) ≤ (2 : Int) ∧ (2 : Int) ≤ (↑cs.length : Int) ∧ (0 : Int) ≤ (3 : Int) ∧ (3 : Int) ≤ m - ((↑cs.length : Int) - (2 : Int)), (0 : Int) ≤ (1 : Int) ∧ (1 : Int) < (↑cs.length : Int), (0 : Int) ≤ (0 : Int) ∧ (0 : Int) < (↑cs.length : Int), (0 : Int) ≤ IntKind.i64.wrap ((↑cs.length : Int) - (2 : Int)) ∧ IntKind.i64.wrap ((↑cs.length : Int) - (2 : Int)) ≤ (↑cs.length : Int), (0 : Int) ≤ IntKind.i64.wrap ((↑cs.length : Int) - (2 : Int)) ∧ IntKind.i64.wrap ((↑cs.length : Int) - (2 : Int)) ≤ (↑cs.length : Int), (3 : Nat) ≤ (3 : Nat) ∧ (3 : Int) ≤ m - (↑(List.take (IntKind.i64.wrap ((↑cs.length : Int) - (2 : Int))).toNat cs).length : Int)] (AV.cell (Cell.int IntKind.i32 (0 : Int)), [some (Blk.obj (Ob.ab (Ab.stk (List.take (IntKind.i64.wrap ((↑cs.length : Int) - (2 : Int))).toNat cs ++ [top cs 0, top cs 1, top cs 0]) m o u)))], (0 : Nat), []) := ⟨by kernel_rfl, by kernel_rfl⟩

theorem do8_2 (cs : List Int) (m o u : Int) : Good (evo 14 [.cell (.int .u32 8), sp, anyP, anyP] [stO cs m o u] [0, 1, 1, 0, 0, 0, 0, 0, 0, 1, 1]) [18, 0] [(↑cs.length : Int) < (2 : Int) ∧ (2 : Int) ≤ (65536 : Int), (u != (0 : Int)) = true] (AV.cell (Cell.int IntKind.i32 u), [some (Blk.obj (Ob.ab (Ab.stk cs m o u)))], (1 : Nat), []) := ⟨by kernel_rfl, by kernel_rfl⟩

theorem do8_3 (cs : List Int) (m o u : Int) : Good (evo 14 [.cell (.int .u32 8), sp, anyP, anyP] [stO cs m o u] [0, 1, 1, 0, 0, 0, 0, 0, 0, 2, 1]) [18, 0] [(0 : Int) ≤ (2 : Int) ∧ (2 : Int) ≤ (↑cs.length : Int) ∧ (0 : Int) ≤ (3 : Int) ∧ m - ((↑cs.length : Int) - (2 : Int)) < (3 : Int), (o != (0 : Int)) = true] (AV.cell (Cell.int IntKind.i32 o), [some (Blk.obj (Ob.ab (Ab.stk cs m o u)))], (1 : Nat), []) := ⟨by kernel_rfl, by kernel_rfl⟩

def out8 (cs : List Int) : List Int := [top cs 0, top cs 1, top cs 0]

theorem row8 : DoRow 8 2 3 out8 := by
  refine ⟨fun cs m o u hc h1 h2 => CanOk.knows (j := 0) rfl fun hk => ?_, fun cs m o u h => CanOk.knows (j := 0) rfl fun hk => ?_, fun cs m o u h1 h2 => CanOk.knows (j := 0) rfl fun hk => ?_⟩
  · obtain ⟨i1, i2, i3, i4, i5⟩ := stk_inv hk
    have e : IntKind.i64.wrap ((cs.length : Int) - (2 : Int)) = (cs.length : Int) - (2 : Int) := wrap_len (by omega) (by omega) (by omega)
    have e2 : ((cs.length : Int) - (2 : Int)).toNat = cs.length - 2 := by omega
    have g := do8_1 cs m o u
    simp only [e, e2] at g
    have h := g.canT (E_valid sO_ok 14) (Nat.le_refl 1) (by ((simp only [AllP, and_true]; repeat' apply And.intro) <;> first | trivial | omega | exact ne_true (by assumption) | exact (top_ok (by assumption) _).1 | (simp only [List.length_take, List.length_append, List.length_cons, List.length_nil]; omega)))
    first
      | exact h
      | (have e3 := List.append_nil (cs.take (cs.length - 2)); rw [← e3] at h; exact h)
  · obtain ⟨i1, i2, i3, i4, i5⟩ := stk_inv hk
    exact (do8_2 cs m o u).canT (E_valid sO_ok 14) (Nat.le_refl 1) (by ((simp only [AllP, and_true]; repeat' apply And.intro) <;> first | trivial | omega | exact ne_true (by assumption) | exact (top_ok (by assumption) _).1 | (simp only [List.length_take, List.length_append, List.length_cons, List.length_nil]; omega)))
  · obtain ⟨i1, i2, i3, i4, i5⟩ := stk_inv hk
    exact (do8_3 cs m o u).canT (E_valid sO_ok 14) (Nat.le_refl 1) (by ((simp only [AllP, and_true]; repeat' apply And.intro) <;> first | trivial | omega | exact ne_true (by assumption) | exact (top_ok (by assumption) _).1 | (simp only [List.length_take, List.length_append, List.length_cons, List.length_nil]; omega)))

theorem do9_1 (cs : List Int) (m o u : Int) : Good (evo 14 [.cell (.int .u32 9), sp, anyP, anyP] [stO cs m o u] [0, 1, 1, 0, 0, 0, 0, 0, 0, 0, 0, 0, 0, 0, 0, 1, 0, 0, 1, 0, 0, 0, 0, 0, 0, 0, 0, 0, 0, 0, 1, 0, 1, 0, 0, 1, 2, 0, 1, 2, 0, 1, 2, 0, 0, 1, 0, 14, 1, 6, 0, 0, 0, 0, 0, 0]) [18, 12, 6, 54, 1, 2] [(0 : Int) ≤ (2 : Int) ∧ (2 : Int) ≤ (↑cs.length : Int) ∧ (0 : Int) ≤ (4 : Int) ∧ (4 : Int) ≤ m - ((↑cs.length : Int) - (2 : Int)), (0 : Int) ≤ (1 : Int) ∧ (1 : Int) < (↑cs.length : Int), (0 : Int) ≤ (0 : Int) ∧ (0 : Int) < (↑cs.length : Int), (0 : Int) ≤ IntKind.i64.wrap ((↑cs.length : Int) - (2 : Int)) ∧ IntKind.i64.wrap ((↑cs.length : Int) - (2 : Int)) ≤ (↑cs.length : Int), (0 : Int) ≤ IntKind.i64.wrap ((↑cs.length : Int) - (2 : Int)) ∧ IntKind.i64.wrap ((↑cs.length : Int) - (2 : Int)) ≤ (↑cs.length : Int), (4 : Nat) ≤ (4 : Nat) ∧ (4 : Int) ≤ m - (↑(List.take (IntKind.i64.wrap ((↑cs.length : Int) - (2 : Int))).toNat cs).length : Int)] (AV.cell (Cell.int IntKind.i32 (0 : Int)), [some (Blk.obj (Ob.ab (Ab.stk (List.take (IntKind.i64.wrap ((↑cs.length : Int) - (2 : Int))).toNat cs ++ [top cs 1, top cs 0, top cs 1, top cs 0]) m o u)))], (0 : Nat), []) := ⟨by kernel_rfl, by kernel_rfl⟩

theorem do9_2 (cs : List Int) (m o u : Int) : Good (evo 14 [.cell (.int .u32 9), sp, anyP, anyP] [stO cs m o u] [0, 1, 1, 0, 0, 0, 0, 0, 0, 1, 1]) [18, 0] [(↑cs.length : Int) < (2 : Int) ∧ (2 : Int) ≤ (65536 : Int), (u != (0 : Int)) = true] (AV.cell (Cell.int IntKind.i32 u), [some (Blk.obj (Ob.ab (Ab.stk cs m o u)))], (1 : Nat), []) := ⟨by kernel_rfl, by kernel_rfl⟩

theorem do9_3 (cs : List Int) (m o u : Int) : Good (evo 14 [.cell (.int .u32 9), sp, anyP, anyP] [stO cs m o u] [0, 1, 1, 0, 0, 0, 0, 0, 0, 2, 1]) [18, 0] [(0 : Int) ≤ (2 : Int) ∧ (2 : Int) ≤ (↑cs.length : Int) ∧ (0 : Int) ≤ (4 : Int) ∧ m - ((↑cs.length : Int) - (2 : Int)) < (4 : Int), (o != (0 : Int)) = true] (AV.cell (Cell.int IntKind.i32 o), [some (Blk.obj (Ob.ab (Ab.stk cs m o u)))], (1 : Nat), []) := ⟨by kernel_rfl, by kernel_rfl⟩

def out9 (cs : List Int) : List Int := [top cs 1, top cs 0, top cs 1, top cs 0]

theorem row9 : DoRow 9 2 4 out9 := by
  refine ⟨fun cs m o u hc h1 h2 => CanOk.knows (j := 0) rfl fun hk => ?_, fun cs m o u h => CanOk.knows (j := 0) rfl fun hk => ?_, fun cs m o u h1 h2 => CanOk.knows (j := 0) rfl fun hk => ?_⟩
  · obtain ⟨i1, i2, i3, i4, i5⟩ := stk_inv hk
    have e : IntKind.i64.wrap ((cs.length : Int) - (2 : Int)) = (cs.length : Int) - (2 : Int) := wrap_len (by omega) (by omega) (by omega)
    have e2 : ((cs.length : Int) - (2 : Int)).toNat = cs.length - 2 := by omega
    have g := do9_1 cs m o u
    simp only [e, e2] at g
    have h := g.canT (E_valid sO_ok 14) (Nat.le_refl 1) (by ((simp only [AllP, and_true]; repeat' apply And.intro) <;> first | trivial | omega | exact ne_true (by assumption) | exact (top_ok (by assumption) _).1 | (simp only [List.length_take, List.length_append, List.length_cons, List.length_nil]; omega)))
    first
      | exact h
      | (have e3 := List.append_nil (cs.take (cs.length - 2)); rw [← e3] at h; exact h)
  · obtain ⟨i1, i2, i3, i4, i5⟩ := stk_inv hk
    exact (do9_2 cs m o u).canT (E_valid sO_ok 14) (Nat.le_refl 1) (by ((simp only [AllP, and_true]; repeat' apply And.intro) <;> first | trivial | omega | exact ne_true (by assumption) | exact (top_ok (by assumption) _).1 | (simp only [List.length_take, List.length_append, List.length_cons, List.length_nil]; omega)))
  · obtain ⟨i1, i2, i3, i4, i5⟩ := stk_inv hk
    exact (do9_3 cs m o u).canT (E_valid sO_ok 14) (Nat.le_refl 1) (by ((simp only [AllP, and_true]; repeat' apply And.intro) <;> first | trivial | omega | exact ne_true (by assumption) | exact (top_ok (by assumption) _).1 | (simp only [List.length_take, List.length_append, List.length_cons, List.length_nil]; omega)))

theorem do10_1 (cs : List Int) (m o u : Int) : Good (evo 14 [.cell (.int .u32 10), sp, anyP, anyP] [stO cs m o u] [0, 1, 1, 0, 0, 0, 0, 0, 0, 0, 0, 0, 0, 0, 0, 1, 0, 0, 1, 0, 0, 0, 0, 1, 0, 0, 1, 0, 5, 1, 6, 0, 0, 0, 0, 0, 0]) [18, 12, 6, 14, 1] [(0 : Int) ≤ (2 : Int) ∧ (2 : Int) ≤ (↑cs.length : Int) ∧ (0 : Int) ≤ (0 : Int) ∧ (0 : Int) ≤ m - ((↑cs.length : Int) - (2 : Int)), (0 : Int) ≤ (1 : Int) ∧ (1 : Int) < (↑cs.length : Int), (0 : Int) ≤ (0 : Int) ∧ (0 : Int) < (↑cs.length : Int), (0 : Int) ≤ IntKind.i64.wrap ((↑cs.length : Int) - (2 : Int)) ∧ IntKind.i64.wrap ((↑cs.length : Int) - (2 : Int)) ≤ (↑cs.length : Int), (0 : Int) ≤ IntKind.i64.wrap ((↑cs.length : Int) - (2 : Int)) ∧ IntKind.i64.wrap ((↑cs.length : Int) - (2 : Int)) ≤ (↑cs.length : Int)] (AV.cell (Cell.int IntKind.i32 (0 : Int)), [some (Blk.obj (Ob.ab (Ab.stk (List.take (IntKind.i64.wrap ((↑cs.length : Int) - (2 : Int))).toNat cs) m o u)))], (0 : Nat), []) := ⟨by kernel_rfl, by kernel_rfl⟩

theorem do10_2 (cs : List Int) (m o u : Int) : Good (evo 14 [.cell (.int .u32 10), sp, anyP, anyP] [stO cs m o u] [0, 1, 1, 0, 0, 0, 0, 0, 0, 1, 1]) [18, 0] [(↑cs.length : Int) < (2 : Int) ∧ (2 : Int) ≤ (65536 : Int), (u != (0 : Int)) = true] (AV.cell (Cell.int IntKind.i32 u), [some (Blk.obj (Ob.ab (Ab.stk cs m o u)))], (1 : Nat), []) := ⟨by kernel_rfl, by kernel_rfl⟩

theorem do10_3 (cs : List Int) (m o u : Int) : Good (evo 14 [.cell (.int .u32 10), sp, anyP, anyP] [stO cs m o u] [0, 1, 1, 0, 0, 0, 0, 0, 0, 2, 1]) [18, 0] [(0 : Int) ≤ (2 : Int) ∧ (2 : Int) ≤ (↑cs.length : Int) ∧ (0 : Int) ≤ (0 : Int) ∧ m - ((↑cs.length : Int) - (2 : Int)) < (0 : Int), (o != (0 : Int)) = true] (AV.cell (Cell.int IntKind.i32 o), [some (Blk.obj (Ob.ab (Ab.stk cs m o u)))], (1 : Nat), []) := ⟨by kernel_rfl, by kernel_rfl⟩

def out10 (cs : List Int) : List Int := []

theorem row10 : DoRow 10 2 0 out10 := by
  refine ⟨fun cs m o u hc h1 h2 => CanOk.knows (j := 0) rfl fun hk => ?_, fun cs m o u h => CanOk.knows (j := 0) rfl fun hk => ?_, fun cs m o u h1 h2 => CanOk.knows (j := 0) rfl fun hk => ?_⟩
  · obtain ⟨i1, i2, i3, i4, i5⟩ := stk_inv hk
    have e : IntKind.i64.wrap ((cs.length : Int) - (2 : Int)) = (cs.length : Int) - (2 : Int) := wrap_len (by omega) (by omega) (by omega)
    have e2 : ((cs.length : Int) - (2 : Int)).toNat = cs.length - 2 := by omega
    have g := do10_1 cs m o u
    simp only [e, e2] at g
    have h := g.canT (E_valid sO_ok 14) (Nat.le_refl 1) (by ((simp only [AllP, and_true]; repeat' apply And.intro) <;> first | trivial | omega | exact ne_true (by assumption) | exact (top_ok (by assumption) _).1 | (simp only [List.length_take, List.length_append, List.length_cons, List.length_nil]; omega)))
    first
      | exact h
      | (have e3 := List.append_nil (cs.take (cs.length - 2)); rw [← e3] at h; exact h)
  · obtain ⟨i1, i2, i3, i4, i5⟩ := stk_inv hk
    exact (do10_2 cs m o u).canT (E_valid sO_ok 14) (Nat.le_refl 1) (by ((simp only [AllP, and_true]; repeat' apply And.intro) <;> first | trivial | omega | exact ne_true (by assumption) | exact (top_ok (by assumption) _).1 | (simp only [List.length_take, List.length_append, List.length_cons, List.length_nil]; omega)))
  · obtain ⟨i1, i2, i3, i4, i5⟩ := stk_inv hk
    exact (do10_3 cs m o u).canT (E_valid sO_ok 14) (Nat.le_refl 1) (by ((simp only [AllP, and_true]; repeat' apply And.intro) <;> first | trivial | omega | exact ne_true (by assumption) | exact (top_ok (by assumption) _).1 | (simp only [List.length_take, List.length_append, List.length_cons, List.length_nil]; omega)))

theorem do11_1 (cs : List Int) (m o u : Int) : Good (evo 14 [.cell (.int .u32 11), sp, anyP, anyP] [stO cs m o u] [0, 1, 1, 0, 0, 0, 0, 0, 0, 0, 0, 0, 0, 0, 0, 1, 0, 0, 1, 0, 0, 1, 0, 0, 1, 0, 0, 0, 0, 0, 0, 0, 0, 0, 0, 0, 0, 1, 0, 1, 0, 0, 1, 2, 0, 1, 2, 0, 1, 2, 0, 0, 1, 0, 14, 1, 6, 0, 0, 0, 0, 0, 0]) [18, 12, 6, 6, 6, 55, 1, 2] [(0 : Int) ≤ (4 : Int) ∧ (4 : Int) ≤ (↑cs.length : Int) ∧ (0 : Int) ≤ (4 : Int) ∧ (4 : Int) ≤ m - ((↑cs.length : Int) - (4 : Int)), (0 : Int) ≤ (3 : Int) ∧ (3 : Int) < (↑cs.length : Int), (0 : Int) ≤ (2 : Int) ∧ (2 : Int) < (↑cs.length : Int), (0 : Int) ≤ (1 : Int) ∧ (1 : Int) < (↑cs.length : Int), (0 : Int) ≤ (0 : Int) ∧ (0 : Int) < (↑cs.length : Int), (0 : Int) ≤ IntKind.i64.wrap ((↑cs.length : Int) - (4 : Int)) ∧ IntKind.i64.wrap ((↑cs.length : Int) - (4 : Int)) ≤ (↑cs.length : Int), (0 : Int) ≤ IntKind.i64.wrap ((↑cs.length : Int) - (4 : Int)) ∧ IntKind.i64.wrap ((↑cs.length : Int) - (4 : Int)) ≤ (↑cs.length : Int), (4 : Nat) ≤ (4 : Nat) ∧ (4 : Int) ≤ m - (↑(List.take (IntKind.i64.wrap ((↑cs.length : Int) - (4 : Int))).toNat cs).length : Int)] (AV.cell (Cell.int IntKind.i32 (0 : Int)), [some (Blk.obj (Ob.ab (Ab.stk (List.take (IntKind.i64.wrap ((↑cs.length : Int) - (4 : Int))).toNat cs ++ [top cs 1, top cs 0, top cs 3, top cs 2]) m o u)))], (0 : Nat), []) := ⟨by kernel_rfl, by kernel_rfl⟩

theorem do11_2 (cs : List Int) (m o u : Int) : Good (evo 14 [.cell (.int .u32 11), sp, anyP, anyP] [stO cs m o u] [0, 1, 1, 0, 0, 0, 0, 0, 0, 1, 1]) [18, 0] [(↑cs.length : Int) < (4 : Int) ∧ (4 : Int) ≤ (65536 : Int), (u != (0 : Int)) = true] (AV.cell (Cell.int IntKind.i32 u), [some (Blk.obj (Ob.ab (Ab.stk cs m o u)))], (1 : Nat), []) := ⟨by kernel_rfl, by kernel_rfl⟩

theorem do11_3 (cs : List Int) (m o u : Int) : Good (evo 14 [.cell (.int .u32 11), sp, anyP, anyP] [stO cs m o u] [0, 1, 1, 0, 0, 0, 0, 0, 0, 2, 1]) [18, 0] [(0 : Int) ≤ (4 : Int) ∧ (4 : Int) ≤ (↑cs.length : Int) ∧ (0 : Int) ≤ (4 : Int) ∧ m - ((↑cs.length : Int) - (4 : Int)) < (4 : Int), (o != (0 : Int)) = true] (AV.cell (Cell.int IntKind.i32 o), [some (Blk.obj (Ob.ab (Ab.stk cs m o u)))], (1 : Nat), []) := ⟨by kernel_rfl, by kernel_rfl⟩

def out11 (cs : List Int) : List Int := [top cs 1, top cs 0, top cs 3, top cs 2]

theorem row11 : DoRow 11 4 4 out11 := by
  refine ⟨fun cs m o u hc h1 h2 => CanOk.knows (j := 0) rfl fun hk => ?_, fun cs m o u h => CanOk.knows (j := 0) rfl fun hk => ?_, fun cs m o u h1 h2 => CanOk.knows (j := 0) rfl fun hk => ?_⟩
  · obtain ⟨i1, i2, i3, i4, i5⟩ := stk_inv hk
    have e : IntKind.i64.wrap ((cs.length : Int) - (4 : Int)) = (cs.length : Int) - (4 : Int) := wrap_len (by omega) (by omega) (by omega)
    have e2 : ((cs.length : Int) - (4 : Int)).toNat = cs.length - 4 := by omega
    have g := do11_1 cs m o u
    simp only [e, e2] at g
    have h := g.canT (E_valid sO_ok 14) (Nat.le_refl 1) (by ((simp only [AllP, and_true]; repeat' apply And.intro) <;> first | trivial | omega | exact ne_true (by assumption) | exact (top_ok (by assumption) _).1 | (simp only [List.length_take, List.length_append, List.length_cons, List.length_nil]; omega)))
    first
      | exact h
      | (have e3 := List.append_nil (cs.take (cs.length - 4)); rw [← e3] at h; exact h)
  · obtain ⟨i1, i2, i3, i4, i5⟩ := stk_inv hk
    exact (do11_2 cs m o u).canT (E_valid sO_ok 14) (Nat.le_refl 1) (by ((simp only [AllP, and_true]; repeat' apply And.intro) <;> first | trivial | omega | exact ne_true (by assumption) | exact (top_ok (by assumption) _).1 | (simp only [List.length_take, List.length_append, List.length_cons, List.length_nil]; omega)))
  · obtain ⟨i1, i2, i3, i4, i5⟩ := stk_inv hk
    exact (do11_3 cs m o u).canT (E_valid sO_ok 14) (Nat.le_refl 1) (by ((simp only [AllP, and_true]; repeat' apply And.intro) <;> first | trivial | omega | exact ne_true (by assumption) | exact (top_ok (by assumption) _).1 | (simp only [List.length_take, List.length_append, List.length_cons, List.length_nil]; omega)))

theorem do12_1 (cs : List Int) (m o u : Int) : Good (evo 14 [.cell (.int .u32 12), sp, anyP, anyP] [stO cs m o u] [0, 1, 1, 0, 0, 0, 0, 0, 0, 0, 0, 0, 0, 0, 0, 1, 0, 0, 1, 0, 0, 1, 0, 0, 1, 0, 0, 0, 0, 0, 0, 0, 0, 0, 0, 0, 0, 0, 1, 0, 1, 0, 0, 1, 2, 0, 1, 2, 0, 1, 2, 0, 1, 2, 0, 1, 2, 0, 0, 1, 0, 18, 1, 6, 0, 0, 0, 0, 0, 0]) [18, 12, 6, 6, 6, 72, 1, 2] [(0 : Int) ≤ (4 : Int) ∧ (4 : Int) ≤ (↑cs.length : Int) ∧ (0 : Int) ≤ (6 : Int) ∧ (6 : Int) ≤ m - ((↑cs.length : Int) - (4 : Int)), (0 : Int) ≤ (3 : Int) ∧ (3 : Int) < (↑cs.length : Int), (0 : Int) ≤ (2 : Int) ∧ (2 : Int) < (↑cs.length : Int), (0 : Int) ≤ (1 : Int) ∧ (1 : Int) < (↑cs.length : Int), (0 : Int) ≤ (0 : Int) ∧ (0 : Int) < (↑cs.length : Int), (0 : Int) ≤ IntKind.i64.wrap ((↑cs.length : Int) - (4 : Int)) ∧ IntKind.i64.wrap ((↑cs.length : Int) - (4 : Int)) ≤ (↑cs.length : Int), (0 : Int) ≤ IntKind.i64.wrap ((↑cs.length : Int) - (4 : Int)) ∧ IntKind.i64.wrap ((↑cs.length : Int) - (4 : Int)) ≤ (↑cs.length : Int), (6 : Nat) ≤ (6 : Nat) ∧ (6 : Int) ≤ m - (↑(List.take (IntKind.i64.wrap ((↑cs.length : Int) - (4 : Int))).toNat cs).length : Int)] (AV.cell (Cell.int IntKind.i32 (0 : Int)), [some (Blk.obj (Ob.ab (Ab.stk (List.take (IntKind.i64.wrap ((↑cs.length : Int) - (4 : Int))).toNat cs ++ [top cs 3, top cs 2, top cs 1, top cs 0, top cs 3, top cs 2]) m o u)))], (0 : Nat), []) := ⟨by kernel_rfl, by kernel_rfl⟩

theorem do12_2 (cs : List Int) (m o u : Int) : Good (evo 14 [.cell (.int .u32 12), sp, anyP, anyP] [stO cs m o u] [0, 1, 1, 0, 0, 0, 0, 0, 0, 1, 1]) [18, 0] [(↑cs.length : Int) < (4 : Int) ∧ (4 : Int) ≤ (65536 : Int), (u != (0 : Int)) = true] (AV.cell (Cell.int IntKind.i32 u), [some (Blk.obj (Ob.ab (Ab.stk cs m o u)))], (1 : Nat), []) := ⟨by kernel_rfl, by kernel_rfl⟩

theorem do12_3 (cs : List Int) (m o u : Int) : Good (evo 14 [.cell (.int .u32 12), sp, anyP, anyP] [stO cs m o u] [0, 1, 1, 0, 0, 0, 0, 0, 0, 2, 1]) [18, 0] [(0 : Int) ≤ (4 : Int) ∧ (4 : Int) ≤ (↑cs.length : Int) ∧ (0 : Int) ≤ (6 : Int) ∧ m - ((↑cs.length : Int) - (4 : Int)) < (6 : Int), (o != (0 : Int)) = true] (AV.cell (Cell.int IntKind.i32 o), [some (Blk.obj (Ob.ab (Ab.stk cs m o u)))], (1 : Nat), []) := ⟨by kernel_rfl, by kernel_rfl⟩

def out12 (cs : List Int) : List Int := [top cs 3, top cs 2, top cs 1, top cs 0, top cs 3, top cs 2]

theorem row12 : DoRow 12 4 6 out12 := by
  refine ⟨fun cs m o u hc h1 h2 => CanOk.knows (j := 0) rfl fun hk => ?_, fun cs m o u h => CanOk.knows (j := 0) rfl fun hk => ?_, fun cs m o u h1 h2 => CanOk.knows (j := 0) rfl fun hk => ?_⟩
  · obtain ⟨i1, i2, i3, i4, i5⟩ := stk_inv hk
    have e : IntKind.i64.wrap ((cs.length : Int) - (4 : Int)) = (cs.length : Int) - (4 : Int) := wrap_len (by omega) (by omega) (by omega)
    have e2 : ((cs.length : Int) - (4 : Int)).toNat = cs.length - 4 := by omega
    have g := do12_1 cs m o u
    simp only [e, e2] at g
    have h := g.canT (E_valid sO_ok 14) (Nat.le_refl 1) (by ((simp only [AllP, and_true]; repeat' apply And.intro) <;> first | trivial | omega | exact ne_true (by assumption) | exact (top_ok (by assumption) _).1 | (simp only [List.length_take, List.length_append, List.length_cons, List.length_nil]; omega)))
    first
      | exact h
      | (have e3 := List.append_nil (cs.take (cs.length - 4)); rw [← e3] at h; exact h)
  · obtain ⟨i1, i2, i3, i4, i5⟩ := stk_inv hk
    exact (do12_2 cs m o u).canT (E_valid sO_ok 14) (Nat.le_refl 1) (by ((simp only [AllP, and_true]; repeat' apply And.intro) <;> first | trivial | omega | exact ne_true (by assumption) | exact (top_ok (by assumption) _).1 | (simp only [List.length_take, List.length_append, List.length_cons, List.length_nil]; omega)))
  · obtain ⟨i1, i2, i3, i4, i5⟩ := stk_inv hk
    exact (do12_3 cs m o u).canT (E_valid sO_ok 14) (Nat.le_refl 1) (by ((simp only [AllP, and_true]; repeat' apply And.intro) <;> first | trivial | omega | exact ne_true (by assumption) | exact (top_ok (by assumption) _).1 | (simp only [List.length_take, List.length_append, List.length_cons, List.length_nil]; omega)))

theorem do68_1 (cs : List Int) (m o u : Int) : Good (evo 14 [.cell (.int .u32 68), sp, anyP, anyP] [stO cs m o u] [0, 1, 1, 0, 0, 0, 0, 0, 0, 0, 0, 0, 0, 0, 0, 1, 0, 0, 0, 0, 0, 0, 0, 0, 0, 0, 0, 0, 0, 0, 1, 0, 1, 0, 0, 0, 1, 0, 8, 1, 6, 0, 0, 0, 0, 0, 0]) [18, 12, 33, 1, 2] [(0 : Int) ≤ (1 : Int) ∧ (1 : Int) ≤ (↑cs.length : Int) ∧ (0 : Int) ≤ (1 : Int) ∧ (1 : Int) ≤ m - ((↑cs.length : Int) - (1 : Int)), (0 : Int) ≤ (0 : Int) ∧ (0 : Int) < (↑cs.length : Int), (0 : Int) ≤ IntKind.i64.wrap ((↑cs.length : Int) - (1 : Int)) ∧ IntKind.i64.wrap ((↑cs.length : Int) - (1 : Int)) ≤ (↑cs.length : Int), (0 : Int) ≤ IntKind.i64.wrap ((↑cs.length : Int) - (1 : Int)) ∧ IntKind.i64.wrap ((↑cs.length : Int) - (1 : Int)) ≤ (↑cs.length : Int), (1 : Nat) ≤ (1 : Nat) ∧ (1 : Int) ≤ m - (↑(List.take (IntKind.i64.wrap ((↑cs.length : Int) - (1 : Int))).toNat cs).length : Int)] (AV.cell (Cell.int IntKind.i32 (0 : Int)), [some (Blk.obj (Ob.ab (Ab.stk (List.take (IntKind.i64.wrap ((↑cs.length : Int) - (1 : Int))).toNat cs ++ [top cs 0]) m o u)))], (0 : Nat), []) := ⟨by kernel_rfl, by kernel_rfl⟩

theorem do68_2 (cs : List Int) (m o u : Int) : Good (evo 14 [.cell (.int .u32 68), sp, anyP, anyP] [stO cs m o u] [0, 1, 1, 0, 0, 0, 0, 0, 0, 1, 1]) [18, 0] [(↑cs.length : Int) < (1 : Int) ∧ (1 : Int) ≤ (65536 : Int), (u != (0 : Int)) = true] (AV.cell (Cell.int IntKind.i32 u), [some (Blk.obj (Ob.ab (Ab.stk cs m o u)))], (1 : Nat), []) := ⟨by kernel_rfl, by kernel_rfl⟩

theorem do68_3 (cs : List Int) (m o u : Int) : Good (evo 14 [.cell (.int .u32 68), sp, anyP, anyP] [stO cs m o u] [0, 1, 1, 0, 0, 0, 0, 0, 0, 2, 1]) [18, 0] [(0 : Int) ≤ (1 : Int) ∧ (1 : Int) ≤ (↑cs.length : Int) ∧ (0 : Int) ≤ (1 : Int) ∧ m - ((↑cs.length : Int) - (1 : Int)) < (1 : Int), (o != (0 : Int)) = true] (AV.cell (Cell.int IntKind.i32 o), [some (Blk.obj (Ob.ab (Ab.stk cs m o u)))], (1 : Nat), []) := ⟨by kernel_rfl, by kernel_rfl⟩

def out68 (cs : List Int) : List Int := [top cs 0]

theorem row68 : DoRow 68 1 1 out68 := by
  refine ⟨fun cs m o u hc h1 h2 => CanOk.knows (j := 0) rfl fun hk => ?_, fun cs m o u h => CanOk.knows (j := 0) rfl fun hk => ?_, fun cs m o u h1 h2 => CanOk.knows (j := 0) rfl fun hk => ?_⟩
  · obtain ⟨i1, i2, i3, i4, i5⟩ := stk_inv hk
    have e : IntKind.i64.wrap ((cs.length : Int) - (1 : Int)) = (cs.length : Int) - (1 : Int) := wrap_len (by omega) (by omega) (by omega)
    have e2 : ((cs.length : Int) - (1 : Int)).toNat = cs.length - 1 := by omega
    have g := do68_1 cs m o u
    simp only [e, e2] at g
    have h := g.canT (E_valid sO_ok 14) (Nat.le_refl 1) (by ((simp only [AllP, and_true]; repeat' apply And.intro) <;> first | trivial | omega | exact ne_true (by assumption) | exact (top_ok (by assumption) _).1 | (simp only [List.length_take, List.length_append, List.length_cons, List.length_nil]; omega)))
    first
      | exact h
      | (have e3 := List.append_nil (cs.take (cs.length - 1)); rw [← e3] at h; exact h)
  · obtain ⟨i1, i2, i3, i4, i5⟩ := stk_inv hk
    exact (do68_2 cs m o u).canT (E_valid sO_ok 14) (Nat.le_refl 1) (by ((simp only [AllP, and_true]; repeat' apply And.intro) <;> first | trivial | omega | exact ne_true (by assumption) | exact (top_ok (by assumption) _).1 | (simp only [List.length_take, List.length_append, List.length_cons, List.length_nil]; omega)))
  · obtain ⟨i1, i2, i3, i4, i5⟩ := stk_inv hk
    exact (do68_3 cs m o u).canT (E_valid sO_ok 14) (Nat.le_refl 1) (by ((simp only [AllP, and_true]; repeat' apply And.intro) <;> first | trivial | omega | exact ne_true (by assumption) | exact (top_ok (by assumption) _).1 | (simp only [List.length_take, List.length_append, List.length_cons, List.length_nil]; omega)))

end Go.Proofs.Ytnoonoghemgbbaa.Sx

/-
  Do over stacks, way by way (printed by the explorer; wip/plain/gendoo.py): numbers.
-/
set_option maxRecDepth 100000
set_option linter.unusedVariables false
set_option linter.unusedSimpArgs false
namespace Go.Proofs.Ytnoonoghemgbbaa.Sx
open Go

theorem do16_1 (cs : List Int) (m o u : Int) : Good (evo 14 [.cell (.int .u32 16), sp, anyP, anyP] [stO cs m o u] [0, 1, 1, 0, 0, 0, 0, 0, 0, 0, 0, 0, 0, 0, 0, 1, 0, 0, 1, 0, 0, 0, 0, 0, 0, 0, 0, 0, 0, 0, 0, 0, 0, 0, 0, 0, 1, 1, 1, 5, 0, 0, 6, 1, 6, 0, 0, 0, 0, 0, 0]) [18, 12, 6, 33, 1, 2] [(0 : Int) ≤ (2 : Int) ∧ (2 : Int) ≤ (↑cs.length : Int) ∧ (0 : Int) ≤ (1 : Int) ∧ (1 : Int) ≤ m - ((↑cs.length : Int) - (2 : Int)), (0 : Int) ≤ (1 : Int) ∧ (1 : Int) < (↑cs.length : Int), (0 : Int) ≤ (0 : Int) ∧ (0 : Int) < (↑cs.length : Int), (0 : Int) ≤ IntKind.i64.wrap ((↑cs.length : Int) - (2 : Int)) ∧ IntKind.i64.wrap ((↑cs.length : Int) - (2 : Int)) ≤ (↑cs.length : Int), (0 : Int) ≤ IntKind.i64.wrap ((↑cs.length : Int) - (2 : Int)) ∧ IntKind.i64.wrap ((↑cs.length : Int) - (2 : Int)) ≤ (↑cs.length : Int), (1 : Nat) ≤ (1 : Nat) ∧ (1 : Int) ≤ m - (↑(List.take (IntKind.i64.wrap ((↑cs.length : Int) - (2 : Int))).toNat cs).length : Int)] (AV.cell (Cell.int IntKind.i32 (0 : Int)), [some (Blk.obj (Ob.ab (Ab.stk (List.take (IntKind.i64.wrap ((↑cs.length : Int) - (2 : Int))).toNat cs ++ [IntKind.u32.wrap (top cs 1 + top cs 0)]) m o u)))], (0 : Nat), []) := ⟨by kernel_rfl, by kernel_rfl⟩

theorem do16_2 (cs : List Int) (m o u : Int) : Good (evo 14 [.cell (.int .u32 16), sp, anyP, anyP] [stO cs m o u] [0, 1, 1, 0, 0, 0, 0, 0, 0, 1, 1]) [18, 0] [(↑cs.length : Int) < (2 : Int) ∧ (2 : Int) ≤ (65536 : Int), (u != (0 : Int)) = true] (AV.cell (Cell.int IntKind.i32 u), [some (Blk.obj (Ob.ab (Ab.stk cs m o u)))], (1 : Nat), []) := ⟨by kernel_rfl, by kernel_rfl⟩

theorem do16_3 (cs : List Int) (m o u : Int) : Good (evo 14 [.cell (.int .u32 16), sp, anyP, anyP] [stO cs m o u] [0, 1, 1, 0, 0, 0, 0, 0, 0, 2, 1]) [18, 0] [(0 : Int) ≤ (2 : Int) ∧ (2 : Int) ≤ (↑cs.length : Int) ∧ (0 : Int) ≤ (1 : Int) ∧ m - ((↑cs.length : Int) - (2 : Int)) < (1 : Int), (o != (0 : Int)) = true] (AV.cell (Cell.int IntKind.i32 o), [some (Blk.obj (Ob.ab (Ab.stk cs m o u)))], (1 : Nat), []) := ⟨by kernel_rfl, by kernel_rfl⟩

def out16 (cs : List Int) : List Int := [IntKind.u32.wrap (top cs 1 + top cs 0)]

theorem row16 : DoRow 16 2 1 out16 := by
  refine ⟨fun cs m o u hc h1 h2 => CanOk.knows (j := 0) rfl fun hk => ?_, fun cs m o u h => CanOk.knows (j := 0) rfl fun hk => ?_, fun cs m o u h1 h2 => CanOk.knows (j := 0) rfl fun hk => ?_⟩
  · obtain ⟨i1, i2, i3, i4, i5⟩ := stk_inv hk
    have e : IntKind.i64.wrap ((cs.length : Int) - (2 : Int)) = (cs.length : Int) - (2 : Int) := wrap_len (by omega) (by omega) (by omega)
    have e2 : ((cs.length : Int) - (2 : Int)).toNat = cs.length - 2 := by omega
    have g := do16_1 cs m o u
    simp only [e, e2] at g
    have h := g.canT (E_valid sO_ok 14) (Nat.le_refl 1) (by ((simp only [AllP, and_true]; repeat' apply And.intro) <;> first | trivial | omega | exact ne_true (by assumption) | exact (top_ok (by assumption) _).1 | (simp only [List.length_take, List.length_append, List.length_cons, List.length_nil]; omega)))
    first
      | exact h
      | (have e3 := List.append_nil (cs.take (cs.length - 2)); rw [← e3] at h; exact h)
  · obtain ⟨i1, i2, i3, i4, i5⟩ := stk_inv hk
    exact (do16_2 cs m o u).canT (E_valid sO_ok 14) (Nat.le_refl 1) (by ((simp only [AllP, and_true]; repeat' apply And.intro) <;> first | trivial | omega | exact ne_true (by assumption) | exact (top_ok (by assumption) _).1 | (simp only [List.length_take, List.length_append, List.length_cons, List.length_nil]; omega)))
  · obtain ⟨i1, i2, i3, i4, i5⟩ := stk_inv hk
    exact (do16_3 cs m o u).canT (E_valid sO_ok 14) (Nat.le_refl 1) (by ((simp only [AllP, and_true]; repeat' apply And.intro) <;> first | trivial | omega | exact ne_true (by assumption) | exact (top_ok (by assumption) _).1 | (simp only [List.length_take, List.length_append, List.length_cons, List.length_nil]; omega)))

theorem do17_1 (cs : List Int) (m o u : Int) : Good (evo 14 [.cell (.int .u32 17), sp, anyP, anyP] [stO cs m o u] [0, 1, 1, 0, 0, 0, 0, 0, 0, 0, 0, 0, 0, 0, 0, 1, 0, 0, 1, 0, 0, 0, 0, 0, 0, 0, 0, 0, 0, 0, 0, 0, 0, 0, 0, 0, 1, 0, 1, 1, 5, 0, 0, 6, 1, 6, 0, 0, 0, 0, 0, 0]) [18, 12, 6, 33, 1, 2] [(0 : Int) ≤ (2 : Int) ∧ (2 : Int) ≤ (↑cs.length : Int) ∧ (0 : Int) ≤ (1 : Int) ∧ (1 : Int) ≤ m - ((↑cs.length : Int) - (2 : Int)), (0 : Int) ≤ (1 : Int) ∧ (1 : Int) < (↑cs.length : Int), (0 : Int) ≤ (0 : Int) ∧ (0 : Int) < (↑cs.length : Int), (0 : Int) ≤ IntKind.i64.wrap ((↑cs.length : Int) - (2 : Int)) ∧ IntKind.i64.wrap ((↑cs.length : Int) - (2 : Int)) ≤ (↑cs.length : Int), (0 : Int) ≤ IntKind.i64.wrap ((↑cs.length : Int) - (2 : Int)) ∧ IntKind.i64.wrap ((↑cs.length : Int) - (2 : Int)) ≤ (↑cs.length : Int), (1 : Nat) ≤ (1 : Nat) ∧ (1 : Int) ≤ m - (↑(List.take (IntKind.i64.wrap ((↑cs.length : Int) - (2 : Int))).toNat cs).length : Int)] (AV.cell (Cell.int IntKind.i32 (0 : Int)), [some (Blk.obj (Ob.ab (Ab.stk (List.take (IntKind.i64.wrap ((↑cs.length : Int) - (2 : Int))).toNat cs ++ [IntKind.u32.wrap (top cs 1 - top cs 0)]) m o u)))], (0 : Nat), []) := ⟨by kernel_rfl, by kernel_rfl⟩

theorem do17_2 (cs : List Int) (m o u : Int) : Good (evo 14 [.cell (.int .u32 17), sp, anyP, anyP] [stO cs m o u] [0, 1, 1, 0, 0, 0, 0, 0, 0, 1, 1]) [18, 0] [(↑cs.length : Int) < (2 : Int) ∧ (2 : Int) ≤ (65536 : Int), (u != (0 : Int)) = true] (AV.cell (Cell.int IntKind.i32 u), [some (Blk.obj (Ob.ab (Ab.stk cs m o u)))], (1 : Nat), []) := ⟨by kernel_rfl, by kernel_rfl⟩

theorem do17_3 (cs : List Int) (m o u : Int) : Good (evo 14 [.cell (.int .u32 17), sp, anyP, anyP] [stO cs m o u] [0, 1, 1, 0, 0, 0, 0, 0, 0, 2, 1]) [18, 0] [(0 : Int) ≤ (2 : Int) ∧ (2 : Int) ≤ (↑cs.length : Int) ∧ (0 : Int) ≤ (1 : Int) ∧ m - ((↑cs.length : Int) - (2 : Int)) < (1 : Int), (o != (0 : Int)) = true] (AV.cell (Cell.int IntKind.i32 o), [some (Blk.obj (Ob.ab (Ab.stk cs m o u)))], (1 : Nat), []) := ⟨by kernel_rfl, by kernel_rfl⟩

def out17 (cs : List Int) : List Int := [IntKind.u32.wrap (top cs 1 - top cs 0)]

theorem row17 : DoRow 17 2 1 out17 := by
  refine ⟨fun cs m o u hc h1 h2 => CanOk.knows (j := 0) rfl fun hk => ?_, fun cs m o u h => CanOk.knows (j := 0) rfl fun hk => ?_, fun cs m o u h1 h2 => CanOk.knows (j := 0) rfl fun hk => ?_⟩
  · obtain ⟨i1, i2, i3, i4, i5⟩ := stk_inv hk
    have e : IntKind.i64.wrap ((cs.length : Int) - (2 : Int)) = (cs.length : Int) - (2 : Int) := wrap_len (by omega) (by omega) (by omega)
    have e2 : ((cs.length : Int) - (2 : Int)).toNat = cs.length - 2 := by omega
    have g := do17_1 cs m o u
    simp only [e, e2] at g
    have h := g.canT (E_valid sO_ok 14) (Nat.le_refl 1) (by ((simp only [AllP, and_true]; repeat' apply And.intro) <;> first | trivial | omega | exact ne_true (by assumption) | exact (top_ok (by assumption) _).1 | (simp only [List.length_take, List.length_append, List.length_cons, List.length_nil]; omega)))
    first
      | exact h
      | (have e3 := List.append_nil (cs.take (cs.length - 2)); rw [← e3] at h; exact h)
  · obtain ⟨i1, i2, i3, i4, i5⟩ := stk_inv hk
    exact (do17_2 cs m o u).canT (E_valid sO_ok 14) (Nat.le_refl 1) (by ((simp only [AllP, and_true]; repeat' apply And.intro) <;> first | trivial | omega | exact ne_true (by assumption) | exact (top_ok (by assumption) _).1 | (simp only [List.length_take, List.length_append, List.length_cons, List.length_nil]; omega)))
  · obtain ⟨i1, i2, i3, i4, i5⟩ := stk_inv hk
    exact (do17_3 cs m o u).canT (E_valid sO_ok 14) (Nat.le_refl 1) (by ((simp only [AllP, and_true]; repeat' apply And.intro) <;> first | trivial | omega | exact ne_true (by assumption) | exact (top_ok (by assumption) _).1 | (simp only [List.length_take, List.length_append, List.length_cons, List.length_nil]; omega)))

theorem do18_1 (cs : List Int) (m o u : Int) : Good (evo 14 [.cell (.int .u32 18), sp, anyP, anyP] [stO cs m o u] [0, 1, 1, 0, 0, 0, 0, 0, 0, 0, 0, 0, 0, 0, 0, 1, 0, 0, 1, 0, 0, 0, 0, 0, 0, 0, 0, 0, 0, 0, 0, 0, 0, 0, 0, 0, 1, 0, 0, 1, 1, 5, 0, 0, 6, 1, 6, 0, 0, 0, 0, 0, 0]) [18, 12, 6, 34, 1, 2] [(0 : Int) ≤ (2 : Int) ∧ (2 : Int) ≤ (↑cs.length : Int) ∧ (0 : Int) ≤ (1 : Int) ∧ (1 : Int) ≤ m - ((↑cs.length : Int) - (2 : Int)), (0 : Int) ≤ (1 : Int) ∧ (1 : Int) < (↑cs.length : Int), (0 : Int) ≤ (0 : Int) ∧ (0 : Int) < (↑cs.length : Int), (0 : Int) ≤ IntKind.i64.wrap ((↑cs.length : Int) - (2 : Int)) ∧ IntKind.i64.wrap ((↑cs.length : Int) - (2 : Int)) ≤ (↑cs.length : Int), (0 : Int) ≤ IntKind.i64.wrap ((↑cs.length : Int) - (2 : Int)) ∧ IntKind.i64.wrap ((↑cs.length : Int) - (2 : Int)) ≤ (↑cs.length : Int), (1 : Nat) ≤ (1 : Nat) ∧ (1 : Int) ≤ m - (↑(List.take (IntKind.i64.wrap ((↑cs.length : Int) - (2 : Int))).toNat cs).length : Int)] (AV.cell (Cell.int IntKind.i32 (0 : Int)), [some (Blk.obj (Ob.ab (Ab.stk (List.take (IntKind.i64.wrap ((↑cs.length : Int) - (2 : Int))).toNat cs ++ [IntKind.u32.wrap (top cs 1 * top cs 0)]) m o u)))], (0 : Nat), []) := ⟨by kernel_rfl, by kernel_rfl⟩

theorem do18_2 (cs : List Int) (m o u : Int) : Good (evo 14 [.cell (.int .u32 18), sp, anyP, anyP] [stO cs m o u] [0, 1, 1, 0, 0, 0, 0, 0, 0, 1, 1]) [18, 0] [(↑cs.length : Int) < (2 : Int) ∧ (2 : Int) ≤ (65536 : Int), (u != (0 : Int)) = true] (AV.cell (Cell.int IntKind.i32 u), [some (Blk.obj (Ob.ab (Ab.stk cs m o u)))], (1 : Nat), []) := ⟨by kernel_rfl, by kernel_rfl⟩

theorem do18_3 (cs : List Int) (m o u : Int) : Good (evo 14 [.cell (.int .u32 18), sp, anyP, anyP] [stO cs m o u] [0, 1, 1, 0, 0, 0, 0, 0, 0, 2, 1]) [18, 0] [(0 : Int) ≤ (2 : Int) ∧ (2 : Int) ≤ (↑cs.length : Int) ∧ (0 : Int) ≤ (1 : Int) ∧ m - ((↑cs.length : Int) - (2 : Int)) < (1 : Int), (o != (0 : Int)) = true] (AV.cell (Cell.int IntKind.i32 o), [some (Blk.obj (Ob.ab (Ab.stk cs m o u)))], (1 : Nat), []) := ⟨by kernel_rfl, by kernel_rfl⟩

def out18 (cs : List Int) : List Int := [IntKind.u32.wrap (top cs 1 * top cs 0)]

theorem row18 : DoRow 18 2 1 out18 := by
  refine ⟨fun cs m o u hc h1 h2 => CanOk.knows (j := 0) rfl fun hk => ?_, fun cs m o u h => CanOk.knows (j := 0) rfl fun hk => ?_, fun cs m o u h1 h2 => CanOk.knows (j := 0) rfl fun hk => ?_⟩
  · obtain ⟨i1, i2, i3, i4, i5⟩ := stk_inv hk
    have e : IntKind.i64.wrap ((cs.length : Int) - (2 : Int)) = (cs.length : Int) - (2 : Int) := wrap_len (by omega) (by omega) (by omega)
    have e2 : ((cs.length : Int) - (2 : Int)).toNat = cs.length - 2 := by omega
    have g := do18_1 cs m o u
    simp only [e, e2] at g
    have h := g.canT (E_valid sO_ok 14) (Nat.le_refl 1) (by ((simp only [AllP, and_true]; repeat' apply And.intro) <;> first | trivial | omega | exact ne_true (by assumption) | exact (top_ok (by assumption) _).1 | (simp only [List.length_take, List.length_append, List.length_cons, List.length_nil]; omega)))
    first
      | exact h
      | (have e3 := List.append_nil (cs.take (cs.length - 2)); rw [← e3] at h; exact h)
  · obtain ⟨i1, i2, i3, i4, i5⟩ := stk_inv hk
    exact (do18_2 cs m o u).canT (E_valid sO_ok 14) (Nat.le_refl 1) (by ((simp only [AllP, and_true]; repeat' apply And.intro) <;> first | trivial | omega | exact ne_true (by assumption) | exact (top_ok (by assumption) _).1 | (simp only [List.length_take, List.length_append, List.length_cons, List.length_nil]; omega)))
  · obtain ⟨i1, i2, i3, i4, i5⟩ := stk_inv hk
    exact (do18_3 cs m o u).canT (E_valid sO_ok 14) (Nat.le_refl 1) (by ((simp only [AllP, and_true]; repeat' apply And.intro) <;> first | trivial | omega | exact ne_true (by assumption) | exact (top_ok (by assumption) _).1 | (simp only [List.length_take, List.length_append, List.length_cons, List.length_nil]; omega)))

theorem do24_1 (cs : List Int) (m o u : Int) : Good (evo 14 [.cell (.int .u32 24), sp, anyP, anyP] [stO cs m o u] [0, 1, 1, 0, 0, 0, 0, 0, 0, 0, 0, 0, 0, 0, 0, 1, 0, 0, 0, 0, 0, 0, 0, 0, 0, 0, 0, 0, 0, 0, 0, 0, 1, 1, 1, 0, 6, 1, 6, 0, 0, 0, 0, 0, 0]) [18, 12, 29, 1, 2] [(0 : Int) ≤ (1 : Int) ∧ (1 : Int) ≤ (↑cs.length : Int) ∧ (0 : Int) ≤ (1 : Int) ∧ (1 : Int) ≤ m - ((↑cs.length : Int) - (1 : Int)), (0 : Int) ≤ (0 : Int) ∧ (0 : Int) < (↑cs.length : Int), (0 : Int) ≤ IntKind.i64.wrap ((↑cs.length : Int) - (1 : Int)) ∧ IntKind.i64.wrap ((↑cs.length : Int) - (1 : Int)) ≤ (↑cs.length : Int), (0 : Int) ≤ IntKind.i64.wrap ((↑cs.length : Int) - (1 : Int)) ∧ IntKind.i64.wrap ((↑cs.length : Int) - (1 : Int)) ≤ (↑cs.length : Int), (1 : Nat) ≤ (1 : Nat) ∧ (1 : Int) ≤ m - (↑(List.take (IntKind.i64.wrap ((↑cs.length : Int) - (1 : Int))).toNat cs).length : Int)] (AV.cell (Cell.int IntKind.i32 (0 : Int)), [some (Blk.obj (Ob.ab (Ab.stk (List.take (IntKind.i64.wrap ((↑cs.length : Int) - (1 : Int))).toNat cs ++ [IntKind.u32.wrap ((0 : Int) - top cs 0)]) m o u)))], (0 : Nat), []) := ⟨by kernel_rfl, by kernel_rfl⟩

theorem do24_2 (cs : List Int) (m o u : Int) : Good (evo 14 [.cell (.int .u32 24), sp, anyP, anyP] [stO cs m o u] [0, 1, 1, 0, 0, 0, 0, 0, 0, 1, 1]) [18, 0] [(↑cs.length : Int) < (1 : Int) ∧ (1 : Int) ≤ (65536 : Int), (u != (0 : Int)) = true] (AV.cell (Cell.int IntKind.i32 u), [some (Blk.obj (Ob.ab (Ab.stk cs m o u)))], (1 : Nat), []) := ⟨by kernel_rfl, by kernel_rfl⟩

theorem do24_3 (cs : List Int) (m o u : Int) : Good (evo 14 [.cell (.int .u32 24), sp, anyP, anyP] [stO cs m o u] [0, 1, 1, 0, 0, 0, 0, 0, 0, 2, 1]) [18, 0] [(0 : Int) ≤ (1 : Int) ∧ (1 : Int) ≤ (↑cs.length : Int) ∧ (0 : Int) ≤ (1 : Int) ∧ m - ((↑cs.length : Int) - (1 : Int)) < (1 : Int), (o != (0 : Int)) = true] (AV.cell (Cell.int IntKind.i32 o), [some (Blk.obj (Ob.ab (Ab.stk cs m o u)))], (1 : Nat), []) := ⟨by kernel_rfl, by kernel_rfl⟩

def out24 (cs : List Int) : List Int := [IntKind.u32.wrap ((0 : Int) - top cs 0)]

theorem row24 : DoRow 24 1 1 out24 := by
  refine ⟨fun cs m o u hc h1 h2 => CanOk.knows (j := 0) rfl fun hk => ?_, fun cs m o u h => CanOk.knows (j := 0) rfl fun hk => ?_, fun cs m o u h1 h2 => CanOk.knows (j := 0) rfl fun hk => ?_⟩
  · obtain ⟨i1, i2, i3, i4, i5⟩ := stk_inv hk
    have e : IntKind.i64.wrap ((cs.length : Int) - (1 : Int)) = (cs.length : Int) - (1 : Int) := wrap_len (by omega) (by omega) (by omega)
    have e2 : ((cs.length : Int) - (1 : Int)).toNat = cs.length - 1 := by omega
    have g := do24_1 cs m o u
    simp only [e, e2] at g
    have h := g.canT (E_valid sO_ok 14) (Nat.le_refl 1) (by ((simp only [AllP, and_true]; repeat' apply And.intro) <;> first | trivial | omega | exact ne_true (by assumption) | exact (top_ok (by assumption) _).1 | (simp only [List.length_take, List.length_append, List.length_cons, List.length_nil]; omega)))
    first
      | exact h
      | (have e3 := List.append_nil (cs.take (cs.length - 1)); rw [← e3] at h; exact h)
  · obtain ⟨i1, i2, i3, i4, i5⟩ := stk_inv hk
    exact (do24_2 cs m o u).canT (E_valid sO_ok 14) (Nat.le_refl 1) (by ((simp only [AllP, and_true]; repeat' apply And.intro) <;> first | trivial | omega | exact ne_true (by assumption) | exact (top_ok (by assumption) _).1 | (simp only [List.length_take, List.length_append, List.length_cons, List.length_nil]; omega)))
  · obtain ⟨i1, i2, i3, i4, i5⟩ := stk_inv hk
    exact (do24_3 cs m o u).canT (E_valid sO_ok 14) (Nat.le_refl 1) (by ((simp only [AllP, and_true]; repeat' apply And.intro) <;> first | trivial | omega | exact ne_true (by assumption) | exact (top_ok (by assumption) _).1 | (simp only [List.length_take, List.length_append, List.length_cons, List.length_nil]; omega)))

theorem do25_1 (cs : List Int) (m o u : Int) : Good (evo 14 [.cell (.int .u32 25), sp, anyP, anyP] [stO cs m o u] [0, 1, 1, 0, 0, 0, 0, 0, 0, 0, 0, 0, 0, 0, 0, 1, 0, 0, 0, 0, 0, 0, 0, 0, 0, 0, 0, 0, 0, 0, 0, 0, 1, 0, 1, 1, 0, 6, 1, 6, 0, 0, 0, 0, 0, 0]) [18, 12, 30, 1, 2] [(0 : Int) ≤ (1 : Int) ∧ (1 : Int) ≤ (↑cs.length : Int) ∧ (0 : Int) ≤ (1 : Int) ∧ (1 : Int) ≤ m - ((↑cs.length : Int) - (1 : Int)), (0 : Int) ≤ (0 : Int) ∧ (0 : Int) < (↑cs.length : Int), (0 : Int) ≤ IntKind.i64.wrap ((↑cs.length : Int) - (1 : Int)) ∧ IntKind.i64.wrap ((↑cs.length : Int) - (1 : Int)) ≤ (↑cs.length : Int), (0 : Int) ≤ IntKind.i64.wrap ((↑cs.length : Int) - (1 : Int)) ∧ IntKind.i64.wrap ((↑cs.length : Int) - (1 : Int)) ≤ (↑cs.length : Int), (1 : Nat) ≤ (1 : Nat) ∧ (1 : Int) ≤ m - (↑(List.take (IntKind.i64.wrap ((↑cs.length : Int) - (1 : Int))).toNat cs).length : Int)] (AV.cell (Cell.int IntKind.i32 (0 : Int)), [some (Blk.obj (Ob.ab (Ab.stk (List.take (IntKind.i64.wrap ((↑cs.length : Int) - (1 : Int))).toNat cs ++ [IntKind.u32.wrap (if IntKind.i32.wrap ((0 : Int) - IntKind.i32.wrap (top cs 0)) > IntKind.i32.wrap (top cs 0) then IntKind.i32.wrap ((0 : Int) - IntKind.i32.wrap (top cs 0)) else IntKind.i32.wrap (top cs 0))]) m o u)))], (0 : Nat), []) := ⟨by kernel_rfl, by kernel_rfl⟩

theorem do25_2 (cs : List Int) (m o u : Int) : Good (evo 14 [.cell (.int .u32 25), sp, anyP, anyP] [stO cs m o u] [0, 1, 1, 0, 0, 0, 0, 0, 0, 1, 1]) [18, 0] [(↑cs.length : Int) < (1 : Int) ∧ (1 : Int) ≤ (65536 : Int), (u != (0 : Int)) = true] (AV.cell (Cell.int IntKind.i32 u), [some (Blk.obj (Ob.ab (Ab.stk cs m o u)))], (1 : Nat), []) := ⟨by kernel_rfl, by kernel_rfl⟩

theorem do25_3 (cs : List Int) (m o u : Int) : Good (evo 14 [.cell (.int .u32 25), sp, anyP, anyP] [stO cs m o u] [0, 1, 1, 0, 0, 0, 0, 0, 0, 2, 1]) [18, 0] [(0 : Int) ≤ (1 : Int) ∧ (1 : Int) ≤ (↑cs.length : Int) ∧ (0 : Int) ≤ (1 : Int) ∧ m - ((↑cs.length : Int) - (1 : Int)) < (1 : Int), (o != (0 : Int)) = true] (AV.cell (Cell.int IntKind.i32 o), [some (Blk.obj (Ob.ab (Ab.stk cs m o u)))], (1 : Nat), []) := ⟨by kernel_rfl, by kernel_rfl⟩

def out25 (cs : List Int) : List Int := [IntKind.u32.wrap (if IntKind.i32.wrap ((0 : Int) - IntKind.i32.wrap (top cs 0)) > IntKind.i32.wrap (top cs 0) then IntKind.i32.wrap ((0 : Int) - IntKind.i32.wrap (top cs 0)) else IntKind.i32.wrap (top cs 0))]

theorem row25 : DoRow 25 1 1 out25 := by
  refine ⟨fun cs m o u hc h1 h2 => CanOk.knows (j := 0) rfl fun hk => ?_, fun cs m o u h => CanOk.knows (j := 0) rfl fun hk => ?_, fun cs m o u h1 h2 => CanOk.knows (j := 0) rfl fun hk => ?_⟩
  · obtain ⟨i1, i2, i3, i4, i5⟩ := stk_inv hk
    have e : IntKind.i64.wrap ((cs.length : Int) - (1 : Int)) = (cs.length : Int) - (1 : Int) := wrap_len (by omega) (by omega) (by omega)
    have e2 : ((cs.length : Int) - (1 : Int)).toNat = cs.length - 1 := by omega
    have g := do25_1 cs m o u
    simp only [e, e2] at g
    have h := g.canT (E_valid sO_ok 14) (Nat.le_refl 1) (by ((simp only [AllP, and_true]; repeat' apply And.intro) <;> first | trivial | omega | exact ne_true (by assumption) | exact (top_ok (by assumption) _).1 | (simp only [List.length_take, List.length_append, List.length_cons, List.length_nil]; omega)))
    first
      | exact h
      | (have e3 := List.append_nil (cs.take (cs.length - 1)); rw [← e3] at h; exact h)
  · obtain ⟨i1, i2, i3, i4, i5⟩ := stk_inv hk
    exact (do25_2 cs m o u).canT (E_valid sO_ok 14) (Nat.le_refl 1) (by ((simp only [AllP, and_true]; repeat' apply And.intro) <;> first | trivial | omega | exact ne_true (by assumption) | exact (top_ok (by assumption) _).1 | (simp only [List.length_take, List.length_append, List.length_cons, List.length_nil]; omega)))
  · obtain ⟨i1, i2, i3, i4, i5⟩ := stk_inv hk
    exact (do25_3 cs m o u).canT (E_valid sO_ok 14) (Nat.le_refl 1) (by ((simp only [AllP, and_true]; repeat' apply And.intro) <;> first | trivial | omega | exact ne_true (by assumption) | exact (top_ok (by assumption) _).1 | (simp only [List.length_take, List.length_append, List.length_cons, List.length_nil]; omega)))

theorem do26_1 (cs : List Int) (m o u : Int) : Good (evo 14 [.cell (.int .u32 26), sp, anyP, anyP] [stO cs m o u] [0, 1, 1, 0, 0, 0, 0, 0, 0, 0, 0, 0, 0, 0, 0, 1, 0, 0, 1, 0, 0, 0, 0, 0, 0, 0, 0, 0, 0, 0, 0, 0, 0, 0, 0, 0, 1, 0, 0, 0, 1, 1, 5, 0, 0, 6, 1, 6, 0, 0, 0, 0, 0, 0]) [18, 12, 6, 35, 1, 2] [(0 : Int) ≤ (2 : Int) ∧ (2 : Int) ≤ (↑cs.length : Int) ∧ (0 : Int) ≤ (1 : Int) ∧ (1 : Int) ≤ m - ((↑cs.length : Int) - (2 : Int)), (0 : Int) ≤ (1 : Int) ∧ (1 : Int) < (↑cs.length : Int), (0 : Int) ≤ (0 : Int) ∧ (0 : Int) < (↑cs.length : Int), (0 : Int) ≤ IntKind.i64.wrap ((↑cs.length : Int) - (2 : Int)) ∧ IntKind.i64.wrap ((↑cs.length : Int) - (2 : Int)) ≤ (↑cs.length : Int), (0 : Int) ≤ IntKind.i64.wrap ((↑cs.length : Int) - (2 : Int)) ∧ IntKind.i64.wrap ((↑cs.length : Int) - (2 : Int)) ≤ (↑cs.length : Int), (1 : Nat) ≤ (1 : Nat) ∧ (1 : Int) ≤ m - (↑(List.take (IntKind.i64.wrap ((↑cs.length : Int) - (2 : Int))).toNat cs).length : Int)] (AV.cell (Cell.int IntKind.i32 (0 : Int)), [some (Blk.obj (Ob.ab (Ab.stk (List.take (IntKind.i64.wrap ((↑cs.length : Int) - (2 : Int))).toNat cs ++ [IntKind.u32.wrap (if IntKind.i32.wrap (top cs 0) < IntKind.i32.wrap (top cs 1) then IntKind.i32.wrap (top cs 0) else IntKind.i32.wrap (top cs 1))]) m o u)))], (0 : Nat), []) := ⟨by kernel_rfl, by kernel_rfl⟩

theorem do26_2 (cs : List Int) (m o u : Int) : Good (evo 14 [.cell (.int .u32 26), sp, anyP, anyP] [stO cs m o u] [0, 1, 1, 0, 0, 0, 0, 0, 0, 1, 1]) [18, 0] [(↑cs.length : Int) < (2 : Int) ∧ (2 : Int) ≤ (65536 : Int), (u != (0 : Int)) = true] (AV.cell (Cell.int IntKind.i32 u), [some (Blk.obj (Ob.ab (Ab.stk cs m o u)))], (1 : Nat), []) := ⟨by kernel_rfl, by kernel_rfl⟩

theorem do26_3 (cs : List Int) (m o u : Int) : Good (evo 14 [.cell (.int .u32 26), sp, anyP, anyP] [stO cs m o u] [0, 1, 1, 0, 0, 0, 0, 0, 0, 2, 1]) [18, 0] [(0 : Int) ≤ (2 : Int) ∧ (2 : Int) ≤ (↑cs.length : Int) ∧ (0 : Int) ≤ (1 : Int) ∧ m - ((↑cs.length : Int) - (2 : Int)) < (1 : Int), (o != (0 : Int)) = true] (AV.cell (Cell.int IntKind.i32 o), [some (Blk.obj (Ob.ab (Ab.stk cs m o u)))], (1 : Nat), []) := ⟨by kernel_rfl, by kernel_rfl⟩

def out26 (cs : List Int) : List Int := [IntKind.u32.wrap (if IntKind.i32.wrap (top cs 0) < IntKind.i32.wrap (top cs 1) then IntKind.i32.wrap (top cs 0) else IntKind.i32.wrap (top cs 1))]

theorem row26 : DoRow 26 2 1 out26 := by
  refine ⟨fun cs m o u hc h1 h2 => CanOk.knows (j := 0) rfl fun hk => ?_, fun cs m o u h => CanOk.knows (j := 0) rfl fun hk => ?_, fun cs m o u h1 h2 => CanOk.knows (j := 0) rfl fun hk => ?_⟩
  · obtain ⟨i1, i2, i3, i4, i5⟩ := stk_inv hk
    have e : IntKind.i64.wrap ((cs.length : Int) - (2 : Int)) = (cs.length : Int) - (2 : Int) := wrap_len (by omega) (by omega) (by omega)
    have e2 : ((cs.length : Int) - (2 : Int)).toNat = cs.length - 2 := by omega
    have g := do26_1 cs m o u
    simp only [e, e2] at g
    have h := g.canT (E_valid sO_ok 14) (Nat.le_refl 1) (by ((simp only [AllP, and_true]; repeat' apply And.intro) <;> first | trivial | omega | exact ne_true (by assumption) | exact (top_ok (by assumption) _).1 | (simp only [List.length_take, List.length_append, List.length_cons, List.length_nil]; omega)))
    first
      | exact h
      | (have e3 := List.append_nil (cs.take (cs.length - 2)); rw [← e3] at h; exact h)
  · obtain ⟨i1, i2, i3, i4, i5⟩ := stk_inv hk
    exact (do26_2 cs m o u).canT (E_valid sO_ok 14) (Nat.le_refl 1) (by ((simp only [AllP, and_true]; repeat' apply And.intro) <;> first | trivial | omega | exact ne_true (by assumption) | exact (top_ok (by assumption) _).1 | (simp only [List.length_take, List.length_append, List.length_cons, List.length_nil]; omega)))
  · obtain ⟨i1, i2, i3, i4, i5⟩ := stk_inv hk
    exact (do26_3 cs m o u).canT (E_valid sO_ok 14) (Nat.le_refl 1) (by ((simp only [AllP, and_true]; repeat' apply And.intro) <;> first | trivial | omega | exact ne_true (by assumption) | exact (top_ok (by assumption) _).1 | (simp only [List.length_take, List.length_append, List.length_cons, List.length_nil]; omega)))

theorem do27_1 (cs : List Int) (m o u : Int) : Good (evo 14 [.cell (.int .u32 27), sp, anyP, anyP] [stO cs m o u] [0, 1, 1, 0, 0, 0, 0, 0, 0, 0, 0, 0, 0, 0, 0, 1, 0, 0, 1, 0, 0, 0, 0, 0, 0, 0, 0, 0, 0, 0, 0, 0, 0, 0, 0, 0, 1, 0, 0, 0, 0, 1, 1, 5, 0, 0, 6, 1, 6, 0, 0, 0, 0, 0, 0]) [18, 12, 6, 36, 1, 2] [(0 : Int) ≤ (2 : Int) ∧ (2 : Int) ≤ (↑cs.length : Int) ∧ (0 : Int) ≤ (1 : Int) ∧ (1 : Int) ≤ m - ((↑cs.length : Int) - (2 : Int)), (0 : Int) ≤ (1 : Int) ∧ (1 : Int) < (↑cs.length : Int), (0 : Int) ≤ (0 : Int) ∧ (0 : Int) < (↑cs.length : Int), (0 : Int) ≤ IntKind.i64.wrap ((↑cs.length : Int) - (2 : Int)) ∧ IntKind.i64.wrap ((↑cs.length : Int) - (2 : Int)) ≤ (↑cs.length : Int), (0 : Int) ≤ IntKind.i64.wrap ((↑cs.length : Int) - (2 : Int)) ∧ IntKind.i64.wrap ((↑cs.length : Int) - (2 : Int)) ≤ (↑cs.length : Int), (1 : Nat) ≤ (1 : Nat) ∧ (1 : Int) ≤ m - (↑(List.take (IntKind.i64.wrap ((↑cs.length : Int) - (2 : Int))).toNat cs).length : Int)] (AV.cell (Cell.int IntKind.i32 (0 : Int)), [some (Blk.obj (Ob.ab (Ab.stk (List.take (IntKind.i64.wrap ((↑cs.length : Int) - (2 : Int))).toNat cs ++ [IntKind.u32.wrap (if IntKind.i32.wrap (top cs 0) > IntKind.i32.wrap (top cs 1) then IntKind.i32.wrap (top cs 0) else IntKind.i32.wrap (top cs 1))]) m o u)))], (0 : Nat), []) := ⟨by kernel_rfl, by kernel_rfl⟩

theorem do27_2 (cs : List Int) (m o u : Int) : Good (evo 14 [.cell (.int .u32 27), sp, anyP, anyP] [stO cs m o u] [0, 1, 1, 0, 0, 0, 0, 0, 0, 1, 1]) [18, 0] [(↑cs.length : Int) < (2 : Int) ∧ (2 : Int) ≤ (65536 : Int), (u != (0 : Int)) = true] (AV.cell (Cell.int IntKind.i32 u), [some (Blk.obj (Ob.ab (Ab.stk cs m o u)))], (1 : Nat), []) := ⟨by kernel_rfl, by kernel_rfl⟩

theorem do27_3 (cs : List Int) (m o u : Int) : Good (evo 14 [.cell (.int .u32 27), sp, anyP, anyP] [stO cs m o u] [0, 1, 1, 0, 0, 0, 0, 0, 0, 2, 1]) [18, 0] [(0 : Int) ≤ (2 : Int) ∧ (2 : Int) ≤ (↑cs.length : Int) ∧ (0 : Int) ≤ (1 : Int) ∧ m - ((↑cs.length : Int) - (2 : Int)) < (1 : Int), (o != (0 : Int)) = true] (AV.cell (Cell.int IntKind.i32 o), [some (Blk.obj (Ob.ab (Ab.stk cs m o u)))], (1 : Nat), []) := ⟨by kernel_rfl, by kernel_rfl⟩

def out27 (cs : List Int) : List Int := [IntKind.u32.wrap (if IntKind.i32.wrap (top cs 0) > IntKind.i32.wrap (top cs 1) then IntKind.i32.wrap (top cs 0) else IntKind.i32.wrap (top cs 1))]

theorem row27 : DoRow 27 2 1 out27 := by
  refine ⟨fun cs m o u hc h1 h2 => CanOk.knows (j := 0) rfl fun hk => ?_, fun cs m o u h => CanOk.knows (j := 0) rfl fun hk => ?_, fun cs m o u h1 h2 => CanOk.knows (j := 0) rfl fun hk => ?_⟩
  · obtain ⟨i1, i2, i3, i4, i5⟩ := stk_inv hk
    have e : IntKind.i64.wrap ((cs.length : Int) - (2 : Int)) = (cs.length : Int) - (2 : Int) := wrap_len (by omega) (by omega) (by omega)
    have e2 : ((cs.length : Int) - (2 : Int)).toNat = cs.length - 2 := by omega
    have g := do27_1 cs m o u
    simp only [e, e2] at g
    have h := g.canT (E_valid sO_ok 14) (Nat.le_refl 1) (by ((simp only [AllP, and_true]; repeat' apply And.intro) <;> first | trivial | omega | exact ne_true (by assumption) | exact (top_ok (by assumption) _).1 | (simp only [List.length_take, List.length_append, List.length_cons, List.length_nil]; omega)))
    first
      | exact h
      | (have e3 := List.append_nil (cs.take (cs.length - 2)); rw [← e3] at h; exact h)
  · obtain ⟨i1, i2, i3, i4, i5⟩ := stk_inv hk
    exact (do27_2 cs m o u).canT (E_valid sO_ok 14) (Nat.le_refl 1) (by ((simp only [AllP, and_true]; repeat' apply And.intro) <;> first | trivial | omega | exact ne_true (by assumption) | exact (top_ok (by assumption) _).1 | (simp only [List.length_take, List.length_append, List.length_cons, List.length_nil]; omega)))
  · obtain ⟨i1, i2, i3, i4, i5⟩ := stk_inv hk
    exact (do27_3 cs m o u).canT (E_valid sO_ok 14) (Nat.le_refl 1) (by ((simp only [AllP, and_true]; repeat' apply And.intro) <;> first | trivial | omega | exact ne_true (by assumption) | exact (top_ok (by assumption) _).1 | (simp only [List.length_take, List.length_append, List.length_cons, List.length_nil]; omega)))

theorem do28_1 (cs : List Int) (m o u : Int) : Good (evo 14 [.cell (.int .u32 28), sp, anyP, anyP] [stO cs m o u] [0, 1, 1, 0, 0, 0, 0, 0, 0, 0, 0, 0, 0, 0, 0, 1, 0, 0, 0, 0, 0, 0, 0, 0, 0, 0, 0, 0, 0, 0, 0, 0, 1, 0, 0, 1, 1, 1, 0, 6, 1, 6, 0, 0, 0, 0, 0, 0]) [18, 12, 33, 1, 2] [(0 : Int) ≤ (1 : Int) ∧ (1 : Int) ≤ (↑cs.length : Int) ∧ (0 : Int) ≤ (1 : Int) ∧ (1 : Int) ≤ m - ((↑cs.length : Int) - (1 : Int)), (0 : Int) ≤ (0 : Int) ∧ (0 : Int) < (↑cs.length : Int), (0 : Int) ≤ IntKind.i64.wrap ((↑cs.length : Int) - (1 : Int)) ∧ IntKind.i64.wrap ((↑cs.length : Int) - (1 : Int)) ≤ (↑cs.length : Int), (0 : Int) ≤ IntKind.i64.wrap ((↑cs.length : Int) - (1 : Int)) ∧ IntKind.i64.wrap ((↑cs.length : Int) - (1 : Int)) ≤ (↑cs.length : Int), (1 : Nat) ≤ (1 : Nat) ∧ (1 : Int) ≤ m - (↑(List.take (IntKind.i64.wrap ((↑cs.length : Int) - (1 : Int))).toNat cs).length : Int)] (AV.cell (Cell.int IntKind.i32 (0 : Int)), [some (Blk.obj (Ob.ab (Ab.stk (List.take (IntKind.i64.wrap ((↑cs.length : Int) - (1 : Int))).toNat cs ++ [IntKind.u32.wrap (top cs 0 + (1 : Int))]) m o u)))], (0 : Nat), []) := ⟨by kernel_rfl, by kernel_rfl⟩

theorem do28_2 (cs : List Int) (m o u : Int) : Good (evo 14 [.cell (.int .u32 28), sp, anyP, anyP] [stO cs m o u] [0, 1, 1, 0, 0, 0, 0, 0, 0, 1, 1]) [18, 0] [(↑cs.length : Int) < (1 : Int) ∧ (1 : Int) ≤ (65536 : Int), (u != (0 : Int)) = true] (AV.cell (Cell.int IntKind.i32 u), [some (Blk.obj (Ob.ab (Ab.stk cs m o u)))], (1 : Nat), []) := ⟨by kernel_rfl, by kernel_rfl⟩

theorem do28_3 (cs : List Int) (m o u : Int) : Good (evo 14 [.cell (.int .u32 28), sp, anyP, anyP] [stO cs m o u] [0, 1, 1, 0, 0, 0, 0, 0, 0, 2, 1]) [18, 0] [(0 : Int) ≤ (1 : Int) ∧ (1 : Int) ≤ (↑cs.length : Int) ∧ (0 : Int) ≤ (1 : Int) ∧ m - ((↑cs.length : Int) - (1 : Int)) < (1 : Int), (o != (0 : Int)) = true] (AV.cell (Cell.int IntKind.i32 o), [some (Blk.obj (Ob.ab (Ab.stk cs m o u)))], (1 : Nat), []) := ⟨by kernel_rfl, by kernel_rfl⟩

def out28 (cs : List Int) : List Int := [IntKind.u32.wrap (top cs 0 + (1 : Int))]

theorem row28 : DoRow 28 1 1 out28 := by
  refine ⟨fun cs m o u hc h1 h2 => CanOk.knows (j := 0) rfl fun hk => ?_, fun cs m o u h => CanOk.knows (j := 0) rfl fun hk => ?_, fun cs m o u h1 h2 => CanOk.knows (j := 0) rfl fun hk => ?_⟩
  · obtain ⟨i1, i2, i3, i4, i5⟩ := stk_inv hk
    have e : IntKind.i64.wrap ((cs.length : Int) - (1 : Int)) = (cs.length : Int) - (1 : Int) := wrap_len (by omega) (by omega) (by omega)
    have e2 : ((cs.length : Int) - (1 : Int)).toNat = cs.length - 1 := by omega
    have g := do28_1 cs m o u
    simp only [e, e2] at g
    have h := g.canT (E_valid sO_ok 14) (Nat.le_refl 1) (by ((simp only [AllP, and_true]; repeat' apply And.intro) <;> first | trivial | omega | exact ne_true (by assumption) | exact (top_ok (by assumption) _).1 | (simp only [List.length_take, List.length_append, List.length_cons, List.length_nil]; omega)))
    first
      | exact h
      | (have e3 := List.append_nil (cs.take (cs.length - 1)); rw [← e3] at h; exact h)
  · obtain ⟨i1, i2, i3, i4, i5⟩ := stk_inv hk
    exact (do28_2 cs m o u).canT (E_valid sO_ok 14) (Nat.le_refl 1) (by ((simp only [AllP, and_true]; repeat' apply And.intro) <;> first | trivial | omega | exact ne_true (by assumption) | exact (top_ok (by assumption) _).1 | (simp only [List.length_take, List.length_append, List.length_cons, List.length_nil]; omega)))
  · obtain ⟨i1, i2, i3, i4, i5⟩ := stk_inv hk
    exact (do28_3 cs m o u).canT (E_valid sO_ok 14) (Nat.le_refl 1) (by ((simp only [AllP, and_true]; repeat' apply And.intro) <;> first | trivial | omega | exact ne_true (by assumption) | exact (top_ok (by assumption) _).1 | (simp only [List.length_take, List.length_append, List.length_cons, List.length_nil]; omega)))

theorem do29_1 (cs : List Int) (m o u : Int) : Good (evo 14 [.cell (.int .u32 29), sp, anyP, anyP] [stO cs m o u] [0, 1, 1, 0, 0, 0, 0, 0, 0, 0, 0, 0, 0, 0, 0, 1, 0, 0, 0, 0, 0, 0, 0, 0, 0, 0, 0, 0, 0, 0, 0, 0, 1, 0, 0, 0, 0, 1, 1, 0, 6, 1, 6, 0, 0, 0, 0, 0, 0]) [18, 12, 33, 1, 2] [(0 : Int) ≤ (1 : Int) ∧ (1 : Int) ≤ (↑cs.length : Int) ∧ (0 : Int) ≤ (1 : Int) ∧ (1 : Int) ≤ m - ((↑cs.length : Int) - (1 : Int)), (0 : Int) ≤ (0 : Int) ∧ (0 : Int) < (↑cs.length : Int), (0 : Int) ≤ IntKind.i64.wrap ((↑cs.length : Int) - (1 : Int)) ∧ IntKind.i64.wrap ((↑cs.length : Int) - (1 : Int)) ≤ (↑cs.length : Int), (0 : Int) ≤ IntKind.i64.wrap ((↑cs.length : Int) - (1 : Int)) ∧ IntKind.i64.wrap ((↑cs.length : Int) - (1 : Int)) ≤ (↑cs.length : Int), (1 : Nat) ≤ (1 : Nat) ∧ (1 : Int) ≤ m - (↑(List.take (IntKind.i64.wrap ((↑cs.length : Int) - (1 : Int))).toNat cs).length : Int)] (AV.cell (Cell.int IntKind.i32 (0 : Int)), [some (Blk.obj (Ob.ab (Ab.stk (List.take (IntKind.i64.wrap ((↑cs.length : Int) - (1 : Int))).toNat cs ++ [IntKind.u32.wrap (top cs 0 - (1 : Int))]) m o u)))], (0 : Nat), []) := ⟨by kernel_rfl, by kernel_rfl⟩

theorem do29_2 (cs : List Int) (m o u : Int) : Good (evo 14 [.cell (.int .u32 29), sp, anyP, anyP] [stO cs m o u] [0, 1, 1, 0, 0, 0, 0, 0, 0, 1, 1]) [18, 0] [(↑cs.length : Int) < (1 : Int) ∧ (1 : Int) ≤ (65536 : Int), (u != (0 : Int)) = true] (AV.cell (Cell.int IntKind.i32 u), [some (Blk.obj (Ob.ab (Ab.stk cs m o u)))], (1 : Nat), []) := ⟨by kernel_rfl, by kernel_rfl⟩

theorem do29_3 (cs : List Int) (m o u : Int) : Good (evo 14 [.cell (.int .u32 29), sp, anyP, anyP] [stO cs m o u] [0, 1, 1, 0, 0, 0, 0, 0, 0, 2, 1]) [18, 0] [(0 : Int) ≤ (1 : Int) ∧ (1 : Int) ≤ (↑cs.length : Int) ∧ (0 : Int) ≤ (1 : Int) ∧ m - ((↑cs.length : Int) - (1 : Int)) < (1 : Int), (o != (0 : Int)) = true] (AV.cell (Cell.int IntKind.i32 o), [some (Blk.obj (Ob.ab (Ab.stk cs m o u)))], (1 : Nat), []) := ⟨by kernel_rfl, by kernel_rfl⟩

def out29 (cs : List Int) : List Int := [IntKind.u32.wrap (top cs 0 - (1 : Int))]

theorem row29 : DoRow 29 1 1 out29 := by
  refine ⟨fun cs m o u hc h1 h2 => CanOk.knows (j := 0) rfl fun hk => ?_, fun cs m o u h => CanOk.knows (j := 0) rfl fun hk => ?_, fun cs m o u h1 h2 => CanOk.knows (j := 0) rfl fun hk => ?_⟩
  · obtain ⟨i1, i2, i3, i4, i5⟩ := stk_inv hk
    have e : IntKind.i64.wrap ((cs.length : Int) - (1 : Int)) = (cs.length : Int) - (1 : Int) := wrap_len (by omega) (by omega) (by omega)
    have e2 : ((cs.length : Int) - (1 : Int)).toNat = cs.length - 1 := by omega
    have g := do29_1 cs m o u
    simp only [e, e2] at g
    have h := g.canT (E_valid sO_ok 14) (Nat.le_refl 1) (by ((simp only [AllP, and_true]; repeat' apply And.intro) <;> first | trivial | omega | exact ne_true (by assumption) | exact (top_ok (by assumption) _).1 | (simp only [List.length_take, List.length_append, List.length_cons, List.length_nil]; omega)))
    first
      | exact h
      | (have e3 := List.append_nil (cs.take (cs.length - 1)); rw [← e3] at h; exact h)
  · obtain ⟨i1, i2, i3, i4, i5⟩ := stk_inv hk
    exact (do29_2 cs m o u).canT (E_valid sO_ok 14) (Nat.le_refl 1) (by ((simp only [AllP, and_true]; repeat' apply And.intro) <;> first | trivial | omega | exact ne_true (by assumption) | exact (top_ok (by assumption) _).1 | (simp only [List.length_take, List.length_append, List.length_cons, List.length_nil]; omega)))
  · obtain ⟨i1, i2, i3, i4, i5⟩ := stk_inv hk
    exact (do29_3 cs m o u).canT (E_valid sO_ok 14) (Nat.le_refl 1) (by ((simp only [AllP, and_true]; repeat' apply And.intro) <;> first | trivial | omega | exact ne_true (by assumption) | exact (top_ok (by assumption) _).1 | (simp only [List.length_take, List.length_append, List.length_cons, List.length_nil]; omega)))

theorem do30_1 (cs : List Int) (m o u : Int) : Good (evo 14 [.cell (.int .u32 30), sp, anyP, anyP] [stO cs m o u] [0, 1, 1, 0, 0, 0, 0, 0, 0, 0, 0, 0, 0, 0, 0, 1, 0, 0, 0, 0, 0, 0, 0, 0, 0, 0, 0, 0, 0, 0, 0, 0, 1, 0, 0, 0, 0, 0, 1, 1, 0, 6, 1, 6, 0, 0, 0, 0, 0, 0]) [18, 12, 35, 1, 2] [(0 : Int) ≤ (1 : Int) ∧ (1 : Int) ≤ (↑cs.length : Int) ∧ (0 : Int) ≤ (1 : Int) ∧ (1 : Int) ≤ m - ((↑cs.length : Int) - (1 : Int)), (0 : Int) ≤ (0 : Int) ∧ (0 : Int) < (↑cs.length : Int), (0 : Int) ≤ IntKind.i64.wrap ((↑cs.length : Int) - (1 : Int)) ∧ IntKind.i64.wrap ((↑cs.length : Int) - (1 : Int)) ≤ (↑cs.length : Int), (0 : Int) ≤ IntKind.i64.wrap ((↑cs.length : Int) - (1 : Int)) ∧ IntKind.i64.wrap ((↑cs.length : Int) - (1 : Int)) ≤ (↑cs.length : Int), (1 : Nat) ≤ (1 : Nat) ∧ (1 : Int) ≤ m - (↑(List.take (IntKind.i64.wrap ((↑cs.length : Int) - (1 : Int))).toNat cs).length : Int)] (AV.cell (Cell.int IntKind.i32 (0 : Int)), [some (Blk.obj (Ob.ab (Ab.stk (List.take (IntKind.i64.wrap ((↑cs.length : Int) - (1 : Int))).toNat cs ++ [IntKind.u32.wrap (top cs 0 * (2 : Int))]) m o u)))], (0 : Nat), []) := ⟨by kernel_rfl, by kernel_rfl⟩

theorem do30_2 (cs : List Int) (m o u : Int) : Good (evo 14 [.cell (.int .u32 30), sp, anyP, anyP] [stO cs m o u] [0, 1, 1, 0, 0, 0, 0, 0, 0, 1, 1]) [18, 0] [(↑cs.length : Int) < (1 : Int) ∧ (1 : Int) ≤ (65536 : Int), (u != (0 : Int)) = true] (AV.cell (Cell.int IntKind.i32 u), [some (Blk.obj (Ob.ab (Ab.stk cs m o u)))], (1 : Nat), []) := ⟨by kernel_rfl, by kernel_rfl⟩

theorem do30_3 (cs : List Int) (m o u : Int) : Good (evo 14 [.cell (.int .u32 30), sp, anyP, anyP] [stO cs m o u] [0, 1, 1, 0, 0, 0, 0, 0, 0, 2, 1]) [18, 0] [(0 : Int) ≤ (1 : Int) ∧ (1 : Int) ≤ (↑cs.length : Int) ∧ (0 : Int) ≤ (1 : Int) ∧ m - ((↑cs.length : Int) - (1 : Int)) < (1 : Int), (o != (0 : Int)) = true] (AV.cell (Cell.int IntKind.i32 o), [some (Blk.obj (Ob.ab (Ab.stk cs m o u)))], (1 : Nat), []) := ⟨by kernel_rfl, by kernel_rfl⟩

def out30 (cs : List Int) : List Int := [IntKind.u32.wrap (top cs 0 * (2 : Int))]

theorem row30 : DoRow 30 1 1 out30 := by
  refine ⟨fun cs m o u hc h1 h2 => CanOk.knows (j := 0) rfl fun hk => ?_, fun cs m o u h => CanOk.knows (j := 0) rfl fun hk => ?_, fun cs m o u h1 h2 => CanOk.knows (j := 0) rfl fun hk => ?_⟩
  · obtain ⟨i1, i2, i3, i4, i5⟩ := stk_inv hk
    have e : IntKind.i64.wrap ((cs.length : Int) - (1 : Int)) = (cs.length : Int) - (1 : Int) := wrap_len (by omega) (by omega) (by omega)
    have e2 : ((cs.length : Int) - (1 : Int)).toNat = cs.length - 1 := by omega
    have g := do30_1 cs m o u
    simp only [e, e2] at g
    have h := g.canT (E_valid sO_ok 14) (Nat.le_refl 1) (by ((simp only [AllP, and_true]; repeat' apply And.intro) <;> first | trivial | omega | exact ne_true (by assumption) | exact (top_ok (by assumption) _).1 | (simp only [List.length_take, List.length_append, List.length_cons, List.length_nil]; omega)))
    first
      | exact h
      | (have e3 := List.append_nil (cs.take (cs.length - 1)); rw [← e3] at h; exact h)
  · obtain ⟨i1, i2, i3, i4, i5⟩ := stk_inv hk
    exact (do30_2 cs m o u).canT (E_valid sO_ok 14) (Nat.le_refl 1) (by ((simp only [AllP, and_true]; repeat' apply And.intro) <;> first | trivial | omega | exact ne_true (by assumption) | exact (top_ok (by assumption) _).1 | (simp only [List.length_take, List.length_append, List.length_cons, List.length_nil]; omega)))
  · obtain ⟨i1, i2, i3, i4, i5⟩ := stk_inv hk
    exact (do30_3 cs m o u).canT (E_valid sO_ok 14) (Nat.le_refl 1) (by ((simp only [AllP, and_true]; repeat' apply And.intro) <;> first | trivial | omega | exact ne_true (by assumption) | exact (top_ok (by assumption) _).1 | (simp only [List.length_take, List.length_append, List.length_cons, List.length_nil]; omega)))

theorem do31_1 (cs : List Int) (m o u : Int) : Good (evo 14 [.cell (.int .u32 31), sp, anyP, anyP] [stO cs m o u] [0, 1, 1, 0, 0, 0, 0, 0, 0, 0, 0, 0, 0, 0, 0, 1, 0, 0, 0, 0, 0, 0, 0, 0, 0, 0, 0, 0, 0, 0, 0, 0, 1, 0, 0, 0, 0, 0, 0, 1, 1, 0, 6, 1, 6, 0, 0, 0, 0, 0, 0]) [18, 12, 36, 1, 2] [(0 : Int) ≤ (1 : Int) ∧ (1 : Int) ≤ (↑cs.length : Int) ∧ (0 : Int) ≤ (1 : Int) ∧ (1 : Int) ≤ m - ((↑cs.length : Int) - (1 : Int)), (0 : Int) ≤ (0 : Int) ∧ (0 : Int) < (↑cs.length : Int), (0 : Int) ≤ IntKind.i64.wrap ((↑cs.length : Int) - (1 : Int)) ∧ IntKind.i64.wrap ((↑cs.length : Int) - (1 : Int)) ≤ (↑cs.length : Int), (0 : Int) ≤ IntKind.i64.wrap ((↑cs.length : Int) - (1 : Int)) ∧ IntKind.i64.wrap ((↑cs.length : Int) - (1 : Int)) ≤ (↑cs.length : Int), (1 : Nat) ≤ (1 : Nat) ∧ (1 : Int) ≤ m - (↑(List.take (IntKind.i64.wrap ((↑cs.length : Int) - (1 : Int))).toNat cs).length : Int)] (AV.cell (Cell.int IntKind.i32 (0 : Int)), [some (Blk.obj (Ob.ab (Ab.stk (List.take (IntKind.i64.wrap ((↑cs.length : Int) - (1 : Int))).toNat cs ++ [IntKind.u32.wrap ((IntKind.i32.wrap (top cs 0)).fdiv (2 : Int))]) m o u)))], (0 : Nat), []) := ⟨by kernel_rfl, by kernel_rfl⟩

theorem do31_2 (cs : List Int) (m o u : Int) : Good (evo 14 [.cell (.int .u32 31), sp, anyP, anyP] [stO cs m o u] [0, 1, 1, 0, 0, 0, 0, 0, 0, 1, 1]) [18, 0] [(↑cs.length : Int) < (1 : Int) ∧ (1 : Int) ≤ (65536 : Int), (u != (0 : Int)) = true] (AV.cell (Cell.int IntKind.i32 u), [some (Blk.obj (Ob.ab (Ab.stk cs m o u)))], (1 : Nat), []) := ⟨by kernel_rfl, by kernel_rfl⟩

theorem do31_3 (cs : List Int) (m o u : Int) : Good (evo 14 [.cell (.int .u32 31), sp, anyP, anyP] [stO cs m o u] [0, 1, 1, 0, 0, 0, 0, 0, 0, 2, 1]) [18, 0] [(0 : Int) ≤ (1 : Int) ∧ (1 : Int) ≤ (↑cs.length : Int) ∧ (0 : Int) ≤ (1 : Int) ∧ m - ((↑cs.length : Int) - (1 : Int)) < (1 : Int), (o != (0 : Int)) = true] (AV.cell (Cell.int IntKind.i32 o), [some (Blk.obj (Ob.ab (Ab.stk cs m o u)))], (1 : Nat), []) := ⟨by kernel_rfl, by kernel_rfl⟩

def out31 (cs : List Int) : List Int := [IntKind.u32.wrap ((IntKind.i32.wrap (top cs 0)).fdiv (2 : Int))]

theorem row31 : DoRow 31 1 1 out31 := by
  refine ⟨fun cs m o u hc h1 h2 => CanOk.knows (j := 0) rfl fun hk => ?_, fun cs m o u h => CanOk.knows (j := 0) rfl fun hk => ?_, fun cs m o u h1 h2 => CanOk.knows (j := 0) rfl fun hk => ?_⟩
  · obtain ⟨i1, i2, i3, i4, i5⟩ := stk_inv hk
    have e : IntKind.i64.wrap ((cs.length : Int) - (1 : Int)) = (cs.length : Int) - (1 : Int) := wrap_len (by omega) (by omega) (by omega)
    have e2 : ((cs.length : Int) - (1 : Int)).toNat = cs.length - 1 := by omega
    have g := do31_1 cs m o u
    simp only [e, e2] at g
    have h := g.canT (E_valid sO_ok 14) (Nat.le_refl 1) (by ((simp only [AllP, and_true]; repeat' apply And.intro) <;> first | trivial | omega | exact ne_true (by assumption) | exact (top_ok (by assumption) _).1 | (simp only [List.length_take, List.length_append, List.length_cons, List.length_nil]; omega)))
    first
      | exact h
      | (have e3 := List.append_nil (cs.take (cs.length - 1)); rw [← e3] at h; exact h)
  · obtain ⟨i1, i2, i3, i4, i5⟩ := stk_inv hk
    exact (do31_2 cs m o u).canT (E_valid sO_ok 14) (Nat.le_refl 1) (by ((simp only [AllP, and_true]; repeat' apply And.intro) <;> first | trivial | omega | exact ne_true (by assumption) | exact (top_ok (by assumption) _).1 | (simp only [List.length_take, List.length_append, List.length_cons, List.length_nil]; omega)))
  · obtain ⟨i1, i2, i3, i4, i5⟩ := stk_inv hk
    exact (do31_3 cs m o u).canT (E_valid sO_ok 14) (Nat.le_refl 1) (by ((simp only [AllP, and_true]; repeat' apply And.intro) <;> first | trivial | omega | exact ne_true (by assumption) | exact (top_ok (by assumption) _).1 | (simp only [List.length_take, List.length_append, List.length_cons, List.length_nil]; omega)))

theorem do65_1 (cs : List Int) (m o u : Int) : Good (evo 14 [.cell (.int .u32 65), sp, anyP, anyP] [stO cs m o u] [0, 1, 1, 0, 0, 0, 0, 0, 0, 0, 0, 0, 0, 0, 0, 1, 0, 0, 0, 0, 0, 0, 0, 0, 0, 0, 0, 0, 0, 0, 0, 0, 1, 0, 0, 0, 0, 0, 0, 0, 0, 0, 0, 0, 1, 1, 0, 6, 1, 6, 0, 0, 0, 0, 0, 0]) [18, 12, 41, 1, 2] [(0 : Int) ≤ (1 : Int) ∧ (1 : Int) ≤ (↑cs.length : Int) ∧ (0 : Int) ≤ (1 : Int) ∧ (1 : Int) ≤ m - ((↑cs.length : Int) - (1 : Int)), (0 : Int) ≤ (0 : Int) ∧ (0 : Int) < (↑cs.length : Int), (0 : Int) ≤ IntKind.i64.wrap ((↑cs.length : Int) - (1 : Int)) ∧ IntKind.i64.wrap ((↑cs.length : Int) - (1 : Int)) ≤ (↑cs.length : Int), (0 : Int) ≤ IntKind.i64.wrap ((↑cs.length : Int) - (1 : Int)) ∧ IntKind.i64.wrap ((↑cs.length : Int) - (1 : Int)) ≤ (↑cs.length : Int), (1 : Nat) ≤ (1 : Nat) ∧ (1 : Int) ≤ m - (↑(List.take (IntKind.i64.wrap ((↑cs.length : Int) - (1 : Int))).toNat cs).length : Int)] (AV.cell (Cell.int IntKind.i32 (0 : Int)), [some (Blk.obj (Ob.ab (Ab.stk (List.take (IntKind.i64.wrap ((↑cs.length : Int) - (1 : Int))).toNat cs ++ [IntKind.u32.wrap (top cs 0 + (4 : Int))]) m o u)))], (0 : Nat), []) := ⟨by kernel_rfl, by kernel_rfl⟩

theorem do65_2 (cs : List Int) (m o u : Int) : Good (evo 14 [.cell (.int .u32 65), sp, anyP, anyP] [stO cs m o u] [0, 1, 1, 0, 0, 0, 0, 0, 0, 1, 1]) [18, 0] [(↑cs.length : Int) < (1 : Int) ∧ (1 : Int) ≤ (65536 : Int), (u != (0 : Int)) = true] (AV.cell (Cell.int IntKind.i32 u), [some (Blk.obj (Ob.ab (Ab.stk cs m o u)))], (1 : Nat), []) := ⟨by kernel_rfl, by kernel_rfl⟩

theorem do65_3 (cs : List Int) (m o u : Int) : Good (evo 14 [.cell (.int .u32 65), sp, anyP, anyP] [stO cs m o u] [0, 1, 1, 0, 0, 0, 0, 0, 0, 2, 1]) [18, 0] [(0 : Int) ≤ (1 : Int) ∧ (1 : Int) ≤ (↑cs.length : Int) ∧ (0 : Int) ≤ (1 : Int) ∧ m - ((↑cs.length : Int) - (1 : Int)) < (1 : Int), (o != (0 : Int)) = true] (AV.cell (Cell.int IntKind.i32 o), [some (Blk.obj (Ob.ab (Ab.stk cs m o u)))], (1 : Nat), []) := ⟨by kernel_rfl, by kernel_rfl⟩

def out65 (cs : List Int) : List Int := [IntKind.u32.wrap (top cs 0 + (4 : Int))]

theorem row65 : DoRow 65 1 1 out65 := by
  refine ⟨fun cs m o u hc h1 h2 => CanOk.knows (j := 0) rfl fun hk => ?_, fun cs m o u h => CanOk.knows (j := 0) rfl fun hk => ?_, fun cs m o u h1 h2 => CanOk.knows (j := 0) rfl fun hk => ?_⟩
  · obtain ⟨i1, i2, i3, i4, i5⟩ := stk_inv hk
    have e : IntKind.i64.wrap ((cs.length : Int) - (1 : Int)) = (cs.length : Int) - (1 : Int) := wrap_len (by omega) (by omega) (by omega)
    have e2 : ((cs.length : Int) - (1 : Int)).toNat = cs.length - 1 := by omega
    have g := do65_1 cs m o u
    simp only [e, e2] at g
    have h := g.canT (E_valid sO_ok 14) (Nat.le_refl 1) (by ((simp only [AllP, and_true]; repeat' apply And.intro) <;> first | trivial | omega | exact ne_true (by assumption) | exact (top_ok (by assumption) _).1 | (simp only [List.length_take, List.length_append, List.length_cons, List.length_nil]; omega)))
    first
      | exact h
      | (have e3 := List.append_nil (cs.take (cs.length - 1)); rw [← e3] at h; exact h)
  · obtain ⟨i1, i2, i3, i4, i5⟩ := stk_inv hk
    exact (do65_2 cs m o u).canT (E_valid sO_ok 14) (Nat.le_refl 1) (by ((simp only [AllP, and_true]; repeat' apply And.intro) <;> first | trivial | omega | exact ne_true (by assumption) | exact (top_ok (by assumption) _).1 | (simp only [List.length_take, List.length_append, List.length_cons, List.length_nil]; omega)))
  · obtain ⟨i1, i2, i3, i4, i5⟩ := stk_inv hk
    exact (do65_3 cs m o u).canT (E_valid sO_ok 14) (Nat.le_refl 1) (by ((simp only [AllP, and_true]; repeat' apply And.intro) <;> first | trivial | omega | exact ne_true (by assumption) | exact (top_ok (by assumption) _).1 | (simp only [List.length_take, List.length_append, List.length_cons, List.length_nil]; omega)))

theorem do66_1 (cs : List Int) (m o u : Int) : Good (evo 14 [.cell (.int .u32 66), sp, anyP, anyP] [stO cs m o u] [0, 1, 1, 0, 0, 0, 0, 0, 0, 0, 0, 0, 0, 0, 0, 1, 0, 0, 0, 0, 0, 0, 0, 0, 0, 0, 0, 0, 0, 0, 0, 0, 1, 0, 0, 0, 0, 0, 0, 0, 0, 0, 0, 0, 0, 1, 1, 0, 6, 1, 6, 0, 0, 0, 0, 0, 0]) [18, 12, 42, 1, 2] [(0 : Int) ≤ (1 : Int) ∧ (1 : Int) ≤ (↑cs.length : Int) ∧ (0 : Int) ≤ (1 : Int) ∧ (1 : Int) ≤ m - ((↑cs.length : Int) - (1 : Int)), (0 : Int) ≤ (0 : Int) ∧ (0 : Int) < (↑cs.length : Int), (0 : Int) ≤ IntKind.i64.wrap ((↑cs.length : Int) - (1 : Int)) ∧ IntKind.i64.wrap ((↑cs.length : Int) - (1 : Int)) ≤ (↑cs.length : Int), (0 : Int) ≤ IntKind.i64.wrap ((↑cs.length : Int) - (1 : Int)) ∧ IntKind.i64.wrap ((↑cs.length : Int) - (1 : Int)) ≤ (↑cs.length : Int), (1 : Nat) ≤ (1 : Nat) ∧ (1 : Int) ≤ m - (↑(List.take (IntKind.i64.wrap ((↑cs.length : Int) - (1 : Int))).toNat cs).length : Int)] (AV.cell (Cell.int IntKind.i32 (0 : Int)), [some (Blk.obj (Ob.ab (Ab.stk (List.take (IntKind.i64.wrap ((↑cs.length : Int) - (1 : Int))).toNat cs ++ [IntKind.u32.wrap (top cs 0 * (4 : Int))]) m o u)))], (0 : Nat), []) := ⟨by kernel_rfl, by kernel_rfl⟩

theorem do66_2 (cs : List Int) (m o u : Int) : Good (evo 14 [.cell (.int .u32 66), sp, anyP, anyP] [stO cs m o u] [0, 1, 1, 0, 0, 0, 0, 0, 0, 1, 1]) [18, 0] [(↑cs.length : Int) < (1 : Int) ∧ (1 : Int) ≤ (65536 : Int), (u != (0 : Int)) = true] (AV.cell (Cell.int IntKind.i32 u), [some (Blk.obj (Ob.ab (Ab.stk cs m o u)))], (1 : Nat), []) := ⟨by kernel_rfl, by kernel_rfl⟩

theorem do66_3 (cs : List Int) (m o u : Int) : Good (evo 14 [.cell (.int .u32 66), sp, anyP, anyP] [stO cs m o u] [0, 1, 1, 0, 0, 0, 0, 0, 0, 2, 1]) [18, 0] [(0 : Int) ≤ (1 : Int) ∧ (1 : Int) ≤ (↑cs.length : Int) ∧ (0 : Int) ≤ (1 : Int) ∧ m - ((↑cs.length : Int) - (1 : Int)) < (1 : Int), (o != (0 : Int)) = true] (AV.cell (Cell.int IntKind.i32 o), [some (Blk.obj (Ob.ab (Ab.stk cs m o u)))], (1 : Nat), []) := ⟨by kernel_rfl, by kernel_rfl⟩

def out66 (cs : List Int) : List Int := [IntKind.u32.wrap (top cs 0 * (4 : Int))]

theorem row66 : DoRow 66 1 1 out66 := by
  refine ⟨fun cs m o u hc h1 h2 => CanOk.knows (j := 0) rfl fun hk => ?_, fun cs m o u h => CanOk.knows (j := 0) rfl fun hk => ?_, fun cs m o u h1 h2 => CanOk.knows (j := 0) rfl fun hk => ?_⟩
  · obtain ⟨i1, i2, i3, i4, i5⟩ := stk_inv hk
    have e : IntKind.i64.wrap ((cs.length : Int) - (1 : Int)) = (cs.length : Int) - (1 : Int) := wrap_len (by omega) (by omega) (by omega)
    have e2 : ((cs.length : Int) - (1 : Int)).toNat = cs.length - 1 := by omega
    have g := do66_1 cs m o u
    simp only [e, e2] at g
    have h := g.canT (E_valid sO_ok 14) (Nat.le_refl 1) (by ((simp only [AllP, and_true]; repeat' apply And.intro) <;> first | trivial | omega | exact ne_true (by assumption) | exact (top_ok (by assumption) _).1 | (simp only [List.length_take, List.length_append, List.length_cons, List.length_nil]; omega)))
    first
      | exact h
      | (have e3 := List.append_nil (cs.take (cs.length - 1)); rw [← e3] at h; exact h)
  · obtain ⟨i1, i2, i3, i4, i5⟩ := stk_inv hk
    exact (do66_2 cs m o u).canT (E_valid sO_ok 14) (Nat.le_refl 1) (by ((simp only [AllP, and_true]; repeat' apply And.intro) <;> first | trivial | omega | exact ne_true (by assumption) | exact (top_ok (by assumption) _).1 | (simp only [List.length_take, List.length_append, List.length_cons, List.length_nil]; omega)))
  · obtain ⟨i1, i2, i3, i4, i5⟩ := stk_inv hk
    exact (do66_3 cs m o u).canT (E_valid sO_ok 14) (Nat.le_refl 1) (by ((simp only [AllP, and_true]; repeat' apply And.intro) <;> first | trivial | omega | exact ne_true (by assumption) | exact (top_ok (by assumption) _).1 | (simp only [List.length_take, List.length_append, List.length_cons, List.length_nil]; omega)))

theorem do67_1 (cs : List Int) (m o u : Int) : Good (evo 14 [.cell (.int .u32 67), sp, anyP, anyP] [stO cs m o u] [0, 1, 1, 0, 0, 0, 0, 0, 0, 0, 0, 0, 0, 0, 0, 1, 0, 0, 0, 0, 0, 0, 0, 0, 0, 0, 0, 0, 0, 0, 0, 0, 1, 0, 0, 0, 1, 1, 0, 6, 1, 6, 0, 0, 0, 0, 0, 0]) [18, 12, 33, 1, 2] [(0 : Int) ≤ (1 : Int) ∧ (1 : Int) ≤ (↑cs.length : Int) ∧ (0 : Int) ≤ (1 : Int) ∧ (1 : Int) ≤ m - ((↑cs.length : Int) - (1 : Int)), (0 : Int) ≤ (0 : Int) ∧ (0 : Int) < (↑cs.length : Int), (0 : Int) ≤ IntKind.i64.wrap ((↑cs.length : Int) - (1 : Int)) ∧ IntKind.i64.wrap ((↑cs.length : Int) - (1 : Int)) ≤ (↑cs.length : Int), (0 : Int) ≤ IntKind.i64.wrap ((↑cs.length : Int) - (1 : Int)) ∧ IntKind.i64.wrap ((↑cs.length : Int) - (1 : Int)) ≤ (↑cs.length : Int), (1 : Nat) ≤ (1 : Nat) ∧ (1 : Int) ≤ m - (↑(List.take (IntKind.i64.wrap ((↑cs.length : Int) - (1 : Int))).toNat cs).length : Int)] (AV.cell (Cell.int IntKind.i32 (0 : Int)), [some (Blk.obj (Ob.ab (Ab.stk (List.take (IntKind.i64.wrap ((↑cs.length : Int) - (1 : Int))).toNat cs ++ [IntKind.u32.wrap (top cs 0 + (1 : Int))]) m o u)))], (0 : Nat), []) := ⟨by kernel_rfl, by kernel_rfl⟩

theorem do67_2 (cs : List Int) (m o u : Int) : Good (evo 14 [.cell (.int .u32 67), sp, anyP, anyP] [stO cs m o u] [0, 1, 1, 0, 0, 0, 0, 0, 0, 1, 1]) [18, 0] [(↑cs.length : Int) < (1 : Int) ∧ (1 : Int) ≤ (65536 : Int), (u != (0 : Int)) = true] (AV.cell (Cell.int IntKind.i32 u), [some (Blk.obj (Ob.ab (Ab.stk cs m o u)))], (1 : Nat), []) := ⟨by kernel_rfl, by kernel_rfl⟩

theorem do67_3 (cs : List Int) (m o u : Int) : Good (evo 14 [.cell (.int .u32 67), sp, anyP, anyP] [stO cs m o u] [0, 1, 1, 0, 0, 0, 0, 0, 0, 2, 1]) [18, 0] [(0 : Int) ≤ (1 : Int) ∧ (1 : Int) ≤ (↑cs.length : Int) ∧ (0 : Int) ≤ (1 : Int) ∧ m - ((↑cs.length : Int) - (1 : Int)) < (1 : Int), (o != (0 : Int)) = true] (AV.cell (Cell.int IntKind.i32 o), [some (Blk.obj (Ob.ab (Ab.stk cs m o u)))], (1 : Nat), []) := ⟨by kernel_rfl, by kernel_rfl⟩

def out67 (cs : List Int) : List Int := [IntKind.u32.wrap (top cs 0 + (1 : Int))]

theorem row67 : DoRow 67 1 1 out67 := by
  refine ⟨fun cs m o u hc h1 h2 => CanOk.knows (j := 0) rfl fun hk => ?_, fun cs m o u h => CanOk.knows (j := 0) rfl fun hk => ?_, fun cs m o u h1 h2 => CanOk.knows (j := 0) rfl fun hk => ?_⟩
  · obtain ⟨i1, i2, i3, i4, i5⟩ := stk_inv hk
    have e : IntKind.i64.wrap ((cs.length : Int) - (1 : Int)) = (cs.length : Int) - (1 : Int) := wrap_len (by omega) (by omega) (by omega)
    have e2 : ((cs.length : Int) - (1 : Int)).toNat = cs.length - 1 := by omega
    have g := do67_1 cs m o u
    simp only [e, e2] at g
    have h := g.canT (E_valid sO_ok 14) (Nat.le_refl 1) (by ((simp only [AllP, and_true]; repeat' apply And.intro) <;> first | trivial | omega | exact ne_true (by assumption) | exact (top_ok (by assumption) _).1 | (simp only [List.length_take, List.length_append, List.length_cons, List.length_nil]; omega)))
    first
      | exact h
      | (have e3 := List.append_nil (cs.take (cs.length - 1)); rw [← e3] at h; exact h)
  · obtain ⟨i1, i2, i3, i4, i5⟩ := stk_inv hk
    exact (do67_2 cs m o u).canT (E_valid sO_ok 14) (Nat.le_refl 1) (by ((simp only [AllP, and_true]; repeat' apply And.intro) <;> first | trivial | omega | exact ne_true (by assumption) | exact (top_ok (by assumption) _).1 | (simp only [List.length_take, List.length_append, List.length_cons, List.length_nil]; omega)))
  · obtain ⟨i1, i2, i3, i4, i5⟩ := stk_inv hk
    exact (do67_3 cs m o u).canT (E_valid sO_ok 14) (Nat.le_refl 1) (by ((simp only [AllP, and_true]; repeat' apply And.intro) <;> first | trivial | omega | exact ne_true (by assumption) | exact (top_ok (by assumption) _).1 | (simp only [List.length_take, List.length_append, List.length_cons, List.length_nil]; omega)))

theorem do69_1 (cs : List Int) (m o u : Int) : Good (evo 14 [.cell (.int .u32 69), sp, anyP, anyP] [stO cs m o u] [0, 1, 1, 0, 0, 0, 0, 0, 0, 0, 0, 0, 0, 0, 0, 1, 0, 0, 0, 0, 0, 0, 0, 0, 0, 0, 0, 0, 0, 0, 0, 0, 1, 0, 0, 0, 0, 0, 0, 0, 0, 0, 0, 0, 0, 0, 1, 1, 0, 6, 1, 6, 0, 0, 0, 0, 0, 0]) [18, 12, 43, 1, 2] [(0 : Int) ≤ (1 : Int) ∧ (1 : Int) ≤ (↑cs.length : Int) ∧ (0 : Int) ≤ (1 : Int) ∧ (1 : Int) ≤ m - ((↑cs.length : Int) - (1 : Int)), (0 : Int) ≤ (0 : Int) ∧ (0 : Int) < (↑cs.length : Int), (0 : Int) ≤ IntKind.i64.wrap ((↑cs.length : Int) - (1 : Int)) ∧ IntKind.i64.wrap ((↑cs.length : Int) - (1 : Int)) ≤ (↑cs.length : Int), (0 : Int) ≤ IntKind.i64.wrap ((↑cs.length : Int) - (1 : Int)) ∧ IntKind.i64.wrap ((↑cs.length : Int) - (1 : Int)) ≤ (↑cs.length : Int), (1 : Nat) ≤ (1 : Nat) ∧ (1 : Int) ≤ m - (↑(List.take (IntKind.i64.wrap ((↑cs.length : Int) - (1 : Int))).toNat cs).length : Int)] (AV.cell (Cell.int IntKind.i32 (0 : Int)), [some (Blk.obj (Ob.ab (Ab.stk (List.take (IntKind.i64.wrap ((↑cs.length : Int) - (1 : Int))).toNat cs ++ [IntKind.u32.wrap (↑(BitVec.ofInt (32 : Nat) (IntKind.u32.wrap (top cs 0 + (3 : Int))) &&& ~~~BitVec.ofInt (32 : Nat) (3 : Int)).toNat : Int)]) m o u)))], (0 : Nat), []) := ⟨by kernel_rfl, by kernel_rfl⟩

theorem do69_2 (cs : List Int) (m o u : Int) : Good (evo 14 [.cell (.int .u32 69), sp, anyP, anyP] [stO cs m o u] [0, 1, 1, 0, 0, 0, 0, 0, 0, 1, 1]) [18, 0] [(↑cs.length : Int) < (1 : Int) ∧ (1 : Int) ≤ (65536 : Int), (u != (0 : Int)) = true] (AV.cell (Cell.int IntKind.i32 u), [some (Blk.obj (Ob.ab (Ab.stk cs m o u)))], (1 : Nat), []) := ⟨by kernel_rfl, by kernel_rfl⟩

theorem do69_3 (cs : List Int) (m o u : Int) : Good (evo 14 [.cell (.int .u32 69), sp, anyP, anyP] [stO cs m o u] [0, 1, 1, 0, 0, 0, 0, 0, 0, 2, 1]) [18, 0] [(0 : Int) ≤ (1 : Int) ∧ (1 : Int) ≤ (↑cs.length : Int) ∧ (0 : Int) ≤ (1 : Int) ∧ m - ((↑cs.length : Int) - (1 : Int)) < (1 : Int), (o != (0 : Int)) = true] (AV.cell (Cell.int IntKind.i32 o), [some (Blk.obj (Ob.ab (Ab.stk cs m o u)))], (1 : Nat), []) := ⟨by kernel_rfl, by kernel_rfl⟩

def out69 (cs : List Int) : List Int := [IntKind.u32.wrap (↑(BitVec.ofInt (32 : Nat) (IntKind.u32.wrap (top cs 0 + (3 : Int))) &&& ~~~BitVec.ofInt (32 : Nat) (3 : Int)).toNat : Int)]

theorem row69 : DoRow 69 1 1 out69 := by
  refine ⟨fun cs m o u hc h1 h2 => CanOk.knows (j := 0) rfl fun hk => ?_, fun cs m o u h => CanOk.knows (j := 0) rfl fun hk => ?_, fun cs m o u h1 h2 => CanOk.knows (j := 0) rfl fun hk => ?_⟩
  · obtain ⟨i1, i2, i3, i4, i5⟩ := stk_inv hk
    have e : IntKind.i64.wrap ((cs.length : Int) - (1 : Int)) = (cs.length : Int) - (1 : Int) := wrap_len (by omega) (by omega) (by omega)
    have e2 : ((cs.length : Int) - (1 : Int)).toNat = cs.length - 1 := by omega
    have g := do69_1 cs m o u
    simp only [e, e2] at g
    have h := g.canT (E_valid sO_ok 14) (Nat.le_refl 1) (by ((simp only [AllP, and_true]; repeat' apply And.intro) <;> first | trivial | omega | exact ne_true (by assumption) | exact (top_ok (by assumption) _).1 | (simp only [List.length_take, List.length_append, List.length_cons, List.length_nil]; omega)))
    first
      | exact h
      | (have e3 := List.append_nil (cs.take (cs.length - 1)); rw [← e3] at h; exact h)
  · obtain ⟨i1, i2, i3, i4, i5⟩ := stk_inv hk
    exact (do69_2 cs m o u).canT (E_valid sO_ok 14) (Nat.le_refl 1) (by ((simp only [AllP, and_true]; repeat' apply And.intro) <;> first | trivial | omega | exact ne_true (by assumption) | exact (top_ok (by assumption) _).1 | (simp only [List.length_take, List.length_append, List.length_cons, List.length_nil]; omega)))
  · obtain ⟨i1, i2, i3, i4, i5⟩ := stk_inv hk
    exact (do69_3 cs m o u).canT (E_valid sO_ok 14) (Nat.le_refl 1) (by ((simp only [AllP, and_true]; repeat' apply And.intro) <;> first | trivial | omega | exact ne_true (by assumption) | exact (top_ok (by assumption) _).1 | (simp only [List.length_take, List.length_append, List.length_cons, List.length_nil]; omega)))

end Go.Proofs.Ytnoonoghemgbbaa.Sx
