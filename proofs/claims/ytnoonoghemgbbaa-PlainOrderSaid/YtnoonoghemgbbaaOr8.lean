import Derived.Test.YtnoonoghemgbbaaOr7
import Derived.Laws.Small
/-
  The plain primitives: part 2: a primitive's row by its number.
-/
set_option linter.unusedVariables false
set_option linter.unusedSimpArgs false
set_option maxRecDepth 100000
namespace Go.Proofs.Ytnoonoghemgbbaa.Sx
open Go

theorem wrap_i64 {x : Int} (h1 : -9223372036854775808 ≤ x) (h2 : x ≤ 9223372036854775807) : IntKind.i64.wrap x = x := by rw [IntKind.wrap_i64]; omega
theorem wrap_u32 {x : Int} (h1 : 0 ≤ x) (h2 : x ≤ 4294967295) : IntKind.u32.wrap x = x := by rw [IntKind.wrap_u32]; omega
theorem wrap_u8 {x : Int} (h1 : 0 ≤ x) (h2 : x ≤ 255) : IntKind.u8.wrap x = x := by rw [IntKind.wrap_u8]; omega
theorem wrap_i32 {x : Int} (h1 : -2147483648 ≤ x) (h2 : x ≤ 2147483647) : IntKind.i32.wrap x = x := by rw [IntKind.wrap_i32]; omega

abbrev s1 : List (Nat × Sum Nob) := [(35, quietSum tableG)]
theorem s1_ok : AllV Try.prog s1 := ⟨table_ok, trivial⟩

def noRow : AV := .tup [.agg [.int .u32 0, .str [], .int .i64 0, .int .i64 0, .int .i64 0, .bool false, .bool false], .cell (.bool false)]
def isRow (i : Nat) : AV := .tup [.agg (pRow i), .cell (.bool true)]

theorem get_1 (n : Int) : Good (quietE (E s1 17 [.cell (.int .u32 n)] [] [0, 0, 0, 0, 0, 0, 0, 0, 0, 0, 0, 0, 0, 0])) [0, 0, 0, 1, 0, 0, 0, 0, 0, 0, 0] [(decide (n ≥ (1 : Int)) == true) = false, (decide (n ≥ (1 : Int)) == true) = false, decide (n ≥ (1 : Int)) = false, (decide (n ≥ (101 : Int)) == true) = false, (decide (n ≥ (101 : Int)) == true) = false, (decide (n ≥ (101 : Int)) == true) = false, (decide (n ≥ (101 : Int)) == true) = false, (decide (n ≥ (101 : Int)) == true) = false, (decide (n ≥ (101 : Int)) == true) = false, (decide (n ≥ (101 : Int)) == true) = false, decide (n ≥ (101 : Int)) = false]
    (noRow, []) := ⟨by kernel_rfl, by kernel_rfl⟩

theorem get_2 (n : Int) : Good (quietE (E s1 17 [.cell (.int .u32 n)] [] [1, 1, 1, 1, 1, 0, 0])) [0, 0, 0, 0, 0, 0] [(decide (n ≥ (1 : Int)) == true) = true, (decide (n ≥ (1 : Int)) == true) = true, decide (n ≥ (1 : Int)) = true, decide (n ≤ (73 : Int)) = true, decide (IntKind.i64.wrap (IntKind.i64.wrap n - (1 : Int)) ≥ (0 : Int)) = true, (0 : Int) ≤ IntKind.i64.wrap (IntKind.i64.wrap n - (1 : Int)) ∧ IntKind.i64.wrap (IntKind.i64.wrap n - (1 : Int)) < (↑(113 : Nat) : Int) ∧ pTable.length = (113 : Nat) * 7 ∧ (0 : Nat) < 7]
    (isRow (IntKind.i64.wrap (IntKind.i64.wrap n - (1 : Int))).toNat, []) := ⟨by kernel_rfl, by kernel_rfl⟩

theorem get_3 (n : Int) : Good (quietE (E s1 17 [.cell (.int .u32 n)] [] [1, 1, 1, 0, 0, 0, 0, 0, 0, 0, 0, 0, 0, 0])) [0, 0, 0, 0, 0, 0, 0, 0, 0, 0, 0, 0] [(decide (n ≥ (1 : Int)) == true) = true, (decide (n ≥ (1 : Int)) == true) = true, decide (n ≥ (1 : Int)) = true, decide (n ≤ (73 : Int)) = false, (decide (n ≥ (101 : Int)) == true) = false, (decide (n ≥ (101 : Int)) == true) = false, (decide (n ≥ (101 : Int)) == true) = false, (decide (n ≥ (101 : Int)) == true) = false, (decide (n ≥ (101 : Int)) == true) = false, (decide (n ≥ (101 : Int)) == true) = false, (decide (n ≥ (101 : Int)) == true) = false, decide (n ≥ (101 : Int)) = false]
    (noRow, []) := ⟨by kernel_rfl, by kernel_rfl⟩

theorem get_4 (n : Int) : Good (quietE (E s1 17 [.cell (.int .u32 n)] [] [1, 1, 1, 0, 1, 1, 0, 1, 1, 1, 1, 1, 1, 1, 1, 0, 0])) [0, 0, 0, 0, 0, 0, 0, 0, 0, 0, 1, 0, 0, 1, 0] [(decide (n ≥ (1 : Int)) == true) = true, (decide (n ≥ (1 : Int)) == true) = true, decide (n ≥ (1 : Int)) = true, decide (n ≤ (73 : Int)) = false, (decide (n ≥ (101 : Int)) == true) = true, (decide (n ≥ (101 : Int)) == true) = true, (decide (n ≥ (101 : Int)) == true) = true, (decide (n ≥ (101 : Int)) == true) = true, (decide (n ≥ (101 : Int)) == true) = true, (decide (n ≥ (101 : Int)) == true) = true, (decide (n ≥ (101 : Int)) == true) = true, decide (n ≥ (101 : Int)) = true, decide (n < 141) = true, decide (IntKind.i64.wrap (IntKind.i64.wrap (IntKind.i64.wrap n - (101 : Int)) + (73 : Int)) ≥ (0 : Int)) = true, (0 : Int) ≤ IntKind.i64.wrap (IntKind.i64.wrap (IntKind.i64.wrap n - (101 : Int)) + (73 : Int)) ∧ IntKind.i64.wrap (IntKind.i64.wrap (IntKind.i64.wrap n - (101 : Int)) + (73 : Int)) < (↑(113 : Nat) : Int) ∧ pTable.length = (113 : Nat) * 7 ∧ (0 : Nat) < 7]
    (isRow (IntKind.i64.wrap (IntKind.i64.wrap (IntKind.i64.wrap n - (101 : Int)) + (73 : Int))).toNat, []) := ⟨by kernel_rfl, by kernel_rfl⟩

theorem get_5 (n : Int) : Good (quietE (E s1 17 [.cell (.int .u32 n)] [] [1, 1, 1, 0, 1, 1, 0, 1, 1, 1, 1, 1, 1, 0, 0])) [0, 0, 0, 0, 0, 0, 0, 0, 0, 0, 1, 0, 0] [(decide (n ≥ (1 : Int)) == true) = true, (decide (n ≥ (1 : Int)) == true) = true, decide (n ≥ (1 : Int)) = true, decide (n ≤ (73 : Int)) = false, (decide (n ≥ (101 : Int)) == true) = true, (decide (n ≥ (101 : Int)) == true) = true, (decide (n ≥ (101 : Int)) == true) = true, (decide (n ≥ (101 : Int)) == true) = true, (decide (n ≥ (101 : Int)) == true) = true, (decide (n ≥ (101 : Int)) == true) = true, (decide (n ≥ (101 : Int)) == true) = true, decide (n ≥ (101 : Int)) = true, decide (n < 141) = false]
    (noRow, []) := ⟨by kernel_rfl, by kernel_rfl⟩

theorem pTable_length : pTable.length = 113 * 7 := by kernel_rfl

/-- A primitive by its number. -/
def getG : List AV → Option (List QWay)
  | [.cell (.int .u32 n)] => some [
      ⟨[cd (1 ≤ n ∧ n ≤ 73)], decide (1 ≤ n) && decide (n ≤ 73), isRow (n - 1).toNat⟩,
      ⟨[cd (101 ≤ n ∧ n ≤ 140)], decide (101 ≤ n) && decide (n ≤ 140), isRow (n - 28).toNat⟩,
      ⟨[cd (n ≤ 4294967295 ∧ ¬ (1 ≤ n ∧ n ≤ 73) ∧ ¬ (101 ≤ n ∧ n ≤ 140))], true, noRow⟩]
  | _ => none

theorem row_flat (i : Nat) : flatV (isRow i) = true := rfl

theorem get_ok : Valid Try.prog 17 (quietSum (D := Nob) getG) := quiet_of fun args l h => by
  unfold getG at h
  split at h
  · rename_i n
    cases h
    have hv := E_valid s1_ok 17
    refine ⟨rfl, fun h => ⟨rfl, ?_⟩, fun h => ⟨rfl, ?_⟩, fun h => ⟨rfl, ?_⟩, trivial⟩
    · obtain ⟨⟨h1, h2⟩, _⟩ := h
      have e : IntKind.i64.wrap (IntKind.i64.wrap n - 1) = n - 1 := by rw [wrap_i64 (x := n) (by omega) (by omega), wrap_i64 (by omega) (by omega)]
      have := (get_2 n).quiet hv (by rw [e]; simp only [AllP, pTable_length]; simp; omega)
      rwa [e] at this
    · obtain ⟨⟨h1, h2⟩, _⟩ := h
      have e : IntKind.i64.wrap (IntKind.i64.wrap (IntKind.i64.wrap n - (101 : Int)) + (73 : Int)) = n - 28 := by
        rw [wrap_i64 (x := n) (by omega) (by omega), wrap_i64 (x := n - 101) (by omega) (by omega), wrap_i64 (by omega) (by omega)]; omega
      have := (get_4 n).quiet hv (by rw [e]; simp only [AllP, pTable_length]; simp; omega)
      rwa [e] at this
    · obtain ⟨⟨h0, h1, h2⟩, _⟩ := h
      by_cases c1 : n < 1
      · exact (get_1 n).quiet hv (by simp only [AllP]; simp; omega)
      · by_cases c2 : n < 101
        · exact (get_3 n).quiet hv (by simp only [AllP]; simp; omega)
        · exact (get_5 n).quiet hv (by simp only [AllP]; simp; omega)
  · cases h

end Go.Proofs.Ytnoonoghemgbbaa.Sx

/-
  Stacks: part 1: what the methods of a stack do, way by way (printed by the explorer).
-/
set_option linter.unusedSimpArgs false
set_option maxRecDepth 100000
set_option linter.unusedVariables false
namespace Go.Proofs.Ytnoonoghemgbbaa.Sx
open Go

abbrev sv1 (m o u : Int) : Heap Nob := [some (.cells true 1 fun _ => .raw [.slice true NIL 0 0 0 none 1, .int .i64 m, .int .i32 o, .int .i32 u])]
abbrev sv2 (len : Nat) (l : List Int) (m o u : Int) : Heap Nob := [some (.cells true 1 fun _ => .raw [.slice false 1 0 0 len none 1, .int .i64 m, .int .i32 o, .int .i32 u]), some (.cells true 1 fun _ => .ints .u32 l)]
abbrev sv3 (len : Nat) (l : List Int) (m o u : Int) (xs : List Int) : Heap Nob := [some (.cells true 1 fun _ => .raw [.slice false 2 0 0 len none 1, .int .i64 m, .int .i32 o, .int .i32 u]), some (.cells true 1 fun _ => .ints .u32 xs), some (.cells true 1 fun _ => .ints .u32 l)]
abbrev sv4 (m o u : Int) (xs : List Int) : Heap Nob := [some (.cells true 1 fun _ => .raw [.slice true NIL 0 0 0 none 1, .int .i64 m, .int .i32 o, .int .i32 u]), some (.cells true 1 fun _ => .ints .u32 xs)]
abbrev sp : AV := .cell (.ptr false 0 0 0)
abbrev i64 (n : Int) : AV := .cell (.int .i64 n)
abbrev inS (f : FuncId) (args : List AV) (H : Heap Nob) : FuncId × List AV × Heap Nob := (f, args, H)
def peekI (len : Nat) (l : List Int) (m o u i : Int) := inS 27 [sp, i64 i] (sv2 len l m o u)
def peekN (m o u i : Int) := inS 27 [sp, i64 i] (sv1 m o u)
def mayI (len : Nat) (l : List Int) (m o u a b : Int) := inS 25 [sp, i64 a, i64 b] (sv2 len l m o u)
def mayN (m o u a b : Int) := inS 25 [sp, i64 a, i64 b] (sv1 m o u)
def lenI (len : Nat) (l : List Int) (m o u : Int) := inS 30 [sp] (sv2 len l m o u)
def lenN (m o u : Int) := inS 30 [sp] (sv1 m o u)
def cutI (len : Nat) (l : List Int) (m o u a : Int) := inS 29 [sp, i64 a] (sv2 len l m o u)
def cutN (m o u a : Int) := inS 29 [sp, i64 a] (sv1 m o u)
def popI (len : Nat) (l : List Int) (m o u : Int) := inS 40 [sp] (sv2 len l m o u)
def popN (m o u : Int) := inS 40 [sp] (sv1 m o u)
def pushI (len : Nat) (l : List Int) (m o u : Int) (k : Nat) (c : Option Nat) (xs : List Int) := inS 21 [sp, .cell (.slice false 1 0 0 k c 1)] (sv3 len l m o u xs)
def pushE (len : Nat) (l : List Int) (m o u : Int) := inS 21 [sp, .cell (.slice true NIL 0 0 0 none 1)] (sv2 len l m o u)
def pushN (m o u : Int) (k : Nat) (c : Option Nat) (xs : List Int) := inS 21 [sp, .cell (.slice false 1 0 0 k c 1)] (sv4 m o u xs)
def pushM (m o u : Int) := inS 21 [sp, .cell (.slice true NIL 0 0 0 none 1)] (sv1 m o u)
noncomputable abbrev ev := E ([] : List (Nat × Sum Nob))

theorem peekI_1 (len : Nat) (l : List Int) (m : Int) (o : Int) (u : Int) (i : Int) : Good (ev (peekI len l m o u i).1 (peekI len l m o u i).2.1 (peekI len l m o u i).2.2 [1, 1, 1, 0, 1, 0, 0, 0, 0]) [0, 0, 0, 4, 0, 0, 8, 0] [(decide (i < (0 : Int)) == false) = true, (decide (i < (0 : Int)) == false) = true, (decide (i < (0 : Int)) == false) = true, (decide (i < (0 : Int)) == false) = true, decide (i < (0 : Int)) = false, decide (i ≥ (↑len : Int)) = false, false = false ∧ (0 : Int) ≤ IntKind.i64.wrap (IntKind.i64.wrap ((↑len : Int) - (1 : Int)) - i) ∧ IntKind.i64.wrap (IntKind.i64.wrap ((↑len : Int) - (1 : Int)) - i) < (↑len : Int), (cd (false = false)).p ∧ (cand (cd ((0 : Nat) < (1 : Nat))) (cand (cd ((0 : Nat) + (IntKind.i64.wrap (IntKind.i64.wrap ((↑len : Int) - (1 : Int)) - i)).toNat * 1 < l.length)) (cd True))).p] (AV.tup [AV1.cell (Cell.int IntKind.u32 (l.getD ((0 : Nat) + (IntKind.i64.wrap (IntKind.i64.wrap ((↑len : Int) - (1 : Int)) - i)).toNat * 1) (0 : Int))), AV1.cell (Cell.int IntKind.i32 (0 : Int))], [some (Blk.cells true (1 : Nat) fun (x : Nat) => Cont.raw [Cell.slice false (1 : Nat) (0 : Nat) (0 : Nat) len none (1 : Nat), Cell.int IntKind.i64 m, Cell.int IntKind.i32 o, Cell.int IntKind.i32 u]), some (Blk.cells true (1 : Nat) fun (x : Nat) => Cont.ints IntKind.u32 l)], (2 : Nat), []) := ⟨by kernel_rfl, by kernel_rfl⟩

theorem peekI_2 (len : Nat) (l : List Int) (m : Int) (o : Int) (u : Int) (i : Int) : Good (ev (peekI len l m o u i).1 (peekI len l m o u i).2.1 (peekI len l m o u i).2.2 [1, 1, 1, 0, 1, 0, 1, 1, 1, 1, 1, 1, 0, 0, 1]) [0, 0, 0, 4, 0, 0, 9, 3] [(decide (i < (0 : Int)) == false) = true, (decide (i < (0 : Int)) == false) = true, (decide (i < (0 : Int)) == false) = true, (decide (i < (0 : Int)) == false) = true, decide (i < (0 : Int)) = false, decide (i ≥ (↑len : Int)) = true, (m == (0 : Int)) = false, (u != (0 : Int)) = true] (AV.tup [AV1.cell (Cell.int IntKind.u32 (0 : Int)), AV1.cell (Cell.int IntKind.i32 u)], [some (Blk.cells true (1 : Nat) fun (x : Nat) => Cont.raw [Cell.slice false (1 : Nat) (0 : Nat) (0 : Nat) len none (1 : Nat), Cell.int IntKind.i64 m, Cell.int IntKind.i32 o, Cell.int IntKind.i32 u]), some (Blk.cells true (1 : Nat) fun (x : Nat) => Cont.ints IntKind.u32 l)], (2 : Nat), []) := ⟨by kernel_rfl, by kernel_rfl⟩

theorem peekI_3 (len : Nat) (l : List Int) (m : Int) (o : Int) (u : Int) (i : Int) : Good (ev (peekI len l m o u i).1 (peekI len l m o u i).2.1 (peekI len l m o u i).2.2 [0, 0, 0, 0, 1, 1, 1, 1, 1, 1, 1, 0, 0, 1]) [0, 0, 0, 0, 0, 10, 3] [(decide (i < (0 : Int)) == false) = false, (decide (i < (0 : Int)) == false) = false, (decide (i < (0 : Int)) == false) = false, (decide (i < (0 : Int)) == false) = false, decide (i < (0 : Int)) = true, (m == (0 : Int)) = false, (u != (0 : Int)) = true] (AV.tup [AV1.cell (Cell.int IntKind.u32 (0 : Int)), AV1.cell (Cell.int IntKind.i32 u)], [some (Blk.cells true (1 : Nat) fun (x : Nat) => Cont.raw [Cell.slice false (1 : Nat) (0 : Nat) (0 : Nat) len none (1 : Nat), Cell.int IntKind.i64 m, Cell.int IntKind.i32 o, Cell.int IntKind.i32 u]), some (Blk.cells true (1 : Nat) fun (x : Nat) => Cont.ints IntKind.u32 l)], (2 : Nat), []) := ⟨by kernel_rfl, by kernel_rfl⟩

theorem peekN_1 (m : Int) (o : Int) (u : Int) (i : Int) : Good (ev (peekN m o u i).1 (peekN m o u i).2.1 (peekN m o u i).2.2 [1, 1, 1, 0, 1, 0, 1, 1, 1, 1, 1, 1, 0, 0, 1]) [0, 0, 0, 4, 0, 0, 9, 3] [(decide (i < (0 : Int)) == false) = true, (decide (i < (0 : Int)) == false) = true, (decide (i < (0 : Int)) == false) = true, (decide (i < (0 : Int)) == false) = true, decide (i < (0 : Int)) = false, decide (i ≥ (0 : Int)) = true, (m == (0 : Int)) = false, (u != (0 : Int)) = true] (AV.tup [AV1.cell (Cell.int IntKind.u32 (0 : Int)), AV1.cell (Cell.int IntKind.i32 u)], [some (Blk.cells true (1 : Nat) fun (x : Nat) => Cont.raw [Cell.slice true (1000000007 : Nat) (0 : Nat) (0 : Nat) (0 : Nat) none (1 : Nat), Cell.int IntKind.i64 m, Cell.int IntKind.i32 o, Cell.int IntKind.i32 u])], (1 : Nat), []) := ⟨by kernel_rfl, by kernel_rfl⟩

theorem peekN_2 (m : Int) (o : Int) (u : Int) (i : Int) : Good (ev (peekN m o u i).1 (peekN m o u i).2.1 (peekN m o u i).2.2 [0, 0, 0, 0, 1, 1, 1, 1, 1, 1, 1, 0, 0, 1]) [0, 0, 0, 0, 0, 10, 3] [(decide (i < (0 : Int)) == false) = false, (decide (i < (0 : Int)) == false) = false, (decide (i < (0 : Int)) == false) = false, (decide (i < (0 : Int)) == false) = false, decide (i < (0 : Int)) = true, (m == (0 : Int)) = false, (u != (0 : Int)) = true] (AV.tup [AV1.cell (Cell.int IntKind.u32 (0 : Int)), AV1.cell (Cell.int IntKind.i32 u)], [some (Blk.cells true (1 : Nat) fun (x : Nat) => Cont.raw [Cell.slice true (1000000007 : Nat) (0 : Nat) (0 : Nat) (0 : Nat) none (1 : Nat), Cell.int IntKind.i64 m, Cell.int IntKind.i32 o, Cell.int IntKind.i32 u])], (1 : Nat), []) := ⟨by kernel_rfl, by kernel_rfl⟩

theorem mayI_1 (len : Nat) (l : List Int) (m : Int) (o : Int) (u : Int) (a : Int) (b : Int) : Good (ev (mayI len l m o u a b).1 (mayI len l m o u a b).2.1 (mayI len l m o u a b).2.2 [0, 1, 1, 1, 1, 1, 0, 1, 1, 0, 0, 0]) [13, 0, 0, 0, 3] [((m == (0 : Int)) == false) = true, ((m == (0 : Int)) == false) = true, (m == (0 : Int)) = false, decide (IntKind.i64.wrap ((↑len : Int) - if (0 : Int) > a then (0 : Int) else a) < (0 : Int)) = false, decide ((if (0 : Int) > b then (0 : Int) else b) > IntKind.i64.wrap (m - IntKind.i64.wrap ((↑len : Int) - if (0 : Int) > a then (0 : Int) else a))) = false] (AV.cell (Cell.int IntKind.i32 (0 : Int)), [some (Blk.cells true (1 : Nat) fun (x : Nat) => Cont.raw [Cell.slice false (1 : Nat) (0 : Nat) (0 : Nat) len none (1 : Nat), Cell.int IntKind.i64 m, Cell.int IntKind.i32 o, Cell.int IntKind.i32 u]), some (Blk.cells true (1 : Nat) fun (x : Nat) => Cont.ints IntKind.u32 l)], (2 : Nat), []) := ⟨by kernel_rfl, by kernel_rfl⟩

theorem mayI_2 (len : Nat) (l : List Int) (m : Int) (o : Int) (u : Int) (a : Int) (b : Int) : Good (ev (mayI len l m o u a b).1 (mayI len l m o u a b).2.1 (mayI len l m o u a b).2.2 [0, 1, 1, 1, 1, 1, 0, 1, 1, 0, 1, 1, 1, 1, 1, 1, 0, 0]) [13, 0, 0, 0, 9] [((m == (0 : Int)) == false) = true, ((m == (0 : Int)) == false) = true, (m == (0 : Int)) = false, decide (IntKind.i64.wrap ((↑len : Int) - if (0 : Int) > a then (0 : Int) else a) < (0 : Int)) = true, (m == (0 : Int)) = false] (AV.cell (Cell.int IntKind.i32 u), [some (Blk.cells true (1 : Nat) fun (x : Nat) => Cont.raw [Cell.slice false (1 : Nat) (0 : Nat) (0 : Nat) len none (1 : Nat), Cell.int IntKind.i64 m, Cell.int IntKind.i32 o, Cell.int IntKind.i32 u]), some (Blk.cells true (1 : Nat) fun (x : Nat) => Cont.ints IntKind.u32 l)], (2 : Nat), []) := ⟨by kernel_rfl, by kernel_rfl⟩

theorem mayI_3 (len : Nat) (l : List Int) (m : Int) (o : Int) (u : Int) (a : Int) (b : Int) : Good (ev (mayI len l m o u a b).1 (mayI len l m o u a b).2.1 (mayI len l m o u a b).2.2 [0, 1, 1, 1, 1, 1, 0, 1, 1, 0, 0, 1]) [13, 0, 0, 0, 3] [((m == (0 : Int)) == false) = true, ((m == (0 : Int)) == false) = true, (m == (0 : Int)) = false, decide (IntKind.i64.wrap ((↑len : Int) - if (0 : Int) > a then (0 : Int) else a) < (0 : Int)) = false, decide ((if (0 : Int) > b then (0 : Int) else b) > IntKind.i64.wrap (m - IntKind.i64.wrap ((↑len : Int) - if (0 : Int) > a then (0 : Int) else a))) = true] (AV.cell (Cell.int IntKind.i32 o), [some (Blk.cells true (1 : Nat) fun (x : Nat) => Cont.raw [Cell.slice false (1 : Nat) (0 : Nat) (0 : Nat) len none (1 : Nat), Cell.int IntKind.i64 m, Cell.int IntKind.i32 o, Cell.int IntKind.i32 u]), some (Blk.cells true (1 : Nat) fun (x : Nat) => Cont.ints IntKind.u32 l)], (2 : Nat), []) := ⟨by kernel_rfl, by kernel_rfl⟩

theorem mayN_1 (m : Int) (o : Int) (u : Int) (a : Int) (b : Int) : Good (ev (mayN m o u a b).1 (mayN m o u a b).2.1 (mayN m o u a b).2.2 [0, 1, 1, 1, 1, 1, 0, 1, 1, 0, 0, 0]) [13, 0, 0, 0, 3] [((m == (0 : Int)) == false) = true, ((m == (0 : Int)) == false) = true, (m == (0 : Int)) = false, decide (IntKind.i64.wrap ((0 : Int) - if (0 : Int) > a then (0 : Int) else a) < (0 : Int)) = false, decide ((if (0 : Int) > b then (0 : Int) else b) > IntKind.i64.wrap (m - IntKind.i64.wrap ((0 : Int) - if (0 : Int) > a then (0 : Int) else a))) = false] (AV.cell (Cell.int IntKind.i32 (0 : Int)), [some (Blk.cells true (1 : Nat) fun (x : Nat) => Cont.raw [Cell.slice true (1000000007 : Nat) (0 : Nat) (0 : Nat) (0 : Nat) none (1 : Nat), Cell.int IntKind.i64 m, Cell.int IntKind.i32 o, Cell.int IntKind.i32 u])], (1 : Nat), []) := ⟨by kernel_rfl, by kernel_rfl⟩

theorem mayN_2 (m : Int) (o : Int) (u : Int) (a : Int) (b : Int) : Good (ev (mayN m o u a b).1 (mayN m o u a b).2.1 (mayN m o u a b).2.2 [0, 1, 1, 1, 1, 1, 0, 1, 1, 0, 1, 1, 1, 1, 1, 1, 0, 0]) [13, 0, 0, 0, 9] [((m == (0 : Int)) == false) = true, ((m == (0 : Int)) == false) = true, (m == (0 : Int)) = false, decide (IntKind.i64.wrap ((0 : Int) - if (0 : Int) > a then (0 : Int) else a) < (0 : Int)) = true, (m == (0 : Int)) = false] (AV.cell (Cell.int IntKind.i32 u), [some (Blk.cells true (1 : Nat) fun (x : Nat) => Cont.raw [Cell.slice true (1000000007 : Nat) (0 : Nat) (0 : Nat) (0 : Nat) none (1 : Nat), Cell.int IntKind.i64 m, Cell.int IntKind.i32 o, Cell.int IntKind.i32 u])], (1 : Nat), []) := ⟨by kernel_rfl, by kernel_rfl⟩

theorem mayN_3 (m : Int) (o : Int) (u : Int) (a : Int) (b : Int) : Good (ev (mayN m o u a b).1 (mayN m o u a b).2.1 (mayN m o u a b).2.2 [0, 1, 1, 1, 1, 1, 0, 1, 1, 0, 0, 1]) [13, 0, 0, 0, 3] [((m == (0 : Int)) == false) = true, ((m == (0 : Int)) == false) = true, (m == (0 : Int)) = false, decide (IntKind.i64.wrap ((0 : Int) - if (0 : Int) > a then (0 : Int) else a) < (0 : Int)) = false, decide ((if (0 : Int) > b then (0 : Int) else b) > IntKind.i64.wrap (m - IntKind.i64.wrap ((0 : Int) - if (0 : Int) > a then (0 : Int) else a))) = true] (AV.cell (Cell.int IntKind.i32 o), [some (Blk.cells true (1 : Nat) fun (x : Nat) => Cont.raw [Cell.slice true (1000000007 : Nat) (0 : Nat) (0 : Nat) (0 : Nat) none (1 : Nat), Cell.int IntKind.i64 m, Cell.int IntKind.i32 o, Cell.int IntKind.i32 u])], (1 : Nat), []) := ⟨by kernel_rfl, by kernel_rfl⟩

theorem lenI_1 (len : Nat) (l : List Int) (m : Int) (o : Int) (u : Int) : Good (ev (lenI len l m o u).1 (lenI len l m o u).2.1 (lenI len l m o u).2.2 [0]) [] [] (AV.cell (Cell.int IntKind.i64 (↑len : Int)), [some (Blk.cells true (1 : Nat) fun (x : Nat) => Cont.raw [Cell.slice false (1 : Nat) (0 : Nat) (0 : Nat) len none (1 : Nat), Cell.int IntKind.i64 m, Cell.int IntKind.i32 o, Cell.int IntKind.i32 u]), some (Blk.cells true (1 : Nat) fun (x : Nat) => Cont.ints IntKind.u32 l)], (2 : Nat), []) := ⟨by kernel_rfl, by kernel_rfl⟩

theorem lenN_1 (m : Int) (o : Int) (u : Int) : Good (ev (lenN m o u).1 (lenN m o u).2.1 (lenN m o u).2.2 [0]) [] [] (AV.cell (Cell.int IntKind.i64 (0 : Int)), [some (Blk.cells true (1 : Nat) fun (x : Nat) => Cont.raw [Cell.slice true (1000000007 : Nat) (0 : Nat) (0 : Nat) (0 : Nat) none (1 : Nat), Cell.int IntKind.i64 m, Cell.int IntKind.i32 o, Cell.int IntKind.i32 u])], (1 : Nat), []) := ⟨by kernel_rfl, by kernel_rfl⟩

theorem cutI_1 (len : Nat) (l : List Int) (m : Int) (o : Int) (u : Int) (a : Int) : Good (ev (cutI len l m o u a).1 (cutI len l m o u a).2.1 (cutI len l m o u a).2.2 [1, 1, 1, 0, 1, 0, 1, 1, 0, 1, 1, 1, 1, 1, 0, 0, 0]) [0, 0, 0, 4, 0, 0, 0, 0, 9, 3] [(decide (a < (0 : Int)) == false) = true, (decide (a < (0 : Int)) == false) = true, (decide (a < (0 : Int)) == false) = true, (decide (a < (0 : Int)) == false) = true, decide (a < (0 : Int)) = false, (decide (a > (↑len : Int)) == false) = true, (decide (a > (↑len : Int)) == false) = true, decide (a > (↑len : Int)) = false, (m == (0 : Int)) = false, True ∧ (cand (cd ((0 : Int) ≤ a)) (cand (cd True) (cand (cd ((none : Option Operand).isSome = true → (some (Operand.tmp (31 : Nat))).isSome = true)) (cd ((1 : Nat) = 1 ∧ (0 : Nat) ≤ a.toNat ∧ a.toNat ≤ len ∧ ((0 : Nat) = (0 : Nat) ∨ (0 : Nat) < len)))))).p] (AV.cell (Cell.int IntKind.i32 (0 : Int)), [some (Blk.cells true (1 : Nat) fun (x : Nat) => Cont.raw [Cell.slice false (1 : Nat) (0 : Nat) (0 : Nat) (a.toNat - (0 : Nat)) none (1 : Nat), Cell.int IntKind.i64 m, Cell.int IntKind.i32 o, Cell.int IntKind.i32 u]), some (Blk.cells true (1 : Nat) fun (x : Nat) => Cont.ints IntKind.u32 l)], (0 : Nat), []) := ⟨by kernel_rfl, by kernel_rfl⟩

theorem cutN_1 (m : Int) (o : Int) (u : Int) (a : Int) : Good (ev (cutN m o u a).1 (cutN m o u a).2.1 (cutN m o u a).2.2 [1, 1, 1, 0, 1, 0, 1, 1, 0, 1, 1, 1, 1, 1, 0, 0, 0]) [0, 0, 0, 4, 0, 0, 0, 0, 9, 3] [(decide (a < (0 : Int)) == false) = true, (decide (a < (0 : Int)) == false) = true, (decide (a < (0 : Int)) == false) = true, (decide (a < (0 : Int)) == false) = true, decide (a < (0 : Int)) = false, (decide (a > (0 : Int)) == false) = true, (decide (a > (0 : Int)) == false) = true, decide (a > (0 : Int)) = false, (m == (0 : Int)) = false, True ∧ (cand (cd ((0 : Int) ≤ a)) (cand (cd True) (cand (cd ((none : Option Operand).isSome = true → (some (Operand.tmp (31 : Nat))).isSome = true)) (cd ((1 : Nat) = 1 ∧ (0 : Nat) ≤ a.toNat ∧ a.toNat ≤ (0 : Nat) ∧ ((0 : Nat) = (0 : Nat) ∨ (0 : Nat) < (0 : Nat))))))).p] (AV.cell (Cell.int IntKind.i32 (0 : Int)), [some (Blk.cells true (1 : Nat) fun (x : Nat) => Cont.raw [Cell.slice true (1000000007 : Nat) (0 : Nat) (0 : Nat) (a.toNat - (0 : Nat)) none (1 : Nat), Cell.int IntKind.i64 m, Cell.int IntKind.i32 o, Cell.int IntKind.i32 u])], (0 : Nat), []) := ⟨by kernel_rfl, by kernel_rfl⟩

theorem popI_1 (len : Nat) (l : List Int) (m : Int) (o : Int) (u : Int) : Good (ev (popI len l m o u).1 (popI len l m o u).2.1 (popI len l m o u).2.2 [1, 1, 1, 0, 1, 0, 0, 0, 0, 1, 2, 1, 14, 0]) [9, 8, 0, 7] [decide ((0 : Int) ≥ (↑len : Int)) = false, false = false ∧ (0 : Int) ≤ IntKind.i64.wrap (IntKind.i64.wrap ((↑len : Int) - (1 : Int)) - (0 : Int)) ∧ IntKind.i64.wrap (IntKind.i64.wrap ((↑len : Int) - (1 : Int)) - (0 : Int)) < (↑len : Int), (cd (false = false)).p ∧ (cand (cd ((0 : Nat) < (1 : Nat))) (cand (cd ((0 : Nat) + (IntKind.i64.wrap (IntKind.i64.wrap ((↑len : Int) - (1 : Int)) - (0 : Int))).toNat * 1 < l.length)) (cd True))).p, True ∧ (cand (cd ((0 : Int) ≤ IntKind.i64.wrap ((↑len : Int) - (1 : Int)))) (cand (cd True) (cand (cd ((none : Option Operand).isSome = true → (some (Operand.tmp (23 : Nat))).isSome = true)) (cd ((1 : Nat) = 1 ∧ (0 : Nat) ≤ (IntKind.i64.wrap ((↑len : Int) - (1 : Int))).toNat ∧ (IntKind.i64.wrap ((↑len : Int) - (1 : Int))).toNat ≤ len ∧ ((0 : Nat) = (0 : Nat) ∨ (0 : Nat) < len)))))).p] (AV.tup [AV1.cell (Cell.int IntKind.u32 (l.getD ((0 : Nat) + (IntKind.i64.wrap (IntKind.i64.wrap ((↑len : Int) - (1 : Int)) - (0 : Int))).toNat * 1) (0 : Int))), AV1.cell (Cell.int IntKind.i32 (0 : Int))], [some (Blk.cells true (1 : Nat) fun (x : Nat) => Cont.raw [Cell.slice false (1 : Nat) (0 : Nat) (0 : Nat) ((IntKind.i64.wrap ((↑len : Int) - (1 : Int))).toNat - (0 : Nat)) none (1 : Nat), Cell.int IntKind.i64 m, Cell.int IntKind.i32 o, Cell.int IntKind.i32 u]), some (Blk.cells true (1 : Nat) fun (x : Nat) => Cont.ints IntKind.u32 l)], (0 : Nat), []) := ⟨by kernel_rfl, by kernel_rfl⟩

theorem popI_2 (len : Nat) (l : List Int) (m : Int) (o : Int) (u : Int) : Good (ev (popI len l m o u).1 (popI len l m o u).2.1 (popI len l m o u).2.2 [1, 1, 1, 0, 1, 0, 1, 1, 1, 1, 1, 1, 0, 0, 1, 0]) [9, 9, 3, 0] [decide ((0 : Int) ≥ (↑len : Int)) = true, (m == (0 : Int)) = false, (u != (0 : Int)) = true, (u == (0 : Int)) = false] (AV.tup [AV1.cell (Cell.int IntKind.u32 (0 : Int)), AV1.cell (Cell.int IntKind.i32 u)], [some (Blk.cells true (1 : Nat) fun (x : Nat) => Cont.raw [Cell.slice false (1 : Nat) (0 : Nat) (0 : Nat) len none (1 : Nat), Cell.int IntKind.i64 m, Cell.int IntKind.i32 o, Cell.int IntKind.i32 u]), some (Blk.cells true (1 : Nat) fun (x : Nat) => Cont.ints IntKind.u32 l)], (2 : Nat), []) := ⟨by kernel_rfl, by kernel_rfl⟩

theorem popN_1 (m : Int) (o : Int) (u : Int) : Good (ev (popN m o u).1 (popN m o u).2.1 (popN m o u).2.2 [1, 1, 1, 0, 1, 0, 1, 1, 1, 1, 1, 1, 0, 0, 1, 0]) [19, 3, 0] [(m == (0 : Int)) = false, (u != (0 : Int)) = true, (u == (0 : Int)) = false] (AV.tup [AV1.cell (Cell.int IntKind.u32 (0 : Int)), AV1.cell (Cell.int IntKind.i32 u)], [some (Blk.cells true (1 : Nat) fun (x : Nat) => Cont.raw [Cell.slice true (1000000007 : Nat) (0 : Nat) (0 : Nat) (0 : Nat) none (1 : Nat), Cell.int IntKind.i64 m, Cell.int IntKind.i32 o, Cell.int IntKind.i32 u])], (1 : Nat), []) := ⟨by kernel_rfl, by kernel_rfl⟩

theorem pushI_1 (len : Nat) (l : List Int) (m : Int) (o : Int) (u : Int) (k : Nat) (c : Option Nat) (xs : List Int) : Good (ev (pushI len l m o u k c xs).1 (pushI len l m o u k c xs).2.1 (pushI len l m o u k c xs).2.2 [0, 1, 1, 1, 1, 1, 0, 1, 1, 0, 0, 0, 0, 2]) [13, 0, 0, 0, 3, 4] [((m == (0 : Int)) == false) = true, ((m == (0 : Int)) == false) = true, (m == (0 : Int)) = false, decide (IntKind.i64.wrap ((↑len : Int) - (0 : Int)) < (0 : Int)) = false, decide ((↑k : Int) > IntKind.i64.wrap (m - IntKind.i64.wrap ((↑len : Int) - (0 : Int)))) = false, (cand (cd (false = true ∨ (1 : Nat) = 1)) (cand (cd ((0 : Nat) < (1 : Nat))) (cd ((0 : Nat) + k * 1 ≤ xs.length)))).p ∧ (cand (cd ((0 : Nat) + len * 1 ≤ l.length)) (cd (false = false ∧ (1 : Nat) = 1 ∧ [Cell.int IntKind.u32 (0 : Int)].length = 1 ∧ (0 : Nat) < 1 ∧ (len + k) * 4 ≤ (140737488355328 : Nat) ∧ len + k ≤ (9223372036854775807 : Nat)))).p] (AV.cell (Cell.int IntKind.i32 (0 : Int)), [some (Blk.cells true (1 : Nat) fun (x : Nat) => Cont.raw [Cell.slice false (3 : Nat) (0 : Nat) (0 : Nat) (len + k) none (1 : Nat), Cell.int IntKind.i64 m, Cell.int IntKind.i32 o, Cell.int IntKind.i32 u]), some (Blk.cells true (1 : Nat) fun (x : Nat) => Cont.ints IntKind.u32 xs), none, some (Blk.cells true (1 : Nat) fun (x : Nat) => Cont.ints IntKind.u32 (List.take (len * 1) (List.drop (0 : Nat) l) ++ List.take (k * 1) (List.drop (0 : Nat) xs)))], (0 : Nat), []) := ⟨by kernel_rfl, by kernel_rfl⟩

theorem pushI_2 (len : Nat) (l : List Int) (m : Int) (o : Int) (u : Int) (k : Nat) (c : Option Nat) (xs : List Int) : Good (ev (pushI len l m o u k c xs).1 (pushI len l m o u k c xs).2.1 (pushI len l m o u k c xs).2.2 [0, 1, 1, 1, 1, 1, 0, 1, 1, 0, 0, 0, 0, 1]) [13, 0, 0, 0, 3, 4] [((m == (0 : Int)) == false) = true, ((m == (0 : Int)) == false) = true, (m == (0 : Int)) = false, decide (IntKind.i64.wrap ((↑len : Int) - (0 : Int)) < (0 : Int)) = false, decide ((↑k : Int) > IntKind.i64.wrap (m - IntKind.i64.wrap ((↑len : Int) - (0 : Int)))) = false, (cand (cd (false = true ∨ (1 : Nat) = 1)) (cand (cd ((0 : Nat) < (1 : Nat))) (cd ((0 : Nat) + k * 1 ≤ xs.length)))).p ∧ (cd (k = (0 : Nat))).p] (AV.cell (Cell.int IntKind.i32 (0 : Int)), [some (Blk.cells true (1 : Nat) fun (x : Nat) => Cont.raw [Cell.slice false (2 : Nat) (0 : Nat) (0 : Nat) len none (1 : Nat), Cell.int IntKind.i64 m, Cell.int IntKind.i32 o, Cell.int IntKind.i32 u]), some (Blk.cells true (1 : Nat) fun (x : Nat) => Cont.ints IntKind.u32 xs), some (Blk.cells true (1 : Nat) fun (x : Nat) => Cont.ints IntKind.u32 l)], (0 : Nat), []) := ⟨by kernel_rfl, by kernel_rfl⟩

theorem pushI_3 (len : Nat) (l : List Int) (m : Int) (o : Int) (u : Int) (k : Nat) (c : Option Nat) (xs : List Int) : Good (ev (pushI len l m o u k c xs).1 (pushI len l m o u k c xs).2.1 (pushI len l m o u k c xs).2.2 [0, 1, 1, 1, 1, 1, 0, 1, 1, 0, 0, 1, 1]) [13, 0, 0, 0, 3, 3] [((m == (0 : Int)) == false) = true, ((m == (0 : Int)) == false) = true, (m == (0 : Int)) = false, decide (IntKind.i64.wrap ((↑len : Int) - (0 : Int)) < (0 : Int)) = false, decide ((↑k : Int) > IntKind.i64.wrap (m - IntKind.i64.wrap ((↑len : Int) - (0 : Int)))) = true, (o != (0 : Int)) = true] (AV.cell (Cell.int IntKind.i32 o), [some (Blk.cells true (1 : Nat) fun (x : Nat) => Cont.raw [Cell.slice false (2 : Nat) (0 : Nat) (0 : Nat) len none (1 : Nat), Cell.int IntKind.i64 m, Cell.int IntKind.i32 o, Cell.int IntKind.i32 u]), some (Blk.cells true (1 : Nat) fun (x : Nat) => Cont.ints IntKind.u32 xs), some (Blk.cells true (1 : Nat) fun (x : Nat) => Cont.ints IntKind.u32 l)], (3 : Nat), []) := ⟨by kernel_rfl, by kernel_rfl⟩

theorem pushE_1 (len : Nat) (l : List Int) (m : Int) (o : Int) (u : Int) : Good (ev (pushE len l m o u).1 (pushE len l m o u).2.1 (pushE len l m o u).2.2 [0, 1, 1, 1, 1, 1, 0, 1, 1, 0, 0, 0, 0, 1]) [13, 0, 0, 0, 3] [((m == (0 : Int)) == false) = true, ((m == (0 : Int)) == false) = true, (m == (0 : Int)) = false, decide (IntKind.i64.wrap ((↑len : Int) - (0 : Int)) < (0 : Int)) = false, decide ((0 : Int) > IntKind.i64.wrap (m - IntKind.i64.wrap ((↑len : Int) - (0 : Int)))) = false] (AV.cell (Cell.int IntKind.i32 (0 : Int)), [some (Blk.cells true (1 : Nat) fun (x : Nat) => Cont.raw [Cell.slice false (1 : Nat) (0 : Nat) (0 : Nat) len none (1 : Nat), Cell.int IntKind.i64 m, Cell.int IntKind.i32 o, Cell.int IntKind.i32 u]), some (Blk.cells true (1 : Nat) fun (x : Nat) => Cont.ints IntKind.u32 l)], (0 : Nat), []) := ⟨by kernel_rfl, by kernel_rfl⟩

theorem pushE_2 (len : Nat) (l : List Int) (m : Int) (o : Int) (u : Int) : Good (ev (pushE len l m o u).1 (pushE len l m o u).2.1 (pushE len l m o u).2.2 [0, 1, 1, 1, 1, 1, 0, 1, 1, 0, 0, 1, 1]) [13, 0, 0, 0, 3, 3] [((m == (0 : Int)) == false) = true, ((m == (0 : Int)) == false) = true, (m == (0 : Int)) = false, decide (IntKind.i64.wrap ((↑len : Int) - (0 : Int)) < (0 : Int)) = false, decide ((0 : Int) > IntKind.i64.wrap (m - IntKind.i64.wrap ((↑len : Int) - (0 : Int)))) = true, (o != (0 : Int)) = true] (AV.cell (Cell.int IntKind.i32 o), [some (Blk.cells true (1 : Nat) fun (x : Nat) => Cont.raw [Cell.slice false (1 : Nat) (0 : Nat) (0 : Nat) len none (1 : Nat), Cell.int IntKind.i64 m, Cell.int IntKind.i32 o, Cell.int IntKind.i32 u]), some (Blk.cells true (1 : Nat) fun (x : Nat) => Cont.ints IntKind.u32 l)], (2 : Nat), []) := ⟨by kernel_rfl, by kernel_rfl⟩

theorem pushN_1 (m : Int) (o : Int) (u : Int) (k : Nat) (c : Option Nat) (xs : List Int) : Good (ev (pushN m o u k c xs).1 (pushN m o u k c xs).2.1 (pushN m o u k c xs).2.2 [0, 1, 1, 1, 1, 1, 0, 1, 1, 0, 0, 0, 0, 0]) [13, 0, 0, 4, 4] [((m == (0 : Int)) == false) = true, ((m == (0 : Int)) == false) = true, (m == (0 : Int)) = false, decide ((↑k : Int) > IntKind.i64.wrap (m - (0 : Int))) = false, (cand (cd (false = true ∨ (1 : Nat) = 1)) (cand (cd ((0 : Nat) < (1 : Nat))) (cd ((0 : Nat) + k * 1 ≤ xs.length)))).p ∧ (cand (cd (true = true)) (cd ([Cell.int IntKind.u32 (0 : Int)].length = 1 ∧ (0 : Nat) < 1 ∧ ((0 : Nat) + k) * 4 ≤ (140737488355328 : Nat) ∧ (0 : Nat) + k ≤ (9223372036854775807 : Nat) ∧ (true = true ∧ (0 : Nat) < k ∨ true = false ∧ match none with | some c => c < (0 : Nat) + k | none => False)))).p] (AV.cell (Cell.int IntKind.i32 (0 : Int)), [some (Blk.cells true (1 : Nat) fun (x : Nat) => Cont.raw [Cell.slice false (2 : Nat) (0 : Nat) (0 : Nat) ((0 : Nat) + k) none (1 : Nat), Cell.int IntKind.i64 m, Cell.int IntKind.i32 o, Cell.int IntKind.i32 u]), some (Blk.cells true (1 : Nat) fun (x : Nat) => Cont.ints IntKind.u32 xs), some (Blk.cells true (1 : Nat) fun (x : Nat) => Cont.ints IntKind.u32 (List.take (k * 1) (List.drop (0 : Nat) xs)))], (0 : Nat), []) := ⟨by kernel_rfl, by kernel_rfl⟩

theorem pushN_2 (m : Int) (o : Int) (u : Int) (k : Nat) (c : Option Nat) (xs : List Int) : Good (ev (pushN m o u k c xs).1 (pushN m o u k c xs).2.1 (pushN m o u k c xs).2.2 [0, 1, 1, 1, 1, 1, 0, 1, 1, 0, 0, 0, 0, 1]) [13, 0, 0, 4, 4] [((m == (0 : Int)) == false) = true, ((m == (0 : Int)) == false) = true, (m == (0 : Int)) = false, decide ((↑k : Int) > IntKind.i64.wrap (m - (0 : Int))) = false, (cand (cd (false = true ∨ (1 : Nat) = 1)) (cand (cd ((0 : Nat) < (1 : Nat))) (cd ((0 : Nat) + k * 1 ≤ xs.length)))).p ∧ (cd (k = (0 : Nat))).p] (AV.cell (Cell.int IntKind.i32 (0 : Int)), [some (Blk.cells true (1 : Nat) fun (x : Nat) => Cont.raw [Cell.slice true (1000000007 : Nat) (0 : Nat) (0 : Nat) (0 : Nat) none (1 : Nat), Cell.int IntKind.i64 m, Cell.int IntKind.i32 o, Cell.int IntKind.i32 u]), some (Blk.cells true (1 : Nat) fun (x : Nat) => Cont.ints IntKind.u32 xs)], (0 : Nat), []) := ⟨by kernel_rfl, by kernel_rfl⟩

theorem pushN_3 (m : Int) (o : Int) (u : Int) (k : Nat) (c : Option Nat) (xs : List Int) : Good (ev (pushN m o u k c xs).1 (pushN m o u k c xs).2.1 (pushN m o u k c xs).2.2 [0, 1, 1, 1, 1, 1, 0, 1, 1, 0, 0, 1, 1]) [13, 0, 0, 4, 3] [((m == (0 : Int)) == false) = true, ((m == (0 : Int)) == false) = true, (m == (0 : Int)) = false, decide ((↑k : Int) > IntKind.i64.wrap (m - (0 : Int))) = true, (o != (0 : Int)) = true] (AV.cell (Cell.int IntKind.i32 o), [some (Blk.cells true (1 : Nat) fun (x : Nat) => Cont.raw [Cell.slice true (1000000007 : Nat) (0 : Nat) (0 : Nat) (0 : Nat) none (1 : Nat), Cell.int IntKind.i64 m, Cell.int IntKind.i32 o, Cell.int IntKind.i32 u]), some (Blk.cells true (1 : Nat) fun (x : Nat) => Cont.ints IntKind.u32 xs)], (2 : Nat), []) := ⟨by kernel_rfl, by kernel_rfl⟩

theorem pushM_1 (m : Int) (o : Int) (u : Int) : Good (ev (pushM m o u).1 (pushM m o u).2.1 (pushM m o u).2.2 [0, 1, 1, 1, 1, 1, 0, 1, 1, 0, 0, 0, 0, 1]) [13, 0, 0, 4] [((m == (0 : Int)) == false) = true, ((m == (0 : Int)) == false) = true, (m == (0 : Int)) = false, decide ((0 : Int) > IntKind.i64.wrap (m - (0 : Int))) = false] (AV.cell (Cell.int IntKind.i32 (0 : Int)), [some (Blk.cells true (1 : Nat) fun (x : Nat) => Cont.raw [Cell.slice true (1000000007 : Nat) (0 : Nat) (0 : Nat) (0 : Nat) none (1 : Nat), Cell.int IntKind.i64 m, Cell.int IntKind.i32 o, Cell.int IntKind.i32 u])], (0 : Nat), []) := ⟨by kernel_rfl, by kernel_rfl⟩

end Go.Proofs.Ytnoonoghemgbbaa.Sx

/-
  Stacks: part 2: Len, Peek, May as summaries.
-/
set_option maxRecDepth 100000
set_option linter.unusedVariables false
set_option linter.unusedSimpArgs false
namespace Go.Proofs.Ytnoonoghemgbbaa.Sx
open Go

theorem v0_ok (f : FuncId) : Valid Try.prog f (E ([] : List (Nat × Sum Nob)) f) := E_valid (l := []) trivial f

/-- A stack that is one: cells, how many there are, how many there may be, what is thrown. -/
abbrev okS (len : Nat) (l : List Int) (m u : Int) : Prop := len ≤ l.length ∧ (len : Int) ≤ m ∧ 0 < m ∧ m ≤ 1000000000 ∧ u ≠ 0

def lenG : List AV → View → Option (List (Way Nob))
  | [.cell (.ptr false 0 0 0)], [(true, .raw [.slice true 1000000007 0 0 0 none 1, .int .i64 m, .int .i32 o, .int .i32 u])] => some [⟨[], true, i64 0, sv1 m o u, 1⟩]
  | [.cell (.ptr false 0 0 0)], [(true, .raw [.slice false 1 0 0 len none 1, .int .i64 m, .int .i32 o, .int .i32 u]), (true, .ints .u32 l)] => some [⟨[], true, i64 len, sv2 len l m o u, 2⟩]
  | _, _ => none

theorem len_w : ∀ args Hc ws, lenG args Hc = some ws → WaysOk Try.prog 30 (ofView Nob Hc) args ws := fun args Hc ws h => by
  unfold lenG at h
  split at h
  · cases h
    exact ⟨fun _ => (lenN_1 _ _ _).can (v0_ok 30) trivial, trivial⟩
  · cases h
    exact ⟨fun _ => (lenI_1 _ _ _ _ _).can (v0_ok 30) trivial, trivial⟩
  · cases h

theorem len_ok : Valid Try.prog 30 (canonSum lenG) := canon_of len_w

def peekG : List AV → View → Option (List (Way Nob))
  | [.cell (.ptr false 0 0 0), .cell (.int .i64 i)], [(true, .raw [.slice true 1000000007 0 0 0 none 1, .int .i64 m, .int .i32 o, .int .i32 u])] =>
    some [⟨[cd (0 < m ∧ u ≠ 0)], true, .tup [.cell (.int .u32 0), .cell (.int .i32 u)], sv1 m o u, 1⟩]
  | [.cell (.ptr false 0 0 0), .cell (.int .i64 i)], [(true, .raw [.slice false 1 0 0 len none 1, .int .i64 m, .int .i32 o, .int .i32 u]), (true, .ints .u32 l)] =>
    some [⟨[cd (okS len l m u ∧ 0 ≤ i ∧ i < len)], decide (0 ≤ i ∧ i < len), .tup [.cell (.int .u32 (l.getD (len - 1 - i.toNat) 0)), .cell (.int .i32 0)], sv2 len l m o u, 2⟩,
      ⟨[cd (okS len l m u ∧ (i < 0 ∨ len ≤ i))], true, .tup [.cell (.int .u32 0), .cell (.int .i32 u)], sv2 len l m o u, 2⟩]
  | _, _ => none

theorem peek_w : ∀ args Hc ws, peekG args Hc = some ws → WaysOk Try.prog 27 (ofView Nob Hc) args ws := fun args Hc ws h => by
  unfold peekG at h
  split at h
  · rename_i i m o u
    cases h
    refine ⟨fun hc => ?_, trivial⟩
    obtain ⟨⟨h1, h2⟩, _⟩ := hc
    by_cases hi : i < 0
    · exact (peekN_2 m o u i).can (v0_ok 27) (by simp only [AllP]; simp; omega)
    · exact (peekN_1 m o u i).can (v0_ok 27) (by simp only [AllP]; simp; omega)
  · rename_i i len m o u l
    cases h
    refine ⟨fun hc => ?_, fun hc => ?_, trivial⟩
    · obtain ⟨⟨⟨h1, h2, h3, h4, h5⟩, h6, h7⟩, _⟩ := hc
      have e : IntKind.i64.wrap (IntKind.i64.wrap ((len : Int) - 1) - i) = ((len - 1 - i.toNat : Nat) : Int) := by rw [IntKind.wrap_i64, IntKind.wrap_i64]; omega
      have := (peekI_1 len l m o u i).can (v0_ok 27) (by rw [e]; simp only [AllP]; simp; omega)
      rw [e, Int.toNat_natCast, Nat.mul_one, Nat.zero_add] at this
      exact this
    · obtain ⟨⟨⟨h1, h2, h3, h4, h5⟩, h6⟩, _⟩ := hc
      by_cases hi : i < 0
      · exact (peekI_3 len l m o u i).can (v0_ok 27) (by simp only [AllP]; simp; omega)
      · exact (peekI_2 len l m o u i).can (v0_ok 27) (by simp only [AllP]; simp; omega)
  · cases h

theorem peek_ok : Valid Try.prog 27 (canonSum peekG) := canon_of peek_w

def mayG : List AV → View → Option (List (Way Nob))
  | [.cell (.ptr false 0 0 0), .cell (.int .i64 a), .cell (.int .i64 b)], [(true, .raw [.slice true 1000000007 0 0 0 none 1, .int .i64 m, .int .i32 o, .int .i32 u])] =>
    some [⟨[cd (a = 0 ∧ 0 ≤ b ∧ b ≤ m ∧ 0 < m ∧ m ≤ 1000000000)], decide (a = 0 ∧ 0 ≤ b ∧ b ≤ m), .cell (.int .i32 0), sv1 m o u, 1⟩,
      ⟨[cd (0 < a ∧ a ≤ 1000000000 ∧ 0 < m ∧ u ≠ 0)], decide (0 < a), .cell (.int .i32 u), sv1 m o u, 1⟩,
      ⟨[cd (a = 0 ∧ m < b ∧ 0 < m ∧ m ≤ 1000000000)], true, .cell (.int .i32 o), sv1 m o u, 1⟩]
  | [.cell (.ptr false 0 0 0), .cell (.int .i64 a), .cell (.int .i64 b)], [(true, .raw [.slice false 1 0 0 len none 1, .int .i64 m, .int .i32 o, .int .i32 u]), (true, .ints .u32 l)] =>
    some [⟨[cd (okS len l m u ∧ 0 ≤ a ∧ a ≤ len ∧ 0 ≤ b ∧ b ≤ m - (len - a))], decide (0 ≤ a ∧ a ≤ len ∧ b ≤ m - (len - a)), .cell (.int .i32 0), sv2 len l m o u, 2⟩,
      ⟨[cd (okS len l m u ∧ len < a ∧ a ≤ 1000000000)], decide ((len : Int) < a), .cell (.int .i32 u), sv2 len l m o u, 2⟩,
      ⟨[cd (okS len l m u ∧ 0 ≤ a ∧ a ≤ len ∧ 0 ≤ b ∧ m - (len - a) < b)], true, .cell (.int .i32 o), sv2 len l m o u, 2⟩]
  | _, _ => none

theorem may_w : ∀ args Hc ws, mayG args Hc = some ws → WaysOk Try.prog 25 (ofView Nob Hc) args ws := fun args Hc ws h => by
  unfold mayG at h
  split at h
  · rename_i a b m o u
    cases h
    refine ⟨fun hc => ?_, fun hc => ?_, fun hc => ?_, trivial⟩
    · obtain ⟨⟨h1, h2, h3, h4, h5⟩, _⟩ := hc
      have h1 : a = 0 := h1
      subst h1
      exact (mayN_1 m o u 0 b).can (v0_ok 25) (by simp only [AllP, IntKind.wrap_i64]; simp; omega)
    · obtain ⟨⟨h1, h2, h3, h4⟩, _⟩ := hc
      exact (mayN_2 m o u a b).can (v0_ok 25) (by simp only [AllP, IntKind.wrap_i64]; simp; omega)
    · obtain ⟨⟨h1, h2, h3, h4⟩, _⟩ := hc
      have h1 : a = 0 := h1
      subst h1
      exact (mayN_3 m o u 0 b).can (v0_ok 25) (by simp only [AllP, IntKind.wrap_i64]; simp; omega)
  · rename_i a b len m o u l
    cases h
    refine ⟨fun hc => ?_, fun hc => ?_, fun hc => ?_, trivial⟩
    · obtain ⟨⟨⟨h1, h2, h3, h4, h5⟩, h6, h7, h8, h9⟩, _⟩ := hc
      exact (mayI_1 len l m o u a b).can (v0_ok 25) (by simp only [AllP, IntKind.wrap_i64]; simp; omega)
    · obtain ⟨⟨⟨h1, h2, h3, h4, h5⟩, h6, h7⟩, _⟩ := hc
      exact (mayI_2 len l m o u a b).can (v0_ok 25) (by simp only [AllP, IntKind.wrap_i64]; simp; omega)
    · obtain ⟨⟨⟨h1, h2, h3, h4, h5⟩, h6, h7, h8, h9⟩, _⟩ := hc
      exact (mayI_3 len l m o u a b).can (v0_ok 25) (by simp only [AllP, IntKind.wrap_i64]; simp; omega)
  · cases h

theorem may_ok : Valid Try.prog 25 (canonSum mayG) := canon_of may_w

end Go.Proofs.Ytnoonoghemgbbaa.Sx

/-
  Stacks: part 3: Push, Pop, Cut as summaries.
-/
set_option maxRecDepth 100000
set_option linter.unusedVariables false
set_option linter.unusedSimpArgs false
namespace Go.Proofs.Ytnoonoghemgbbaa.Sx
open Go

abbrev ptr0 : AV := .cell (.ptr false 0 0 0)

def pushG : List AV → View → Option (List (Way Nob))
  | [.cell (.ptr false 0 0 0), .cell (.slice false 1 0 0 k c 1)], [(true, .raw [.slice false 2 0 0 len none 1, .int .i64 m, .int .i32 o, .int .i32 u]), (true, .ints .u32 xs), (true, .ints .u32 l)] =>
    some [⟨[cd (okS len l m u ∧ 0 < k ∧ k ≤ xs.length ∧ (k : Int) ≤ m - len)], decide (0 < k ∧ (k : Int) ≤ m - len), .cell (.int .i32 0),
        [some (.cells true 1 fun _ => .raw [.slice false 3 0 0 (len + k) none 1, .int .i64 m, .int .i32 o, .int .i32 u]), some (.cells true 1 fun _ => .ints .u32 xs), none, some (.cells true 1 fun _ => .ints .u32 (l.take len ++ xs.take k))], 0⟩,
      ⟨[cd (okS len l m u ∧ k = 0)], decide (k = 0), .cell (.int .i32 0), sv3 len l m o u xs, 0⟩,
      ⟨[cd (okS len l m u ∧ m - len < (k : Int) ∧ o ≠ 0)], true, .cell (.int .i32 o), sv3 len l m o u xs, 3⟩]
  | [.cell (.ptr false 0 0 0), .cell (.slice true 1000000007 0 0 0 none 1)], [(true, .raw [.slice false 1 0 0 len none 1, .int .i64 m, .int .i32 o, .int .i32 u]), (true, .ints .u32 l)] =>
    some [⟨[cd (okS len l m u)], true, .cell (.int .i32 0), sv2 len l m o u, 0⟩]
  | [.cell (.ptr false 0 0 0), .cell (.slice false 1 0 0 k c 1)], [(true, .raw [.slice true 1000000007 0 0 0 none 1, .int .i64 m, .int .i32 o, .int .i32 u]), (true, .ints .u32 xs)] =>
    some [⟨[cd (0 < m ∧ m ≤ 1000000000 ∧ 0 < k ∧ k ≤ xs.length ∧ (k : Int) ≤ m)], decide (0 < k ∧ (k : Int) ≤ m), .cell (.int .i32 0),
        [some (.cells true 1 fun _ => .raw [.slice false 2 0 0 k none 1, .int .i64 m, .int .i32 o, .int .i32 u]), some (.cells true 1 fun _ => .ints .u32 xs), some (.cells true 1 fun _ => .ints .u32 (xs.take k))], 0⟩,
      ⟨[cd (0 < m ∧ m ≤ 1000000000 ∧ k = 0)], decide (k = 0), .cell (.int .i32 0), sv4 m o u xs, 0⟩,
      ⟨[cd (0 < m ∧ m ≤ 1000000000 ∧ m < (k : Int) ∧ o ≠ 0)], true, .cell (.int .i32 o), sv4 m o u xs, 2⟩]
  | [.cell (.ptr false 0 0 0), .cell (.slice true 1000000007 0 0 0 none 1)], [(true, .raw [.slice true 1000000007 0 0 0 none 1, .int .i64 m, .int .i32 o, .int .i32 u])] =>
    some [⟨[cd (0 < m ∧ m ≤ 1000000000)], true, .cell (.int .i32 0), sv1 m o u, 0⟩]
  | _, _ => none

theorem push_w : ∀ args Hc ws, pushG args Hc = some ws → WaysOk Try.prog 21 (ofView Nob Hc) args ws := fun args Hc ws h => by
  unfold pushG at h
  split at h
  · rename_i k c len m o u xs l
    cases h
    refine ⟨fun hc => ?_, fun hc => ?_, fun hc => ?_, trivial⟩
    · obtain ⟨⟨⟨h1, h2, h3, h4, h5⟩, h6, h7, h8⟩, _⟩ := hc
      have := (pushI_1 len l m o u k c xs).can (v0_ok 21) (by simp only [AllP, IntKind.wrap_i64]; simp; omega)
      rw [Nat.mul_one, Nat.mul_one, List.drop_zero, List.drop_zero] at this
      exact this
    · obtain ⟨⟨⟨h1, h2, h3, h4, h5⟩, h6⟩, _⟩ := hc
      have h6 : k = 0 := h6
      subst h6
      exact (pushI_2 len l m o u 0 c xs).can (v0_ok 21) (by simp only [AllP, IntKind.wrap_i64]; simp; omega)
    · obtain ⟨⟨⟨h1, h2, h3, h4, h5⟩, h6, h7⟩, _⟩ := hc
      exact (pushI_3 len l m o u k c xs).can (v0_ok 21) (by simp only [AllP, IntKind.wrap_i64]; simp; omega)
  · rename_i len m o u l
    cases h
    refine ⟨fun hc => ?_, trivial⟩
    obtain ⟨⟨h1, h2, h3, h4, h5⟩, _⟩ := hc
    exact (pushE_1 len l m o u).can (v0_ok 21) (by simp only [AllP, IntKind.wrap_i64]; simp; omega)
  · rename_i k c m o u xs
    cases h
    refine ⟨fun hc => ?_, fun hc => ?_, fun hc => ?_, trivial⟩
    · obtain ⟨⟨h1, h2, h3, h4, h5⟩, _⟩ := hc
      have := (pushN_1 m o u k c xs).can (v0_ok 21) (by simp only [AllP, IntKind.wrap_i64]; simp; omega)
      rw [Nat.mul_one, Nat.zero_add, List.drop_zero] at this
      exact this
    · obtain ⟨⟨h1, h2, h3⟩, _⟩ := hc
      have h3 : k = 0 := h3
      subst h3
      exact (pushN_2 m o u 0 c xs).can (v0_ok 21) (by simp only [AllP, IntKind.wrap_i64]; simp; omega)
    · obtain ⟨⟨h1, h2, h3, h4⟩, _⟩ := hc
      exact (pushN_3 m o u k c xs).can (v0_ok 21) (by simp only [AllP, IntKind.wrap_i64]; simp; omega)
  · rename_i m o u
    cases h
    refine ⟨fun hc => ?_, trivial⟩
    obtain ⟨⟨h1, h2⟩, _⟩ := hc
    exact (pushM_1 m o u).can (v0_ok 21) (by simp only [AllP, IntKind.wrap_i64]; simp; omega)
  · cases h

theorem push_ok : Valid Try.prog 21 (canonSum pushG) := canon_of push_w

def popG : List AV → View → Option (List (Way Nob))
  | [.cell (.ptr false 0 0 0)], [(true, .raw [.slice true 1000000007 0 0 0 none 1, .int .i64 m, .int .i32 o, .int .i32 u])] =>
    some [⟨[cd (0 < m ∧ u ≠ 0)], true, .tup [.cell (.int .u32 0), .cell (.int .i32 u)], sv1 m o u, 1⟩]
  | [.cell (.ptr false 0 0 0)], [(true, .raw [.slice false 1 0 0 len none 1, .int .i64 m, .int .i32 o, .int .i32 u]), (true, .ints .u32 l)] =>
    some [⟨[cd (okS len l m u ∧ 0 < len)], decide (0 < len), .tup [.cell (.int .u32 (l.getD (len - 1) 0)), .cell (.int .i32 0)], sv2 (len - 1) l m o u, 0⟩,
      ⟨[cd (okS len l m u ∧ len = 0)], true, .tup [.cell (.int .u32 0), .cell (.int .i32 u)], sv2 len l m o u, 2⟩]
  | _, _ => none

theorem pop_w : ∀ args Hc ws, popG args Hc = some ws → WaysOk Try.prog 40 (ofView Nob Hc) args ws := fun args Hc ws h => by
  unfold popG at h
  split at h
  · rename_i m o u
    cases h
    refine ⟨fun hc => ?_, trivial⟩
    obtain ⟨⟨h1, h2⟩, _⟩ := hc
    exact (popN_1 m o u).can (v0_ok 40) (by simp only [AllP]; simp; omega)
  · rename_i len m o u l
    cases h
    refine ⟨fun hc => ?_, fun hc => ?_, trivial⟩
    · obtain ⟨⟨⟨h1, h2, h3, h4, h5⟩, h6⟩, _⟩ := hc
      have e0 : IntKind.i64.wrap ((len : Int) - 1) = ((len - 1 : Nat) : Int) := by rw [IntKind.wrap_i64]; omega
      have e : IntKind.i64.wrap (((len - 1 : Nat) : Int) - 0) = ((len - 1 : Nat) : Int) := by rw [IntKind.wrap_i64]; omega
      have := (popI_1 len l m o u).can (v0_ok 40) (by rw [e0, e]; simp only [AllP]; simp; omega)
      rw [e0, e, Int.toNat_natCast, Nat.mul_one, Nat.zero_add, Nat.sub_zero] at this
      exact this
    · obtain ⟨⟨⟨h1, h2, h3, h4, h5⟩, h6⟩, _⟩ := hc
      have h6 : len = 0 := h6
      subst h6
      exact (popI_2 0 l m o u).can (v0_ok 40) (by simp only [AllP]; simp; omega)
  · cases h

theorem pop_ok : Valid Try.prog 40 (canonSum popG) := canon_of pop_w

def cutG : List AV → View → Option (List (Way Nob))
  | [.cell (.ptr false 0 0 0), .cell (.int .i64 a)], [(true, .raw [.slice true 1000000007 0 0 0 none 1, .int .i64 m, .int .i32 o, .int .i32 u])] =>
    some [⟨[cd (0 < m ∧ a = 0)], true, .cell (.int .i32 0), sv1 m o u, 0⟩]
  | [.cell (.ptr false 0 0 0), .cell (.int .i64 a)], [(true, .raw [.slice false 1 0 0 len none 1, .int .i64 m, .int .i32 o, .int .i32 u]), (true, .ints .u32 l)] =>
    some [⟨[cd (okS len l m u ∧ 0 ≤ a ∧ a ≤ len)], true, .cell (.int .i32 0), sv2 a.toNat l m o u, 0⟩]
  | _, _ => none

theorem cut_w : ∀ args Hc ws, cutG args Hc = some ws → WaysOk Try.prog 29 (ofView Nob Hc) args ws := fun args Hc ws h => by
  unfold cutG at h
  split at h
  · rename_i a m o u
    cases h
    refine ⟨fun hc => ?_, trivial⟩
    obtain ⟨⟨h1, h2⟩, _⟩ := hc
    have h2 : a = 0 := h2
    subst h2
    exact (cutN_1 m o u 0).can (v0_ok 29) (by simp only [AllP]; simp; omega)
  · rename_i a len m o u l
    cases h
    refine ⟨fun hc => ?_, trivial⟩
    obtain ⟨⟨⟨h1, h2, h3, h4, h5⟩, h6, h7⟩, _⟩ := hc
    have := (cutI_1 len l m o u a).can (v0_ok 29) (by simp only [AllP]; simp; omega)
    rw [Nat.sub_zero] at this
    exact this
  · cases h

theorem cut_ok : Valid Try.prog 29 (canonSum cutG) := canon_of cut_w

end Go.Proofs.Ytnoonoghemgbbaa.Sx

/-
  Stacks: part 4: All and Roll, way by way (printed by the explorer).
-/
set_option linter.unusedSimpArgs false
set_option maxRecDepth 100000
set_option linter.unusedVariables false
namespace Go.Proofs.Ytnoonoghemgbbaa.Sx
open Go

def rollI (len : Nat) (l : List Int) (m o u i : Int) := inS 41 [sp, i64 i] (sv2 len l m o u)
def rollN (m o u i : Int) := inS 41 [sp, i64 i] (sv1 m o u)
def allI (len : Nat) (l : List Int) (m o u : Int) := inS 13 [sp] (sv2 len l m o u)
def allN (m o u : Int) := inS 13 [sp] (sv1 m o u)

theorem allI_1 (len : Nat) (l : List Int) (m : Int) (o : Int) (u : Int) : Good (ev (allI len l m o u).1 (allI len l m o u).2.1 (allI len l m o u).2.2 [0, 0, 0]) [6] [(cand (cd (false = true ∨ (1 : Nat) = 1)) (cand (cd ((0 : Nat) < (1 : Nat))) (cd ((0 : Nat) + len * 1 ≤ l.length)))).p ∧ (cand (cand (cd (false = true ∨ 1 = 1)) (cand (cd ((0 : Nat) < (1 : Nat))) (cd True))) (cd ([Cell.int IntKind.u32 (0 : Int)].length = 1 ∧ (0 : Nat) < 1 ∧ ((0 : Nat) + len) * 4 ≤ (140737488355328 : Nat) ∧ (0 : Nat) + len ≤ (9223372036854775807 : Nat) ∧ (false = true ∧ (0 : Nat) < len ∨ false = false ∧ match some (0 : Nat) with | some c => c < (0 : Nat) + len | none => False)))).p] (AV.cell (Cell.slice false (3 : Nat) (0 : Nat) (0 : Nat) ((0 : Nat) + len) none (1 : Nat)), [some (Blk.cells true (1 : Nat) fun (x : Nat) => Cont.raw [Cell.slice false (1 : Nat) (0 : Nat) (0 : Nat) len none (1 : Nat), Cell.int IntKind.i64 m, Cell.int IntKind.i32 o, Cell.int IntKind.i32 u]), some (Blk.cells true (1 : Nat) fun (x : Nat) => Cont.ints IntKind.u32 l), some (Blk.cells true (1 : Nat) fun (x : Nat) => Cont.raw []), some (Blk.cells true (1 : Nat) fun (x : Nat) => Cont.ints IntKind.u32 (List.take (len * 1) (List.drop (0 : Nat) l)))], (2 : Nat), []) := ⟨by kernel_rfl, by kernel_rfl⟩

theorem allI_2 (len : Nat) (l : List Int) (m : Int) (o : Int) (u : Int) : Good (ev (allI len l m o u).1 (allI len l m o u).2.1 (allI len l m o u).2.2 [0, 0, 1]) [6] [(cand (cd (false = true ∨ (1 : Nat) = 1)) (cand (cd ((0 : Nat) < (1 : Nat))) (cd ((0 : Nat) + len * 1 ≤ l.length)))).p ∧ (cd (len = (0 : Nat))).p] (AV.cell (Cell.slice false (2 : Nat) (0 : Nat) (0 : Nat) (0 : Nat) (some (0 : Nat)) (1 : Nat)), [some (Blk.cells true (1 : Nat) fun (x : Nat) => Cont.raw [Cell.slice false (1 : Nat) (0 : Nat) (0 : Nat) len none (1 : Nat), Cell.int IntKind.i64 m, Cell.int IntKind.i32 o, Cell.int IntKind.i32 u]), some (Blk.cells true (1 : Nat) fun (x : Nat) => Cont.ints IntKind.u32 l), some (Blk.cells true (1 : Nat) fun (x : Nat) => Cont.raw [])], (2 : Nat), []) := ⟨by kernel_rfl, by kernel_rfl⟩

theorem allN_1 (m : Int) (o : Int) (u : Int) : Good (ev (allN m o u).1 (allN m o u).2.1 (allN m o u).2.2 [0, 1]) [] [] (AV.cell (Cell.slice true (1000000007 : Nat) (0 : Nat) (0 : Nat) (0 : Nat) none (1 : Nat)), [some (Blk.cells true (1 : Nat) fun (x : Nat) => Cont.raw [Cell.slice true (1000000007 : Nat) (0 : Nat) (0 : Nat) (0 : Nat) none (1 : Nat), Cell.int IntKind.i64 m, Cell.int IntKind.i32 o, Cell.int IntKind.i32 u])], (1 : Nat), []) := ⟨by kernel_rfl, by kernel_rfl⟩

theorem rollI_1 (len : Nat) (l : List Int) (m : Int) (o : Int) (u : Int) (i : Int) : Good (ev (rollI len l m o u i).1 (rollI len l m o u i).2.1 (rollI len l m o u i).2.2 [1, 1, 1, 0, 1, 0, 0, 0, 0, 0, 0, 2, 1, 6, 0, 0, 3, 2, 1, 3]) [0, 0, 0, 4, 0, 0, 8, 0, 4, 0, 0, 0, 0, 0, 0, 1] [(decide (i < (0 : Int)) == false) = true, (decide (i < (0 : Int)) == false) = true, (decide (i < (0 : Int)) == false) = true, (decide (i < (0 : Int)) == false) = true, decide (i < (0 : Int)) = false, decide (i ≥ (↑len : Int)) = false, false = false ∧ (0 : Int) ≤ IntKind.i64.wrap (IntKind.i64.wrap ((↑len : Int) - (1 : Int)) - i) ∧ IntKind.i64.wrap (IntKind.i64.wrap ((↑len : Int) - (1 : Int)) - i) < (↑len : Int), (cd (false = false)).p ∧ (cand (cd ((0 : Nat) < (1 : Nat))) (cand (cd ((0 : Nat) + (IntKind.i64.wrap (IntKind.i64.wrap ((↑len : Int) - (1 : Int)) - i)).toNat * 1 < l.length)) (cd True))).p, (cd ((0 : Int) ≤ IntKind.i64.wrap (IntKind.i64.wrap ((↑len : Int) - (1 : Int)) - i))).p ∧ (cand (cd ((0 : Int) ≤ IntKind.i64.wrap (IntKind.i64.wrap (IntKind.i64.wrap ((↑len : Int) - (1 : Int)) - i) + (1 : Int)))) (cand (cd ((0 : Int) ≤ (↑len : Int))) (cand (cd ((some (Operand.tmp (12 : Nat))).isSome = true → (some (Operand.tmp (10 : Nat))).isSome = true)) (cd ((1 : Nat) = 1 ∧ (IntKind.i64.wrap (IntKind.i64.wrap ((↑len : Int) - (1 : Int)) - i)).toNat ≤ (IntKind.i64.wrap (IntKind.i64.wrap (IntKind.i64.wrap ((↑len : Int) - (1 : Int)) - i) + (1 : Int))).toNat ∧ (IntKind.i64.wrap (IntKind.i64.wrap (IntKind.i64.wrap ((↑len : Int) - (1 : Int)) - i) + (1 : Int))).toNat ≤ (↑len : Int).toNat ∧ (↑len : Int).toNat ≤ len ∧ ((IntKind.i64.wrap (IntKind.i64.wrap ((↑len : Int) - (1 : Int)) - i)).toNat = (0 : Nat) ∨ (IntKind.i64.wrap (IntKind.i64.wrap ((↑len : Int) - (1 : Int)) - i)).toNat < (↑len : Int).toNat)))))).p, (IntKind.i64.wrap (IntKind.i64.wrap ((↑len : Int) - (1 : Int)) - i) == IntKind.i64.wrap (IntKind.i64.wrap (IntKind.i64.wrap ((↑len : Int) - (1 : Int)) - i) + (1 : Int))) = false, True ∧ (cand (cd ((0 : Int) ≤ IntKind.i64.wrap (IntKind.i64.wrap ((↑len : Int) - (1 : Int)) - i))) (cand (cd True) (cand (cd ((none : Option Operand).isSome = true → (some (Operand.tmp (21 : Nat))).isSome = true)) (cd ((1 : Nat) = 1 ∧ (0 : Nat) ≤ (IntKind.i64.wrap (IntKind.i64.wrap ((↑len : Int) - (1 : Int)) - i)).toNat ∧ (IntKind.i64.wrap (IntKind.i64.wrap ((↑len : Int) - (1 : Int)) - i)).toNat ≤ len ∧ ((0 : Nat) = (0 : Nat) ∨ (0 : Nat) < len)))))).p, (cd ((0 : Int) ≤ IntKind.i64.wrap (IntKind.i64.wrap (IntKind.i64.wrap ((↑len : Int) - (1 : Int)) - i) + (1 : Int)))).p ∧ (cand (cd True) (cand (cd True) (cand (cd ((none : Option Operand).isSome = true → (none : Option Operand).isSome = true)) (cd ((1 : Nat) = 1 ∧ (IntKind.i64.wrap (IntKind.i64.wrap (IntKind.i64.wrap ((↑len : Int) - (1 : Int)) - i) + (1 : Int))).toNat ≤ len ∧ len ≤ len ∧ ((IntKind.i64.wrap (IntKind.i64.wrap (IntKind.i64.wrap ((↑len : Int) - (1 : Int)) - i) + (1 : Int))).toNat = (0 : Nat) ∨ (IntKind.i64.wrap (IntKind.i64.wrap (IntKind.i64.wrap ((↑len : Int) - (1 : Int)) - i) + (1 : Int))).toNat < len)))))).p, (cand (cd (false = true ∨ (1 : Nat) = 1)) (cand (cd ((0 : Nat) < (1 : Nat))) (cd ((0 : Nat) + (IntKind.i64.wrap (IntKind.i64.wrap (IntKind.i64.wrap ((↑len : Int) - (1 : Int)) - i) + (1 : Int))).toNat * 1 + (len - (IntKind.i64.wrap (IntKind.i64.wrap (IntKind.i64.wrap ((↑len : Int) - (1 : Int)) - i) + (1 : Int))).toNat) * 1 ≤ l.length)))).p ∧ (cand (cd ((0 : Nat) + (0 : Nat) * 1 + ((IntKind.i64.wrap (IntKind.i64.wrap ((↑len : Int) - (1 : Int)) - i)).toNat - (0 : Nat)) * 1 + (List.take ((len - (IntKind.i64.wrap (IntKind.i64.wrap (IntKind.i64.wrap ((↑len : Int) - (1 : Int)) - i) + (1 : Int))).toNat) * 1) (List.drop ((0 : Nat) + (IntKind.i64.wrap (IntKind.i64.wrap (IntKind.i64.wrap ((↑len : Int) - (1 : Int)) - i) + (1 : Int))).toNat * 1) l)).length ≤ l.length)) (cd (false = false ∧ (1 : Nat) = 1 ∧ (0 : Nat) < (1 : Nat) ∧ (0 : Nat) < 1 ∧ (0 : Nat) + (0 : Nat) * 1 + ((IntKind.i64.wrap (IntKind.i64.wrap ((↑len : Int) - (1 : Int)) - i)).toNat - (0 : Nat) + (len - (IntKind.i64.wrap (IntKind.i64.wrap (IntKind.i64.wrap ((↑len : Int) - (1 : Int)) - i) + (1 : Int))).toNat)) * 1 ≤ (Cont.ints IntKind.u32 l).len ∧ match none with | some k => (IntKind.i64.wrap (IntKind.i64.wrap ((↑len : Int) - (1 : Int)) - i)).toNat - (0 : Nat) + (len - (IntKind.i64.wrap (IntKind.i64.wrap (IntKind.i64.wrap ((↑len : Int) - (1 : Int)) - i) + (1 : Int))).toNat) ≤ k | none => True))).p, (cd ((0 : Int) ≤ (↑((IntKind.i64.wrap (IntKind.i64.wrap ((↑len : Int) - (1 : Int)) - i)).toNat - (0 : Nat) + (len - (IntKind.i64.wrap (IntKind.i64.wrap (IntKind.i64.wrap ((↑len : Int) - (1 : Int)) - i) + (1 : Int))).toNat)) : Int))).p ∧ (cand (cd ((0 : Int) ≤ (↑len : Int))) (cand (cd ((0 : Nat) < (1 : Nat))) (cd (false = false ∧ (1 : Nat) = 1 ∧ (0 : Nat) < 1 ∧ (↑((IntKind.i64.wrap (IntKind.i64.wrap ((↑len : Int) - (1 : Int)) - i)).toNat - (0 : Nat) + (len - (IntKind.i64.wrap (IntKind.i64.wrap (IntKind.i64.wrap ((↑len : Int) - (1 : Int)) - i) + (1 : Int))).toNat)) : Int).toNat ≤ (↑len : Int).toNat ∧ ((↑((IntKind.i64.wrap (IntKind.i64.wrap ((↑len : Int) - (1 : Int)) - i)).toNat - (0 : Nat) + (len - (IntKind.i64.wrap (IntKind.i64.wrap (IntKind.i64.wrap ((↑len : Int) - (1 : Int)) - i) + (1 : Int))).toNat)) : Int).toNat = (0 : Nat) ∨ (↑((IntKind.i64.wrap (IntKind.i64.wrap ((↑len : Int) - (1 : Int)) - i)).toNat - (0 : Nat) + (len - (IntKind.i64.wrap (IntKind.i64.wrap (IntKind.i64.wrap ((↑len : Int) - (1 : Int)) - i) + (1 : Int))).toNat)) : Int).toNat < (↑len : Int).toNat) ∧ (0 : Nat) + (0 : Nat) * 1 + (↑len : Int).toNat * 1 ≤ (upd (1 : Nat) (fun (x : Nat) => Cont.ints IntKind.u32 l) (0 : Nat) (Cont.ints IntKind.u32 (List.take ((0 : Nat) + (0 : Nat) * 1 + ((IntKind.i64.wrap (IntKind.i64.wrap ((↑len : Int) - (1 : Int)) - i)).toNat - (0 : Nat)) * 1) l ++ List.take ((len - (IntKind.i64.wrap (IntKind.i64.wrap (IntKind.i64.wrap ((↑len : Int) - (1 : Int)) - i) + (1 : Int))).toNat) * 1) (List.drop ((0 : Nat) + (IntKind.i64.wrap (IntKind.i64.wrap (IntKind.i64.wrap ((↑len : Int) - (1 : Int)) - i) + (1 : Int))).toNat * 1) l) ++ List.drop ((0 : Nat) + (0 : Nat) * 1 + ((IntKind.i64.wrap (IntKind.i64.wrap ((↑len : Int) - (1 : Int)) - i)).toNat - (0 : Nat)) * 1 + (List.take ((len - (IntKind.i64.wrap (IntKind.i64.wrap (IntKind.i64.wrap ((↑len : Int) - (1 : Int)) - i) + (1 : Int))).toNat) * 1) (List.drop ((0 : Nat) + (IntKind.i64.wrap (IntKind.i64.wrap (IntKind.i64.wrap ((↑len : Int) - (1 : Int)) - i) + (1 : Int))).toNat * 1) l)).length) l)) (0 : Nat)).len)))).p, (cd ((0 : Nat) + (0 : Nat) * 1 + (↑((IntKind.i64.wrap (IntKind.i64.wrap ((↑len : Int) - (1 : Int)) - i)).toNat - (0 : Nat) + (len - (IntKind.i64.wrap (IntKind.i64.wrap (IntKind.i64.wrap ((↑len : Int) - (1 : Int)) - i) + (1 : Int))).toNat)) : Int).toNat * 1 + (List.replicate ((↑len : Int).toNat - (↑((IntKind.i64.wrap (IntKind.i64.wrap ((↑len : Int) - (1 : Int)) - i)).toNat - (0 : Nat) + (len - (IntKind.i64.wrap (IntKind.i64.wrap (IntKind.i64.wrap ((↑len : Int) - (1 : Int)) - i) + (1 : Int))).toNat)) : Int).toNat) (0 : Int)).length ≤ (List.take ((0 : Nat) + (0 : Nat) * 1 + ((IntKind.i64.wrap (IntKind.i64.wrap ((↑len : Int) - (1 : Int)) - i)).toNat - (0 : Nat)) * 1) l ++ List.take ((len - (IntKind.i64.wrap (IntKind.i64.wrap (IntKind.i64.wrap ((↑len : Int) - (1 : Int)) - i) + (1 : Int))).toNat) * 1) (List.drop ((0 : Nat) + (IntKind.i64.wrap (IntKind.i64.wrap (IntKind.i64.wrap ((↑len : Int) - (1 : Int)) - i) + (1 : Int))).toNat * 1) l) ++ List.drop ((0 : Nat) + (0 : Nat) * 1 + ((IntKind.i64.wrap (IntKind.i64.wrap ((↑len : Int) - (1 : Int)) - i)).toNat - (0 : Nat)) * 1 + (List.take ((len - (IntKind.i64.wrap (IntKind.i64.wrap (IntKind.i64.wrap ((↑len : Int) - (1 : Int)) - i) + (1 : Int))).toNat) * 1) (List.drop ((0 : Nat) + (IntKind.i64.wrap (IntKind.i64.wrap (IntKind.i64.wrap ((↑len : Int) - (1 : Int)) - i) + (1 : Int))).toNat * 1) l)).length) l).length)).p ∧ (cd (false = false ∧ (0 : Nat) < (1 : Nat) ∧ (0 : Nat) < (↑len : Int).toNat - (↑((IntKind.i64.wrap (IntKind.i64.wrap ((↑len : Int) - (1 : Int)) - i)).toNat - (0 : Nat) + (len - (IntKind.i64.wrap (IntKind.i64.wrap (IntKind.i64.wrap ((↑len : Int) - (1 : Int)) - i) + (1 : Int))).toNat)) : Int).toNat)).p, (cand (cd (false = true ∨ 1 = 1)) (cand (cd ((0 : Nat) < (1 : Nat))) (cd True))).p ∧ (cand (cd ((0 : Nat) + (0 : Nat) * 1 + ((IntKind.i64.wrap (IntKind.i64.wrap ((↑len : Int) - (1 : Int)) - i)).toNat - (0 : Nat) + (len - (IntKind.i64.wrap (IntKind.i64.wrap (IntKind.i64.wrap ((↑len : Int) - (1 : Int)) - i) + (1 : Int))).toNat)) * 1 + [l.getD ((0 : Nat) + (IntKind.i64.wrap (IntKind.i64.wrap ((↑len : Int) - (1 : Int)) - i)).toNat * 1) (0 : Int)].length ≤ (List.take ((0 : Nat) + (0 : Nat) * 1 + (↑((IntKind.i64.wrap (IntKind.i64.wrap ((↑len : Int) - (1 : Int)) - i)).toNat - (0 : Nat) + (len - (IntKind.i64.wrap (IntKind.i64.wrap (IntKind.i64.wrap ((↑len : Int) - (1 : Int)) - i) + (1 : Int))).toNat)) : Int).toNat * 1) (List.take ((0 : Nat) + (0 : Nat) * 1 + ((IntKind.i64.wrap (IntKind.i64.wrap ((↑len : Int) - (1 : Int)) - i)).toNat - (0 : Nat)) * 1) l ++ List.take ((len - (IntKind.i64.wrap (IntKind.i64.wrap (IntKind.i64.wrap ((↑len : Int) - (1 : Int)) - i) + (1 : Int))).toNat) * 1) (List.drop ((0 : Nat) + (IntKind.i64.wrap (IntKind.i64.wrap (IntKind.i64.wrap ((↑len : Int) - (1 : Int)) - i) + (1 : Int))).toNat * 1) l) ++ List.drop ((0 : Nat) + (0 : Nat) * 1 + ((IntKind.i64.wrap (IntKind.i64.wrap ((↑len : Int) - (1 : Int)) - i)).toNat - (0 : Nat)) * 1 + (List.take ((len - (IntKind.i64.wrap (IntKind.i64.wrap (IntKind.i64.wrap ((↑len : Int) - (1 : Int)) - i) + (1 : Int))).toNat) * 1) (List.drop ((0 : Nat) + (IntKind.i64.wrap (IntKind.i64.wrap (IntKind.i64.wrap ((↑len : Int) - (1 : Int)) - i) + (1 : Int))).toNat * 1) l)).length) l) ++ List.replicate ((↑len : Int).toNat - (↑((IntKind.i64.wrap (IntKind.i64.wrap ((↑len : Int) - (1 : Int)) - i)).toNat - (0 : Nat) + (len - (IntKind.i64.wrap (IntKind.i64.wrap (IntKind.i64.wrap ((↑len : Int) - (1 : Int)) - i) + (1 : Int))).toNat)) : Int).toNat) (0 : Int) ++ List.drop ((0 : Nat) + (0 : Nat) * 1 + (↑((IntKind.i64.wrap (IntKind.i64.wrap ((↑len : Int) - (1 : Int)) - i)).toNat - (0 : Nat) + (len - (IntKind.i64.wrap (IntKind.i64.wrap (IntKind.i64.wrap ((↑len : Int) - (1 : Int)) - i) + (1 : Int))).toNat)) : Int).toNat * 1 + (List.replicate ((↑len : Int).toNat - (↑((IntKind.i64.wrap (IntKind.i64.wrap ((↑len : Int) - (1 : Int)) - i)).toNat - (0 : Nat) + (len - (IntKind.i64.wrap (IntKind.i64.wrap (IntKind.i64.wrap ((↑len : Int) - (1 : Int)) - i) + (1 : Int))).toNat)) : Int).toNat) (0 : Int)).length) (List.take ((0 : Nat) + (0 : Nat) * 1 + ((IntKind.i64.wrap (IntKind.i64.wrap ((↑len : Int) - (1 : Int)) - i)).toNat - (0 : Nat)) * 1) l ++ List.take ((len - (IntKind.i64.wrap (IntKind.i64.wrap (IntKind.i64.wrap ((↑len : Int) - (1 : Int)) - i) + (1 : Int))).toNat) * 1) (List.drop ((0 : Nat) + (IntKind.i64.wrap (IntKind.i64.wrap (IntKind.i64.wrap ((↑len : Int) - (1 : Int)) - i) + (1 : Int))).toNat * 1) l) ++ List.drop ((0 : Nat) + (0 : Nat) * 1 + ((IntKind.i64.wrap (IntKind.i64.wrap ((↑len : Int) - (1 : Int)) - i)).toNat - (0 : Nat)) * 1 + (List.take ((len - (IntKind.i64.wrap (IntKind.i64.wrap (IntKind.i64.wrap ((↑len : Int) - (1 : Int)) - i) + (1 : Int))).toNat) * 1) (List.drop ((0 : Nat) + (IntKind.i64.wrap (IntKind.i64.wrap (IntKind.i64.wrap ((↑len : Int) - (1 : Int)) - i) + (1 : Int))).toNat * 1) l)).length) l)).length)) (cd (false = false ∧ (1 : Nat) = 1 ∧ (0 : Nat) < (1 : Nat) ∧ (0 : Nat) < 1 ∧ (0 : Nat) + (0 : Nat) * 1 + ((IntKind.i64.wrap (IntKind.i64.wrap ((↑len : Int) - (1 : Int)) - i)).toNat - (0 : Nat) + (len - (IntKind.i64.wrap (IntKind.i64.wrap (IntKind.i64.wrap ((↑len : Int) - (1 : Int)) - i) + (1 : Int))).toNat) + (1 : Nat)) * 1 ≤ (upd (1 : Nat) (upd (1 : Nat) (fun (x : Nat) => Cont.ints IntKind.u32 l) (0 : Nat) (Cont.ints IntKind.u32 (List.take ((0 : Nat) + (0 : Nat) * 1 + ((IntKind.i64.wrap (IntKind.i64.wrap ((↑len : Int) - (1 : Int)) - i)).toNat - (0 : Nat)) * 1) l ++ List.take ((len - (IntKind.i64.wrap (IntKind.i64.wrap (IntKind.i64.wrap ((↑len : Int) - (1 : Int)) - i) + (1 : Int))).toNat) * 1) (List.drop ((0 : Nat) + (IntKind.i64.wrap (IntKind.i64.wrap (IntKind.i64.wrap ((↑len : Int) - (1 : Int)) - i) + (1 : Int))).toNat * 1) l) ++ List.drop ((0 : Nat) + (0 : Nat) * 1 + ((IntKind.i64.wrap (IntKind.i64.wrap ((↑len : Int) - (1 : Int)) - i)).toNat - (0 : Nat)) * 1 + (List.take ((len - (IntKind.i64.wrap (IntKind.i64.wrap (IntKind.i64.wrap ((↑len : Int) - (1 : Int)) - i) + (1 : Int))).toNat) * 1) (List.drop ((0 : Nat) + (IntKind.i64.wrap (IntKind.i64.wrap (IntKind.i64.wrap ((↑len : Int) - (1 : Int)) - i) + (1 : Int))).toNat * 1) l)).length) l))) (0 : Nat) (Cont.ints IntKind.u32 (List.take ((0 : Nat) + (0 : Nat) * 1 + (↑((IntKind.i64.wrap (IntKind.i64.wrap ((↑len : Int) - (1 : Int)) - i)).toNat - (0 : Nat) + (len - (IntKind.i64.wrap (IntKind.i64.wrap (IntKind.i64.wrap ((↑len : Int) - (1 : Int)) - i) + (1 : Int))).toNat)) : Int).toNat * 1) (List.take ((0 : Nat) + (0 : Nat) * 1 + ((IntKind.i64.wrap (IntKind.i64.wrap ((↑len : Int) - (1 : Int)) - i)).toNat - (0 : Nat)) * 1) l ++ List.take ((len - (IntKind.i64.wrap (IntKind.i64.wrap (IntKind.i64.wrap ((↑len : Int) - (1 : Int)) - i) + (1 : Int))).toNat) * 1) (List.drop ((0 : Nat) + (IntKind.i64.wrap (IntKind.i64.wrap (IntKind.i64.wrap ((↑len : Int) - (1 : Int)) - i) + (1 : Int))).toNat * 1) l) ++ List.drop ((0 : Nat) + (0 : Nat) * 1 + ((IntKind.i64.wrap (IntKind.i64.wrap ((↑len : Int) - (1 : Int)) - i)).toNat - (0 : Nat)) * 1 + (List.take ((len - (IntKind.i64.wrap (IntKind.i64.wrap (IntKind.i64.wrap ((↑len : Int) - (1 : Int)) - i) + (1 : Int))).toNat) * 1) (List.drop ((0 : Nat) + (IntKind.i64.wrap (IntKind.i64.wrap (IntKind.i64.wrap ((↑len : Int) - (1 : Int)) - i) + (1 : Int))).toNat * 1) l)).length) l) ++ List.replicate ((↑len : Int).toNat - (↑((IntKind.i64.wrap (IntKind.i64.wrap ((↑len : Int) - (1 : Int)) - i)).toNat - (0 : Nat) + (len - (IntKind.i64.wrap (IntKind.i64.wrap (IntKind.i64.wrap ((↑len : Int) - (1 : Int)) - i) + (1 : Int))).toNat)) : Int).toNat) (0 : Int) ++ List.drop ((0 : Nat) + (0 : Nat) * 1 + (↑((IntKind.i64.wrap (IntKind.i64.wrap ((↑len : Int) - (1 : Int)) - i)).toNat - (0 : Nat) + (len - (IntKind.i64.wrap (IntKind.i64.wrap (IntKind.i64.wrap ((↑len : Int) - (1 : Int)) - i) + (1 : Int))).toNat)) : Int).toNat * 1 + (List.replicate ((↑len : Int).toNat - (↑((IntKind.i64.wrap (IntKind.i64.wrap ((↑len : Int) - (1 : Int)) - i)).toNat - (0 : Nat) + (len - (IntKind.i64.wrap (IntKind.i64.wrap (IntKind.i64.wrap ((↑len : Int) - (1 : Int)) - i) + (1 : Int))).toNat)) : Int).toNat) (0 : Int)).length) (List.take ((0 : Nat) + (0 : Nat) * 1 + ((IntKind.i64.wrap (IntKind.i64.wrap ((↑len : Int) - (1 : Int)) - i)).toNat - (0 : Nat)) * 1) l ++ List.take ((len - (IntKind.i64.wrap (IntKind.i64.wrap (IntKind.i64.wrap ((↑len : Int) - (1 : Int)) - i) + (1 : Int))).toNat) * 1) (List.drop ((0 : Nat) + (IntKind.i64.wrap (IntKind.i64.wrap (IntKind.i64.wrap ((↑len : Int) - (1 : Int)) - i) + (1 : Int))).toNat * 1) l) ++ List.drop ((0 : Nat) + (0 : Nat) * 1 + ((IntKind.i64.wrap (IntKind.i64.wrap ((↑len : Int) - (1 : Int)) - i)).toNat - (0 : Nat)) * 1 + (List.take ((len - (IntKind.i64.wrap (IntKind.i64.wrap (IntKind.i64.wrap ((↑len : Int) - (1 : Int)) - i) + (1 : Int))).toNat) * 1) (List.drop ((0 : Nat) + (IntKind.i64.wrap (IntKind.i64.wrap (IntKind.i64.wrap ((↑len : Int) - (1 : Int)) - i) + (1 : Int))).toNat * 1) l)).length) l))) (0 : Nat)).len ∧ match none with | some k => (IntKind.i64.wrap (IntKind.i64.wrap ((↑len : Int) - (1 : Int)) - i)).toNat - (0 : Nat) + (len - (IntKind.i64.wrap (IntKind.i64.wrap (IntKind.i64.wrap ((↑len : Int) - (1 : Int)) - i) + (1 : Int))).toNat) + (1 : Nat) ≤ k | none => True))).p] (AV.cell (Cell.int IntKind.i32 (0 : Int)), [some (Blk.cells true (1 : Nat) fun (x : Nat) => Cont.raw [Cell.slice false (1 : Nat) (0 : Nat) (0 : Nat) ((IntKind.i64.wrap (IntKind.i64.wrap ((↑len : Int) - (1 : Int)) - i)).toNat - (0 : Nat) + (len - (IntKind.i64.wrap (IntKind.i64.wrap (IntKind.i64.wrap ((↑len : Int) - (1 : Int)) - i) + (1 : Int))).toNat) + (1 : Nat)) none (1 : Nat), Cell.int IntKind.i64 m, Cell.int IntKind.i32 o, Cell.int IntKind.i32 u]), some (Blk.cells true (1 : Nat) fun (x : Nat) => Cont.ints IntKind.u32 (List.take ((0 : Nat) + (0 : Nat) * 1 + ((IntKind.i64.wrap (IntKind.i64.wrap ((↑len : Int) - (1 : Int)) - i)).toNat - (0 : Nat) + (len - (IntKind.i64.wrap (IntKind.i64.wrap (IntKind.i64.wrap ((↑len : Int) - (1 : Int)) - i) + (1 : Int))).toNat)) * 1) (List.take ((0 : Nat) + (0 : Nat) * 1 + (↑((IntKind.i64.wrap (IntKind.i64.wrap ((↑len : Int) - (1 : Int)) - i)).toNat - (0 : Nat) + (len - (IntKind.i64.wrap (IntKind.i64.wrap (IntKind.i64.wrap ((↑len : Int) - (1 : Int)) - i) + (1 : Int))).toNat)) : Int).toNat * 1) (List.take ((0 : Nat) + (0 : Nat) * 1 + ((IntKind.i64.wrap (IntKind.i64.wrap ((↑len : Int) - (1 : Int)) - i)).toNat - (0 : Nat)) * 1) l ++ List.take ((len - (IntKind.i64.wrap (IntKind.i64.wrap (IntKind.i64.wrap ((↑len : Int) - (1 : Int)) - i) + (1 : Int))).toNat) * 1) (List.drop ((0 : Nat) + (IntKind.i64.wrap (IntKind.i64.wrap (IntKind.i64.wrap ((↑len : Int) - (1 : Int)) - i) + (1 : Int))).toNat * 1) l) ++ List.drop ((0 : Nat) + (0 : Nat) * 1 + ((IntKind.i64.wrap (IntKind.i64.wrap ((↑len : Int) - (1 : Int)) - i)).toNat - (0 : Nat)) * 1 + (List.take ((len - (IntKind.i64.wrap (IntKind.i64.wrap (IntKind.i64.wrap ((↑len : Int) - (1 : Int)) - i) + (1 : Int))).toNat) * 1) (List.drop ((0 : Nat) + (IntKind.i64.wrap (IntKind.i64.wrap (IntKind.i64.wrap ((↑len : Int) - (1 : Int)) - i) + (1 : Int))).toNat * 1) l)).length) l) ++ List.replicate ((↑len : Int).toNat - (↑((IntKind.i64.wrap (IntKind.i64.wrap ((↑len : Int) - (1 : Int)) - i)).toNat - (0 : Nat) + (len - (IntKind.i64.wrap (IntKind.i64.wrap (IntKind.i64.wrap ((↑len : Int) - (1 : Int)) - i) + (1 : Int))).toNat)) : Int).toNat) (0 : Int) ++ List.drop ((0 : Nat) + (0 : Nat) * 1 + (↑((IntKind.i64.wrap (IntKind.i64.wrap ((↑len : Int) - (1 : Int)) - i)).toNat - (0 : Nat) + (len - (IntKind.i64.wrap (IntKind.i64.wrap (IntKind.i64.wrap ((↑len : Int) - (1 : Int)) - i) + (1 : Int))).toNat)) : Int).toNat * 1 + (List.replicate ((↑len : Int).toNat - (↑((IntKind.i64.wrap (IntKind.i64.wrap ((↑len : Int) - (1 : Int)) - i)).toNat - (0 : Nat) + (len - (IntKind.i64.wrap (IntKind.i64.wrap (IntKind.i64.wrap ((↑len : Int) - (1 : Int)) - i) + (1 : Int))).toNat)) : Int).toNat) (0 : Int)).length) (List.take ((0 : Nat) + (0 : Nat) * 1 + ((IntKind.i64.wrap (IntKind.i64.wrap ((↑len : Int) - (1 : Int)) - i)).toNat - (0 : Nat)) * 1) l ++ List.take ((len - (IntKind.i64.wrap (IntKind.i64.wrap (IntKind.i64.wrap ((↑len : Int) - (1 : Int)) - i) + (1 : Int))).toNat) * 1) (List.drop ((0 : Nat) + (IntKind.i64.wrap (IntKind.i64.wrap (IntKind.i64.wrap ((↑len : Int) - (1 : Int)) - i) + (1 : Int))).toNat * 1) l) ++ List.drop ((0 : Nat) + (0 : Nat) * 1 + ((IntKind.i64.wrap (IntKind.i64.wrap ((↑len : Int) - (1 : Int)) - i)).toNat - (0 : Nat)) * 1 + (List.take ((len - (IntKind.i64.wrap (IntKind.i64.wrap (IntKind.i64.wrap ((↑len : Int) - (1 : Int)) - i) + (1 : Int))).toNat) * 1) (List.drop ((0 : Nat) + (IntKind.i64.wrap (IntKind.i64.wrap (IntKind.i64.wrap ((↑len : Int) - (1 : Int)) - i) + (1 : Int))).toNat * 1) l)).length) l)) ++ [l.getD ((0 : Nat) + (IntKind.i64.wrap (IntKind.i64.wrap ((↑len : Int) - (1 : Int)) - i)).toNat * 1) (0 : Int)] ++ List.drop ((0 : Nat) + (0 : Nat) * 1 + ((IntKind.i64.wrap (IntKind.i64.wrap ((↑len : Int) - (1 : Int)) - i)).toNat - (0 : Nat) + (len - (IntKind.i64.wrap (IntKind.i64.wrap (IntKind.i64.wrap ((↑len : Int) - (1 : Int)) - i) + (1 : Int))).toNat)) * 1 + [l.getD ((0 : Nat) + (IntKind.i64.wrap (IntKind.i64.wrap ((↑len : Int) - (1 : Int)) - i)).toNat * 1) (0 : Int)].length) (List.take ((0 : Nat) + (0 : Nat) * 1 + (↑((IntKind.i64.wrap (IntKind.i64.wrap ((↑len : Int) - (1 : Int)) - i)).toNat - (0 : Nat) + (len - (IntKind.i64.wrap (IntKind.i64.wrap (IntKind.i64.wrap ((↑len : Int) - (1 : Int)) - i) + (1 : Int))).toNat)) : Int).toNat * 1) (List.take ((0 : Nat) + (0 : Nat) * 1 + ((IntKind.i64.wrap (IntKind.i64.wrap ((↑len : Int) - (1 : Int)) - i)).toNat - (0 : Nat)) * 1) l ++ List.take ((len - (IntKind.i64.wrap (IntKind.i64.wrap (IntKind.i64.wrap ((↑len : Int) - (1 : Int)) - i) + (1 : Int))).toNat) * 1) (List.drop ((0 : Nat) + (IntKind.i64.wrap (IntKind.i64.wrap (IntKind.i64.wrap ((↑len : Int) - (1 : Int)) - i) + (1 : Int))).toNat * 1) l) ++ List.drop ((0 : Nat) + (0 : Nat) * 1 + ((IntKind.i64.wrap (IntKind.i64.wrap ((↑len : Int) - (1 : Int)) - i)).toNat - (0 : Nat)) * 1 + (List.take ((len - (IntKind.i64.wrap (IntKind.i64.wrap (IntKind.i64.wrap ((↑len : Int) - (1 : Int)) - i) + (1 : Int))).toNat) * 1) (List.drop ((0 : Nat) + (IntKind.i64.wrap (IntKind.i64.wrap (IntKind.i64.wrap ((↑len : Int) - (1 : Int)) - i) + (1 : Int))).toNat * 1) l)).length) l) ++ List.replicate ((↑len : Int).toNat - (↑((IntKind.i64.wrap (IntKind.i64.wrap ((↑len : Int) - (1 : Int)) - i)).toNat - (0 : Nat) + (len - (IntKind.i64.wrap (IntKind.i64.wrap (IntKind.i64.wrap ((↑len : Int) - (1 : Int)) - i) + (1 : Int))).toNat)) : Int).toNat) (0 : Int) ++ List.drop ((0 : Nat) + (0 : Nat) * 1 + (↑((IntKind.i64.wrap (IntKind.i64.wrap ((↑len : Int) - (1 : Int)) - i)).toNat - (0 : Nat) + (len - (IntKind.i64.wrap (IntKind.i64.wrap (IntKind.i64.wrap ((↑len : Int) - (1 : Int)) - i) + (1 : Int))).toNat)) : Int).toNat * 1 + (List.replicate ((↑len : Int).toNat - (↑((IntKind.i64.wrap (IntKind.i64.wrap ((↑len : Int) - (1 : Int)) - i)).toNat - (0 : Nat) + (len - (IntKind.i64.wrap (IntKind.i64.wrap (IntKind.i64.wrap ((↑len : Int) - (1 : Int)) - i) + (1 : Int))).toNat)) : Int).toNat) (0 : Int)).length) (List.take ((0 : Nat) + (0 : Nat) * 1 + ((IntKind.i64.wrap (IntKind.i64.wrap ((↑len : Int) - (1 : Int)) - i)).toNat - (0 : Nat)) * 1) l ++ List.take ((len - (IntKind.i64.wrap (IntKind.i64.wrap (IntKind.i64.wrap ((↑len : Int) - (1 : Int)) - i) + (1 : Int))).toNat) * 1) (List.drop ((0 : Nat) + (IntKind.i64.wrap (IntKind.i64.wrap (IntKind.i64.wrap ((↑len : Int) - (1 : Int)) - i) + (1 : Int))).toNat * 1) l) ++ List.drop ((0 : Nat) + (0 : Nat) * 1 + ((IntKind.i64.wrap (IntKind.i64.wrap ((↑len : Int) - (1 : Int)) - i)).toNat - (0 : Nat)) * 1 + (List.take ((len - (IntKind.i64.wrap (IntKind.i64.wrap (IntKind.i64.wrap ((↑len : Int) - (1 : Int)) - i) + (1 : Int))).toNat) * 1) (List.drop ((0 : Nat) + (IntKind.i64.wrap (IntKind.i64.wrap (IntKind.i64.wrap ((↑len : Int) - (1 : Int)) - i) + (1 : Int))).toNat * 1) l)).length) l)))), some (Blk.cells true (1 : Nat) fun (x : Nat) => Cont.raw [Cell.int IntKind.u32 (l.getD ((0 : Nat) + (IntKind.i64.wrap (IntKind.i64.wrap ((↑len : Int) - (1 : Int)) - i)).toNat * 1) (0 : Int))])], (0 : Nat), []) := ⟨by kernel_rfl, by kernel_rfl⟩

theorem rollI_2 (len : Nat) (l : List Int) (m : Int) (o : Int) (u : Int) (i : Int) : Good (ev (rollI len l m o u i).1 (rollI len l m o u i).2.1 (rollI len l m o u i).2.2 [1, 1, 1, 0, 1, 0, 0, 0, 0, 0, 0, 2, 0, 0, 1, 1, 2, 1, 3]) [0, 0, 0, 4, 0, 0, 8, 0, 4, 0, 0, 0, 1, 0, 1] [(decide (i < (0 : Int)) == false) = true, (decide (i < (0 : Int)) == false) = true, (decide (i < (0 : Int)) == false) = true, (decide (i < (0 : Int)) == false) = true, decide (i < (0 : Int)) = false, decide (i ≥ (↑len : Int)) = false, false = false ∧ (0 : Int) ≤ IntKind.i64.wrap (IntKind.i64.wrap ((↑len : Int) - (1 : Int)) - i) ∧ IntKind.i64.wrap (IntKind.i64.wrap ((↑len : Int) - (1 : Int)) - i) < (↑len : Int), (cd (false = false)).p ∧ (cand (cd ((0 : Nat) < (1 : Nat))) (cand (cd ((0 : Nat) + (IntKind.i64.wrap (IntKind.i64.wrap ((↑len : Int) - (1 : Int)) - i)).toNat * 1 < l.length)) (cd True))).p, (cd ((0 : Int) ≤ IntKind.i64.wrap (IntKind.i64.wrap ((↑len : Int) - (1 : Int)) - i))).p ∧ (cand (cd ((0 : Int) ≤ IntKind.i64.wrap (IntKind.i64.wrap (IntKind.i64.wrap ((↑len : Int) - (1 : Int)) - i) + (1 : Int)))) (cand (cd ((0 : Int) ≤ (↑len : Int))) (cand (cd ((some (Operand.tmp (12 : Nat))).isSome = true → (some (Operand.tmp (10 : Nat))).isSome = true)) (cd ((1 : Nat) = 1 ∧ (IntKind.i64.wrap (IntKind.i64.wrap ((↑len : Int) - (1 : Int)) - i)).toNat ≤ (IntKind.i64.wrap (IntKind.i64.wrap (IntKind.i64.wrap ((↑len : Int) - (1 : Int)) - i) + (1 : Int))).toNat ∧ (IntKind.i64.wrap (IntKind.i64.wrap (IntKind.i64.wrap ((↑len : Int) - (1 : Int)) - i) + (1 : Int))).toNat ≤ (↑len : Int).toNat ∧ (↑len : Int).toNat ≤ len ∧ ((IntKind.i64.wrap (IntKind.i64.wrap ((↑len : Int) - (1 : Int)) - i)).toNat = (0 : Nat) ∨ (IntKind.i64.wrap (IntKind.i64.wrap ((↑len : Int) - (1 : Int)) - i)).toNat < (↑len : Int).toNat)))))).p, (IntKind.i64.wrap (IntKind.i64.wrap ((↑len : Int) - (1 : Int)) - i) == IntKind.i64.wrap (IntKind.i64.wrap (IntKind.i64.wrap ((↑len : Int) - (1 : Int)) - i) + (1 : Int))) = false, True ∧ (cand (cd ((0 : Int) ≤ IntKind.i64.wrap (IntKind.i64.wrap ((↑len : Int) - (1 : Int)) - i))) (cand (cd True) (cand (cd ((none : Option Operand).isSome = true → (some (Operand.tmp (21 : Nat))).isSome = true)) (cd ((1 : Nat) = 1 ∧ (0 : Nat) ≤ (IntKind.i64.wrap (IntKind.i64.wrap ((↑len : Int) - (1 : Int)) - i)).toNat ∧ (IntKind.i64.wrap (IntKind.i64.wrap ((↑len : Int) - (1 : Int)) - i)).toNat ≤ len ∧ ((0 : Nat) = (0 : Nat) ∨ (0 : Nat) < len)))))).p, (cd ((0 : Int) ≤ IntKind.i64.wrap (IntKind.i64.wrap (IntKind.i64.wrap ((↑len : Int) - (1 : Int)) - i) + (1 : Int)))).p ∧ (cand (cd True) (cand (cd True) (cand (cd ((none : Option Operand).isSome = true → (none : Option Operand).isSome = true)) (cd (false = false ∧ (IntKind.i64.wrap (IntKind.i64.wrap (IntKind.i64.wrap ((↑len : Int) - (1 : Int)) - i) + (1 : Int))).toNat = len ∧ len ≤ len ∧ (none : Option Nat) = none))))).p, (cd ((0 : Int) ≤ (↑((IntKind.i64.wrap (IntKind.i64.wrap ((↑len : Int) - (1 : Int)) - i)).toNat - (0 : Nat)) : Int))).p ∧ (cand (cd ((0 : Int) ≤ (↑len : Int))) (cand (cd ((0 : Nat) < (1 : Nat))) (cd (false = false ∧ (1 : Nat) = 1 ∧ (0 : Nat) < 1 ∧ (↑((IntKind.i64.wrap (IntKind.i64.wrap ((↑len : Int) - (1 : Int)) - i)).toNat - (0 : Nat)) : Int).toNat ≤ (↑len : Int).toNat ∧ ((↑((IntKind.i64.wrap (IntKind.i64.wrap ((↑len : Int) - (1 : Int)) - i)).toNat - (0 : Nat)) : Int).toNat = (0 : Nat) ∨ (↑((IntKind.i64.wrap (IntKind.i64.wrap ((↑len : Int) - (1 : Int)) - i)).toNat - (0 : Nat)) : Int).toNat < (↑len : Int).toNat) ∧ (0 : Nat) + (0 : Nat) * 1 + (↑len : Int).toNat * 1 ≤ (Cont.ints IntKind.u32 l).len)))).p, (cd ((0 : Nat) + (0 : Nat) * 1 + (↑((IntKind.i64.wrap (IntKind.i64.wrap ((↑len : Int) - (1 : Int)) - i)).toNat - (0 : Nat)) : Int).toNat * 1 + (List.replicate ((↑len : Int).toNat - (↑((IntKind.i64.wrap (IntKind.i64.wrap ((↑len : Int) - (1 : Int)) - i)).toNat - (0 : Nat)) : Int).toNat) (0 : Int)).length ≤ l.length)).p ∧ (cd (false = false ∧ (0 : Nat) < (1 : Nat) ∧ (0 : Nat) < (↑len : Int).toNat - (↑((IntKind.i64.wrap (IntKind.i64.wrap ((↑len : Int) - (1 : Int)) - i)).toNat - (0 : Nat)) : Int).toNat)).p, (cand (cd (false = true ∨ 1 = 1)) (cand (cd ((0 : Nat) < (1 : Nat))) (cd True))).p ∧ (cand (cd ((0 : Nat) + (0 : Nat) * 1 + ((IntKind.i64.wrap (IntKind.i64.wrap ((↑len : Int) - (1 : Int)) - i)).toNat - (0 : Nat)) * 1 + [l.getD ((0 : Nat) + (IntKind.i64.wrap (IntKind.i64.wrap ((↑len : Int) - (1 : Int)) - i)).toNat * 1) (0 : Int)].length ≤ (List.take ((0 : Nat) + (0 : Nat) * 1 + (↑((IntKind.i64.wrap (IntKind.i64.wrap ((↑len : Int) - (1 : Int)) - i)).toNat - (0 : Nat)) : Int).toNat * 1) l ++ List.replicate ((↑len : Int).toNat - (↑((IntKind.i64.wrap (IntKind.i64.wrap ((↑len : Int) - (1 : Int)) - i)).toNat - (0 : Nat)) : Int).toNat) (0 : Int) ++ List.drop ((0 : Nat) + (0 : Nat) * 1 + (↑((IntKind.i64.wrap (IntKind.i64.wrap ((↑len : Int) - (1 : Int)) - i)).toNat - (0 : Nat)) : Int).toNat * 1 + (List.replicate ((↑len : Int).toNat - (↑((IntKind.i64.wrap (IntKind.i64.wrap ((↑len : Int) - (1 : Int)) - i)).toNat - (0 : Nat)) : Int).toNat) (0 : Int)).length) l).length)) (cd (false = false ∧ (1 : Nat) = 1 ∧ (0 : Nat) < (1 : Nat) ∧ (0 : Nat) < 1 ∧ (0 : Nat) + (0 : Nat) * 1 + ((IntKind.i64.wrap (IntKind.i64.wrap ((↑len : Int) - (1 : Int)) - i)).toNat - (0 : Nat) + (1 : Nat)) * 1 ≤ (upd (1 : Nat) (fun (x : Nat) => Cont.ints IntKind.u32 l) (0 : Nat) (Cont.ints IntKind.u32 (List.take ((0 : Nat) + (0 : Nat) * 1 + (↑((IntKind.i64.wrap (IntKind.i64.wrap ((↑len : Int) - (1 : Int)) - i)).toNat - (0 : Nat)) : Int).toNat * 1) l ++ List.replicate ((↑len : Int).toNat - (↑((IntKind.i64.wrap (IntKind.i64.wrap ((↑len : Int) - (1 : Int)) - i)).toNat - (0 : Nat)) : Int).toNat) (0 : Int) ++ List.drop ((0 : Nat) + (0 : Nat) * 1 + (↑((IntKind.i64.wrap (IntKind.i64.wrap ((↑len : Int) - (1 : Int)) - i)).toNat - (0 : Nat)) : Int).toNat * 1 + (List.replicate ((↑len : Int).toNat - (↑((IntKind.i64.wrap (IntKind.i64.wrap ((↑len : Int) - (1 : Int)) - i)).toNat - (0 : Nat)) : Int).toNat) (0 : Int)).length) l)) (0 : Nat)).len ∧ match none with | some k => (IntKind.i64.wrap (IntKind.i64.wrap ((↑len : Int) - (1 : Int)) - i)).toNat - (0 : Nat) + (1 : Nat) ≤ k | none => True))).p] (AV.cell (Cell.int IntKind.i32 (0 : Int)), [some (Blk.cells true (1 : Nat) fun (x : Nat) => Cont.raw [Cell.slice false (1 : Nat) (0 : Nat) (0 : Nat) ((IntKind.i64.wrap (IntKind.i64.wrap ((↑len : Int) - (1 : Int)) - i)).toNat - (0 : Nat) + (1 : Nat)) none (1 : Nat), Cell.int IntKind.i64 m, Cell.int IntKind.i32 o, Cell.int IntKind.i32 u]), some (Blk.cells true (1 : Nat) fun (x : Nat) => Cont.ints IntKind.u32 (List.take ((0 : Nat) + (0 : Nat) * 1 + ((IntKind.i64.wrap (IntKind.i64.wrap ((↑len : Int) - (1 : Int)) - i)).toNat - (0 : Nat)) * 1) (List.take ((0 : Nat) + (0 : Nat) * 1 + (↑((IntKind.i64.wrap (IntKind.i64.wrap ((↑len : Int) - (1 : Int)) - i)).toNat - (0 : Nat)) : Int).toNat * 1) l ++ List.replicate ((↑len : Int).toNat - (↑((IntKind.i64.wrap (IntKind.i64.wrap ((↑len : Int) - (1 : Int)) - i)).toNat - (0 : Nat)) : Int).toNat) (0 : Int) ++ List.drop ((0 : Nat) + (0 : Nat) * 1 + (↑((IntKind.i64.wrap (IntKind.i64.wrap ((↑len : Int) - (1 : Int)) - i)).toNat - (0 : Nat)) : Int).toNat * 1 + (List.replicate ((↑len : Int).toNat - (↑((IntKind.i64.wrap (IntKind.i64.wrap ((↑len : Int) - (1 : Int)) - i)).toNat - (0 : Nat)) : Int).toNat) (0 : Int)).length) l) ++ [l.getD ((0 : Nat) + (IntKind.i64.wrap (IntKind.i64.wrap ((↑len : Int) - (1 : Int)) - i)).toNat * 1) (0 : Int)] ++ List.drop ((0 : Nat) + (0 : Nat) * 1 + ((IntKind.i64.wrap (IntKind.i64.wrap ((↑len : Int) - (1 : Int)) - i)).toNat - (0 : Nat)) * 1 + [l.getD ((0 : Nat) + (IntKind.i64.wrap (IntKind.i64.wrap ((↑len : Int) - (1 : Int)) - i)).toNat * 1) (0 : Int)].length) (List.take ((0 : Nat) + (0 : Nat) * 1 + (↑((IntKind.i64.wrap (IntKind.i64.wrap ((↑len : Int) - (1 : Int)) - i)).toNat - (0 : Nat)) : Int).toNat * 1) l ++ List.replicate ((↑len : Int).toNat - (↑((IntKind.i64.wrap (IntKind.i64.wrap ((↑len : Int) - (1 : Int)) - i)).toNat - (0 : Nat)) : Int).toNat) (0 : Int) ++ List.drop ((0 : Nat) + (0 : Nat) * 1 + (↑((IntKind.i64.wrap (IntKind.i64.wrap ((↑len : Int) - (1 : Int)) - i)).toNat - (0 : Nat)) : Int).toNat * 1 + (List.replicate ((↑len : Int).toNat - (↑((IntKind.i64.wrap (IntKind.i64.wrap ((↑len : Int) - (1 : Int)) - i)).toNat - (0 : Nat)) : Int).toNat) (0 : Int)).length) l))), some (Blk.cells true (1 : Nat) fun (x : Nat) => Cont.raw [Cell.int IntKind.u32 (l.getD ((0 : Nat) + (IntKind.i64.wrap (IntKind.i64.wrap ((↑len : Int) - (1 : Int)) - i)).toNat * 1) (0 : Int))])], (0 : Nat), []) := ⟨by kernel_rfl, by kernel_rfl⟩

theorem rollI_3 (len : Nat) (l : List Int) (m : Int) (o : Int) (u : Int) (i : Int) : Good (ev (rollI len l m o u i).1 (rollI len l m o u i).2.1 (rollI len l m o u i).2.2 [1, 1, 1, 0, 1, 0, 1, 1, 1, 1, 1, 1, 0, 0, 1]) [0, 0, 0, 4, 0, 0, 9, 3] [(decide (i < (0 : Int)) == false) = true, (decide (i < (0 : Int)) == false) = true, (decide (i < (0 : Int)) == false) = true, (decide (i < (0 : Int)) == false) = true, decide (i < (0 : Int)) = false, decide (i ≥ (↑len : Int)) = true, (m == (0 : Int)) = false, (u != (0 : Int)) = true] (AV.cell (Cell.int IntKind.i32 u), [some (Blk.cells true (1 : Nat) fun (x : Nat) => Cont.raw [Cell.slice false (1 : Nat) (0 : Nat) (0 : Nat) len none (1 : Nat), Cell.int IntKind.i64 m, Cell.int IntKind.i32 o, Cell.int IntKind.i32 u]), some (Blk.cells true (1 : Nat) fun (x : Nat) => Cont.ints IntKind.u32 l)], (2 : Nat), []) := ⟨by kernel_rfl, by kernel_rfl⟩

theorem rollI_4 (len : Nat) (l : List Int) (m : Int) (o : Int) (u : Int) (i : Int) : Good (ev (rollI len l m o u i).1 (rollI len l m o u i).2.1 (rollI len l m o u i).2.2 [0, 0, 0, 0, 1, 1, 1, 1, 1, 1, 1, 0, 0, 1]) [0, 0, 0, 0, 0, 10, 3] [(decide (i < (0 : Int)) == false) = false, (decide (i < (0 : Int)) == false) = false, (decide (i < (0 : Int)) == false) = false, (decide (i < (0 : Int)) == false) = false, decide (i < (0 : Int)) = true, (m == (0 : Int)) = false, (u != (0 : Int)) = true] (AV.cell (Cell.int IntKind.i32 u), [some (Blk.cells true (1 : Nat) fun (x : Nat) => Cont.raw [Cell.slice false (1 : Nat) (0 : Nat) (0 : Nat) len none (1 : Nat), Cell.int IntKind.i64 m, Cell.int IntKind.i32 o, Cell.int IntKind.i32 u]), some (Blk.cells true (1 : Nat) fun (x : Nat) => Cont.ints IntKind.u32 l)], (2 : Nat), []) := ⟨by kernel_rfl, by kernel_rfl⟩

theorem rollN_1 (m : Int) (o : Int) (u : Int) (i : Int) : Good (ev (rollN m o u i).1 (rollN m o u i).2.1 (rollN m o u i).2.2 [1, 1, 1, 0, 1, 0, 1, 1, 1, 1, 1, 1, 0, 0, 1]) [0, 0, 0, 4, 0, 0, 9, 3] [(decide (i < (0 : Int)) == false) = true, (decide (i < (0 : Int)) == false) = true, (decide (i < (0 : Int)) == false) = true, (decide (i < (0 : Int)) == false) = true, decide (i < (0 : Int)) = false, decide (i ≥ (0 : Int)) = true, (m == (0 : Int)) = false, (u != (0 : Int)) = true] (AV.cell (Cell.int IntKind.i32 u), [some (Blk.cells true (1 : Nat) fun (x : Nat) => Cont.raw [Cell.slice true (1000000007 : Nat) (0 : Nat) (0 : Nat) (0 : Nat) none (1 : Nat), Cell.int IntKind.i64 m, Cell.int IntKind.i32 o, Cell.int IntKind.i32 u])], (1 : Nat), []) := ⟨by kernel_rfl, by kernel_rfl⟩

theorem rollN_2 (m : Int) (o : Int) (u : Int) (i : Int) : Good (ev (rollN m o u i).1 (rollN m o u i).2.1 (rollN m o u i).2.2 [0, 0, 0, 0, 1, 1, 1, 1, 1, 1, 1, 0, 0, 1]) [0, 0, 0, 0, 0, 10, 3] [(decide (i < (0 : Int)) == false) = false, (decide (i < (0 : Int)) == false) = false, (decide (i < (0 : Int)) == false) = false, (decide (i < (0 : Int)) == false) = false, decide (i < (0 : Int)) = true, (m == (0 : Int)) = false, (u != (0 : Int)) = true] (AV.cell (Cell.int IntKind.i32 u), [some (Blk.cells true (1 : Nat) fun (x : Nat) => Cont.raw [Cell.slice true (1000000007 : Nat) (0 : Nat) (0 : Nat) (0 : Nat) none (1 : Nat), Cell.int IntKind.i64 m, Cell.int IntKind.i32 o, Cell.int IntKind.i32 u])], (1 : Nat), []) := ⟨by kernel_rfl, by kernel_rfl⟩

end Go.Proofs.Ytnoonoghemgbbaa.Sx

/-
  Stacks: part 5: All as a summary.
-/
set_option maxRecDepth 100000
set_option linter.unusedVariables false
set_option linter.unusedSimpArgs false
namespace Go.Proofs.Ytnoonoghemgbbaa.Sx
open Go

def allG : List AV → View → Option (List (Way Nob))
  | [.cell (.ptr false 0 0 0)], [(true, .raw [.slice true 1000000007 0 0 0 none 1, .int .i64 m, .int .i32 o, .int .i32 u])] =>
    some [⟨[], true, .cell (.slice true NIL 0 0 0 none 1), sv1 m o u, 1⟩]
  | [.cell (.ptr false 0 0 0)], [(true, .raw [.slice false 1 0 0 len none 1, .int .i64 m, .int .i32 o, .int .i32 u]), (true, .ints .u32 l)] =>
    some [⟨[cd (okS len l m u ∧ 0 < len)], decide (0 < len), .cell (.slice false 3 0 0 len none 1), sv2 len l m o u ++ [some (.cells true 1 fun _ => .raw []), some (.cells true 1 fun _ => .ints .u32 (l.take len))], 2⟩,
      ⟨[cd (okS len l m u ∧ len = 0)], true, .cell (.slice false 2 0 0 0 (some 0) 1), sv2 len l m o u ++ [some (.cells true 1 fun _ => .raw [])], 2⟩]
  | _, _ => none

theorem all_w : ∀ args Hc ws, allG args Hc = some ws → WaysOk Try.prog 13 (ofView Nob Hc) args ws := fun args Hc ws h => by
  unfold allG at h
  split at h
  · rename_i m o u
    cases h
    exact ⟨fun _ => (allN_1 m o u).can (v0_ok 13) trivial, trivial⟩
  · rename_i len m o u l
    cases h
    refine ⟨fun hc => ?_, fun hc => ?_, trivial⟩
    · obtain ⟨⟨⟨h1, h2, h3, h4, h5⟩, h6⟩, _⟩ := hc
      have := (allI_1 len l m o u).can (v0_ok 13) (by simp only [AllP]; simp; omega)
      rw [Nat.mul_one, Nat.zero_add, List.drop_zero] at this
      exact this
    · obtain ⟨⟨⟨h1, h2, h3, h4, h5⟩, h6⟩, _⟩ := hc
      have h6 : len = 0 := h6
      subst h6
      exact (allI_2 0 l m o u).can (v0_ok 13) (by simp only [AllP]; simp)
  · cases h

theorem all_ok : Valid Try.prog 13 (canonSum allG) := canon_of all_w

end Go.Proofs.Ytnoonoghemgbbaa.Sx

/-
  Stacks as objects: part 1: what the methods do.
-/
set_option maxRecDepth 100000
set_option linter.unusedVariables false
set_option linter.unusedSimpArgs false
namespace Go.Proofs.Ytnoonoghemgbbaa.Sx
open Go

abbrev i32' (n : Int) : AV := .cell (.int .i32 n)
abbrev stN (m o u : Int) : View := [(true, .raw [.slice true NIL 0 0 0 none 1, .int .i64 m, .int .i32 o, .int .i32 u])]
abbrev stI (len : Nat) (l : List Int) (m o u : Int) : View := [(true, .raw [.slice false 1 0 0 len none 1, .int .i64 m, .int .i32 o, .int .i32 u]), (true, .ints .u32 l)]
abbrev stO (cs : List Int) (m o u : Int) : Option (Blk Nob) := some (.obj (.ab (.stk cs m o u)))

theorem CanOk.weakV {P : Program} {f : FuncId} {H H' : Heap Nob} {args : List AV} {v v' : AV} {low : Nat} (hv : ∀ ρ r, RV ρ v r → RV ρ v' r) (h : CanOk P f H args v H' low) : CanOk P f H args v' H' low :=
  fun ρ w us r ha => (h ρ w us r ha).mono fun _ _ ⟨rv, ρ', e, hs, hr⟩ => ⟨rv, ρ', e, hs, hv _ _ hr⟩

theorem nil_empty {c : Option Nat} {sz : Nat} {id idx off : Nat} (ρ : Map) (r : Value) (h : RV ρ (.cell (.slice true id idx off 0 c sz)) r) : RV ρ (.cell .empty) r := by
  rcases h with ⟨_, _, rfl⟩ | ⟨h, _⟩
  · exact .inl rfl
  · cases h

theorem some_empty {c : Option Nat} {sz : Nat} {id idx off : Nat} (ρ : Map) (r : Value) (h : RV ρ (.cell (.slice false id idx off 0 c sz)) r) : RV ρ (.cell .empty) r := by
  rcases h with ⟨h, _⟩ | ⟨_, F, k, _, rfl, _⟩
  · cases h
  · exact .inr ⟨_, _, rfl⟩

theorem tk {l : List Int} {len : Nat} (h : len ≤ l.length) : (l.take len).length = len := by simp; omega
theorem tk_get {l : List Int} {len j : Nat} (h : j < len) : (l.take len).getD j 0 = l.getD j 0 := by
  simp only [List.getD_eq_getElem?_getD, List.getElem?_take, if_pos h]

theorem one_id {a : Option (Blk Nob)} : ∀ i, i < [a].length → [1][i]? = some (i + 1) := fun i hi => by
  have : i = 0 := by simp at hi; omega
  subst this
  rfl

/-- Each way in which a stack may lie. -/
theorem stk_ways {cs : List Int} {m o u : Int} {V : View} (h : (Ab.stk cs m o u).shows V) : ((cs.length : Int) ≤ m ∧ 0 < m ∧ m ≤ 65536 ∧ o ≠ 0 ∧ u ≠ 0) ∧ ((cs = [] ∧ V = stN m o u) ∨ ∃ len l, okS len l m u ∧ l.take len = cs ∧ cs.length = len ∧ V = stI len l m o u) := by
  obtain ⟨h0, h⟩ := h
  refine ⟨h0, ?_⟩
  rcases h with h | ⟨len, l, h1, h2, rfl⟩
  · exact .inl h
  · have e := tk h1
    rw [h2] at e
    exact .inr ⟨len, l, ⟨h1, by rw [← e]; exact h0.1, h0.2.1, by omega, h0.2.2.2.2⟩, h2, e, rfl⟩

theorem stk_shows {cs : List Int} {m o u : Int} {len : Nat} {l : List Int} (h1 : (cs.length : Int) ≤ m) (h2 : 0 < m ∧ m ≤ 65536 ∧ o ≠ 0 ∧ u ≠ 0) (h3 : len ≤ l.length) (h4 : l.take len = cs) : (Ab.stk cs m o u).shows (stI len l m o u) :=
  ⟨⟨h1, h2.1, h2.2.1, h2.2.2.1, h2.2.2.2⟩, .inr ⟨len, l, h3, h4, rfl⟩⟩

theorem len_o (cs : List Int) (m o u : Int) : CanOk Try.prog 30 [stO cs m o u] [sp] (i64 cs.length) [stO cs m o u] 1 :=
  CanOk.abR (R := []) rfl fun V hV => by
    obtain ⟨h0, ⟨rfl, rfl⟩ | ⟨len, l, h1, rfl, h3, rfl⟩⟩ := stk_ways hV
    · exact ⟨_, _, (len_w [sp] (stN m o u) _ rfl).get 0 _ rfl trivial, Nat.le_refl _⟩
    · rw [h3]
      exact ⟨_, _, (len_w [sp] (stI len l m o u) _ rfl).get 0 _ rfl trivial, Nat.le_refl _⟩

theorem peek_o1 {cs : List Int} {m o u i : Int} (hi : 0 ≤ i ∧ i < cs.length) : CanOk Try.prog 27 [stO cs m o u] [sp, i64 i] (.tup [.cell (.int .u32 (cs.getD (cs.length - 1 - i.toNat) 0)), .cell (.int .i32 0)]) [stO cs m o u] 1 :=
  CanOk.abR (R := []) rfl fun V hV => by
    obtain ⟨h0, ⟨rfl, rfl⟩ | ⟨len, l, h1, rfl, h3, rfl⟩⟩ := stk_ways hV
    · simp at hi; omega
    · rw [h3] at hi ⊢
      rw [tk_get (by omega)]
      exact ⟨_, _, (peek_w [sp, i64 i] (stI len l m o u) _ rfl).get 0 _ rfl ⟨⟨h1, hi⟩, trivial⟩, Nat.le_refl _⟩

theorem peek_o2 {cs : List Int} {m o u i : Int} (hi : i < 0 ∨ cs.length ≤ i) : CanOk Try.prog 27 [stO cs m o u] [sp, i64 i] (.tup [.cell (.int .u32 0), .cell (.int .i32 u)]) [stO cs m o u] 1 :=
  CanOk.abR (R := []) rfl fun V hV => by
    obtain ⟨h0, ⟨rfl, rfl⟩ | ⟨len, l, h1, rfl, h3, rfl⟩⟩ := stk_ways hV
    · exact ⟨_, _, (peek_w [sp, i64 i] (stN m o u) _ rfl).get 0 _ rfl ⟨⟨h0.2.1, h0.2.2.2.2⟩, trivial⟩, Nat.le_refl _⟩
    · rw [h3] at hi
      exact ⟨_, _, (peek_w [sp, i64 i] (stI len l m o u) _ rfl).get 1 _ rfl ⟨⟨h1, hi⟩, trivial⟩, Nat.le_refl _⟩

theorem may_o1 {cs : List Int} {m o u a b : Int} (h : 0 ≤ a ∧ a ≤ cs.length ∧ 0 ≤ b ∧ b ≤ m - (cs.length - a)) : CanOk Try.prog 25 [stO cs m o u] [sp, i64 a, i64 b] (i32' 0) [stO cs m o u] 1 :=
  CanOk.abR (R := []) rfl fun V hV => by
    obtain ⟨h0, ⟨rfl, rfl⟩ | ⟨len, l, h1, rfl, h3, rfl⟩⟩ := stk_ways hV
    · simp only [List.length_nil] at h
      exact ⟨_, _, (may_w [sp, i64 a, i64 b] (stN m o u) _ rfl).get 0 _ rfl ⟨by show a = 0 ∧ _; omega, trivial⟩, Nat.le_refl _⟩
    · rw [h3] at h
      exact ⟨_, _, (may_w [sp, i64 a, i64 b] (stI len l m o u) _ rfl).get 0 _ rfl ⟨⟨h1, h⟩, trivial⟩, Nat.le_refl _⟩

theorem may_o2 {cs : List Int} {m o u a b : Int} (h : cs.length < a ∧ a ≤ 65536) : CanOk Try.prog 25 [stO cs m o u] [sp, i64 a, i64 b] (i32' u) [stO cs m o u] 1 :=
  CanOk.abR (R := []) rfl fun V hV => by
    obtain ⟨h0, ⟨rfl, rfl⟩ | ⟨len, l, h1, rfl, h3, rfl⟩⟩ := stk_ways hV
    · simp only [List.length_nil] at h
      exact ⟨_, _, (may_w [sp, i64 a, i64 b] (stN m o u) _ rfl).get 1 _ rfl ⟨by show 0 < a ∧ _; omega, trivial⟩, Nat.le_refl _⟩
    · rw [h3] at h
      exact ⟨_, _, (may_w [sp, i64 a, i64 b] (stI len l m o u) _ rfl).get 1 _ rfl ⟨⟨h1, by omega⟩, trivial⟩, Nat.le_refl _⟩

theorem may_o3 {cs : List Int} {m o u a b : Int} (h : 0 ≤ a ∧ a ≤ cs.length ∧ 0 ≤ b ∧ m - (cs.length - a) < b) : CanOk Try.prog 25 [stO cs m o u] [sp, i64 a, i64 b] (i32' o) [stO cs m o u] 1 :=
  CanOk.abR (R := []) rfl fun V hV => by
    obtain ⟨h0, ⟨rfl, rfl⟩ | ⟨len, l, h1, rfl, h3, rfl⟩⟩ := stk_ways hV
    · simp only [List.length_nil] at h
      exact ⟨_, _, (may_w [sp, i64 a, i64 b] (stN m o u) _ rfl).get 2 _ rfl ⟨by show a = 0 ∧ _; omega, trivial⟩, Nat.le_refl _⟩
    · rw [h3] at h
      exact ⟨_, _, (may_w [sp, i64 a, i64 b] (stI len l m o u) _ rfl).get 2 _ rfl ⟨⟨h1, h⟩, trivial⟩, Nat.le_refl _⟩

/-- What becomes of a stack alone. -/
theorem stk_to {f : FuncId} {args : List AV} {v : AV} {cs cs' : List Int} {m o u : Int} (hv : ∀ f, renV f v = v)
    (h : ∀ V, (Ab.stk cs m o u).shows V → ∃ V' low, CanOk Try.prog f (ofView Nob V) args v (ofView Nob V') low ∧ (Ab.stk cs' m o u).shows V') : CanOk Try.prog f [stO cs m o u] args v [stO cs' m o u] 0 :=
  Shut.can_ (R := []) (T := []) fun V hV => by
    obtain ⟨V', low, hc, hs⟩ := h V hV
    have hVe : opn 0 ([] : Heap Nob) V = ofView Nob V := by
      obtain ⟨_, ⟨_, rfl⟩ | ⟨len, l, _, _, _, rfl⟩⟩ := stk_ways hV <;> rfl
    obtain ⟨_, ⟨_, rfl⟩ | ⟨len, l, _, _, _, rfl⟩⟩ := stk_ways hs
    · exact ⟨{ v1 := v, H1 := ofView Nob (stN m o u), low := low, es := [], κt := [], V' := stN m o u, can := (by have h1 := hc; rw [← hVe] at h1; exact h1), few := (by simp [ofView]), nodup := (by decide), hθ := ⟨rfl, trivial⟩, own := (by simp), shows := hs, nodupκ := (by decide), hκ := ⟨Nat.succ_pos _, trivial⟩, hid := (fun i hi => absurd hi (by simp)), dis := (by simp), hv := (hv _).symm }⟩
    · exact ⟨{ v1 := v, H1 := ofView Nob (stI len l m o u), low := low, es := [1], κt := [], V' := stI len l m o u, can := (by have h1 := hc; rw [← hVe] at h1; exact h1), few := (by simp [ofView]), nodup := (by decide), hθ := ⟨rfl, rfl, trivial⟩, own := (by simp), shows := hs, nodupκ := (by decide), hκ := ⟨Nat.succ_pos _, trivial⟩, hid := (fun i hi => absurd hi (by simp)), dis := (by simp), hv := (hv _).symm }⟩

theorem pop_o1 {cs : List Int} {m o u : Int} (h : 0 < cs.length) : CanOk Try.prog 40 [stO cs m o u] [sp] (.tup [.cell (.int .u32 (cs.getD (cs.length - 1) 0)), .cell (.int .i32 0)]) [stO (cs.take (cs.length - 1)) m o u] 0 :=
  stk_to (fun _ => rfl) fun V hV => by
    obtain ⟨h0, ⟨rfl, rfl⟩ | ⟨len, l, h1, rfl, h3, rfl⟩⟩ := stk_ways hV
    · simp at h
    · rw [h3] at h h0 ⊢
      rw [tk_get (by omega)]
      refine ⟨stI (len - 1) l m o u, _, (pop_w [sp] (stI len l m o u) _ rfl).get 0 _ rfl ⟨⟨h1, h⟩, trivial⟩, stk_shows ?_ h0.2 (by have := h1.1; omega) ?_⟩
      · simp; omega
      · rw [List.take_take, Nat.min_eq_left (by omega)]

theorem pop_o2 {m o u : Int} : CanOk Try.prog 40 [stO [] m o u] [sp] (.tup [.cell (.int .u32 0), .cell (.int .i32 u)]) [stO [] m o u] 0 :=
  stk_to (fun _ => rfl) fun V hV => by
    obtain ⟨h0, ⟨_, rfl⟩ | ⟨len, l, h1, h2, h3, rfl⟩⟩ := stk_ways hV
    · exact ⟨stN m o u, _, (pop_w [sp] (stN m o u) _ rfl).get 0 _ rfl ⟨⟨h0.2.1, h0.2.2.2.2⟩, trivial⟩, hV⟩
    · exact ⟨stI len l m o u, _, (pop_w [sp] (stI len l m o u) _ rfl).get 1 _ rfl ⟨⟨h1, h3.symm⟩, trivial⟩, hV⟩

theorem cut_o {cs : List Int} {m o u a : Int} (h : 0 ≤ a ∧ a ≤ cs.length) : CanOk Try.prog 29 [stO cs m o u] [sp, i64 a] (i32' 0) [stO (cs.take a.toNat) m o u] 0 :=
  stk_to (fun _ => rfl) fun V hV => by
    obtain ⟨h0, ⟨rfl, rfl⟩ | ⟨len, l, h1, rfl, h3, rfl⟩⟩ := stk_ways hV
    · simp only [List.length_nil] at h
      exact ⟨stN m o u, _, (cut_w [sp, i64 a] (stN m o u) _ rfl).get 0 _ rfl ⟨⟨h0.2.1, by omega⟩, trivial⟩, by simpa using hV⟩
    · rw [h3] at h h0
      refine ⟨stI a.toNat l m o u, _, (cut_w [sp, i64 a] (stI len l m o u) _ rfl).get 0 _ rfl ⟨⟨h1, h⟩, trivial⟩, stk_shows ?_ h0.2 (by have := h1.1; omega) ?_⟩
      · simp; omega
      · rw [List.take_take, Nat.min_eq_left (by omega)]

abbrev intsB (xs : List Int) : Option (Blk Nob) := some (.cells true 1 fun _ => .ints .u32 xs)
abbrev slV (id k : Nat) (c : Option Nat) : AV := .cell (.slice false id 0 0 k c 1)

theorem push_o1 {cs : List Int} {m o u : Int} {k : Nat} {c : Option Nat} {xs : List Int} (h : k ≤ xs.length ∧ (k : Int) ≤ m - cs.length) :
    CanOk Try.prog 21 [stO cs m o u, intsB xs] [sp, slV 1 k c] (i32' 0) [stO (cs ++ xs.take k) m o u, intsB xs] 0 :=
  Shut.can_ (R := [intsB xs]) (T := [intsB xs]) fun V hV => by
    have hx : (xs.take k).length = k := tk h.1
    obtain ⟨h0, ⟨rfl, rfl⟩ | ⟨len, l, h1, h2, h3, rfl⟩⟩ := stk_ways hV
    · simp only [List.length_nil] at h
      rcases Nat.eq_zero_or_pos k with hk | hk
      · subst hk
        exact ⟨{ v1 := i32' 0, H1 := sv4 m o u xs, low := _, es := [], κt := [1], V' := stN m o u, can := (push_w [sp, slV 1 0 c] [(true, .raw [.slice true NIL 0 0 0 none 1, .int .i64 m, .int .i32 o, .int .i32 u]), (true, .ints .u32 xs)] _ rfl).get 1 _ rfl ⟨by show 0 < m ∧ _; omega, trivial⟩, few := (by simp [ofView]), nodup := (by decide), hθ := ⟨rfl, trivial⟩, own := (by simp), shows := (by simpa using hV), nodupκ := (by decide), hκ := ⟨Nat.succ_pos _, rfl, trivial⟩, hid := (one_id), dis := (by decide), hv := rfl }⟩
      · exact ⟨{ v1 := i32' 0, H1 := [some (.cells true 1 fun _ => .raw [.slice false 2 0 0 k none 1, .int .i64 m, .int .i32 o, .int .i32 u]), some (.cells true 1 fun _ => .ints .u32 xs), some (.cells true 1 fun _ => .ints .u32 (xs.take k))], low := _, es := [2], κt := [1], V' := stI k (xs.take k) m o u, can := (push_w [sp, slV 1 k c] [(true, .raw [.slice true NIL 0 0 0 none 1, .int .i64 m, .int .i32 o, .int .i32 u]), (true, .ints .u32 xs)] _ rfl).get 0 _ rfl ⟨by show 0 < m ∧ _; omega, trivial⟩, few := (by simp [ofView]), nodup := (by decide), hθ := ⟨rfl, rfl, trivial⟩, own := (by simp), shows := stk_shows (by simp only [List.nil_append, hx]; omega) h0.2 (by omega) (by rw [List.take_take, Nat.min_self]; rfl), nodupκ := (by decide), hκ := ⟨Nat.succ_pos _, rfl, trivial⟩, hid := (one_id), dis := (by decide), hv := rfl }⟩
    · rw [h3] at h h0
      rcases Nat.eq_zero_or_pos k with hk | hk
      · subst hk
        exact ⟨{ v1 := i32' 0, H1 := sv3 len l m o u xs, low := _, es := [2], κt := [1], V' := stI len l m o u, can := (push_w [sp, slV 1 0 c] [(true, .raw [.slice false 2 0 0 len none 1, .int .i64 m, .int .i32 o, .int .i32 u]), (true, .ints .u32 xs), (true, .ints .u32 l)] _ rfl).get 1 _ rfl ⟨⟨h1, rfl⟩, trivial⟩, few := (by simp [ofView]), nodup := (by decide), hθ := ⟨rfl, rfl, trivial⟩, own := (by simp), shows := (by simpa using hV), nodupκ := (by decide), hκ := ⟨Nat.succ_pos _, rfl, trivial⟩, hid := (one_id), dis := (by decide), hv := rfl }⟩
      · exact ⟨{ v1 := i32' 0, H1 := [some (.cells true 1 fun _ => .raw [.slice false 3 0 0 (len + k) none 1, .int .i64 m, .int .i32 o, .int .i32 u]), some (.cells true 1 fun _ => .ints .u32 xs), none, some (.cells true 1 fun _ => .ints .u32 (l.take len ++ xs.take k))], low := _, es := [3], κt := [1], V' := stI (len + k) (l.take len ++ xs.take k) m o u, can := (push_w [sp, slV 1 k c] [(true, .raw [.slice false 2 0 0 len none 1, .int .i64 m, .int .i32 o, .int .i32 u]), (true, .ints .u32 xs), (true, .ints .u32 l)] _ rfl).get 0 _ rfl ⟨⟨h1, by omega⟩, trivial⟩, few := (by simp [ofView]), nodup := (by decide), hθ := ⟨rfl, rfl, trivial⟩, own := (by simp), shows := stk_shows (by rw [List.length_append, hx, h3]; omega) h0.2 (by rw [List.length_append, hx, h2, h3]; omega) (by rw [h2, List.take_of_length_le (by rw [List.length_append, hx, h3]; omega)]), nodupκ := (by decide), hκ := ⟨Nat.succ_pos _, rfl, trivial⟩, hid := (one_id), dis := (by decide), hv := rfl }⟩

theorem push_o2 {cs : List Int} {m o u : Int} {k : Nat} {c : Option Nat} {xs : List Int} (h : m - cs.length < (k : Int)) :
    CanOk Try.prog 21 [stO cs m o u, intsB xs] [sp, slV 1 k c] (i32' o) [stO cs m o u, intsB xs] 2 :=
  CanOk.abR (R := [intsB xs]) rfl fun V hV => by
    obtain ⟨h0, ⟨rfl, rfl⟩ | ⟨len, l, h1, h2, h3, rfl⟩⟩ := stk_ways hV
    · simp only [List.length_nil] at h
      exact ⟨_, _, (push_w [sp, slV 1 k c] [(true, .raw [.slice true NIL 0 0 0 none 1, .int .i64 m, .int .i32 o, .int .i32 u]), (true, .ints .u32 xs)] _ rfl).get 2 _ rfl ⟨by show 0 < m ∧ _; omega, trivial⟩, Nat.le_refl _⟩
    · rw [h3] at h
      exact ⟨_, _, (push_w [sp, slV 1 k c] [(true, .raw [.slice false 2 0 0 len none 1, .int .i64 m, .int .i32 o, .int .i32 u]), (true, .ints .u32 xs), (true, .ints .u32 l)] _ rfl).get 2 _ rfl ⟨⟨h1, h, h0.2.2.2.1⟩, trivial⟩, Nat.le_refl _⟩

theorem push_o3 {cs : List Int} {m o u : Int} : CanOk Try.prog 21 [stO cs m o u] [sp, .cell (.slice true NIL 0 0 0 none 1)] (i32' 0) [stO cs m o u] 0 :=
  stk_to (fun _ => rfl) fun V hV => by
    obtain ⟨h0, ⟨h2, rfl⟩ | ⟨len, l, h1, h2, h3, rfl⟩⟩ := stk_ways hV
    · exact ⟨stN m o u, _, (push_w [sp, .cell (.slice true NIL 0 0 0 none 1)] (stN m o u) _ rfl).get 0 _ rfl ⟨by show 0 < m ∧ _; omega, trivial⟩, hV⟩
    · exact ⟨stI len l m o u, _, (push_w [sp, .cell (.slice true NIL 0 0 0 none 1)] (stI len l m o u) _ rfl).get 0 _ rfl ⟨h1, trivial⟩, hV⟩

theorem all_o1 {cs : List Int} {m o u : Int} (h : 0 < cs.length) : CanOk Try.prog 13 [stO cs m o u] [sp] (slV 1 cs.length none) [stO cs m o u, intsB cs] 0 :=
  Shut.can_ (R := []) (T := [intsB cs]) fun V hV => by
    obtain ⟨h0, ⟨rfl, rfl⟩ | ⟨len, l, h1, h2, h3, rfl⟩⟩ := stk_ways hV
    · simp at h
    · rw [h3] at h
      subst h2
      exact ⟨{ v1 := slV 3 len none, H1 := (sv2 len l m o u ++ [some (.cells true 1 fun _ => .raw []), intsB (l.take len)] : Heap Nob), low := _, es := [1], κt := [3], V' := stI len l m o u, can := (all_w [sp] (stI len l m o u) _ rfl).get 0 _ rfl ⟨⟨h1, h⟩, trivial⟩, few := (by simp [ofView]), nodup := (by decide), hθ := ⟨rfl, rfl, trivial⟩, own := (by simp), shows := hV, nodupκ := (by decide), hκ := ⟨(by simp), rfl, trivial⟩, hid := (fun i hi => absurd hi (by simp)), dis := (by decide), hv := (by rw [h3]; rfl) }⟩

theorem all_o2 {m o u : Int} : CanOk Try.prog 13 [stO [] m o u] [sp] (.cell .empty) [stO [] m o u] 1 :=
  CanOk.abR (R := []) rfl fun V hV => by
    obtain ⟨h0, ⟨h2, rfl⟩ | ⟨len, l, h1, h2, h3, rfl⟩⟩ := stk_ways hV
    · exact ⟨_, _, ((all_w [sp] (stN m o u) _ rfl).get 0 _ rfl trivial).weakV nil_empty, Nat.le_refl _⟩
    · exact ⟨_, _, ((all_w [sp] (stI len l m o u) _ rfl).get 1 _ rfl ⟨⟨h1, h3.symm⟩, trivial⟩).weakV some_empty, Nat.le_refl _⟩

end Go.Proofs.Ytnoonoghemgbbaa.Sx

/-
  The plain primitives: part 3: when two names are alike.
-/
set_option linter.unusedVariables false
set_option linter.unusedSimpArgs false
set_option maxRecDepth 100000
namespace Go.Proofs.Ytnoonoghemgbbaa.Sx
open Go

abbrev SLn (n : Nat) : AV := .cell (.slice false 0 0 0 n none 1)
def lst (s : List UInt8) (n : Nat) (i : Int) : List AV := [.cell (.str s), .tup [], .cell (.slice true NIL 0 0 0 none 1), SLn n, .junk, .junk, .cell (.str s), SLn n, SLn n, .cell (.int .i64 n), .cell (.int .i64 i),
  .junk, .junk, .junk, .junk, .junk, .junk, .junk, .junk, .junk, .junk, .junk, .junk, .junk, .junk, .junk, .junk, .junk]
def lji : List Nat := [4, 5, 11, 12, 13, 14, 15, 16, 17, 18, 19, 20, 21, 22, 23, 24, 25, 26, 27]
abbrev bytesH (l : List Int) : Heap Nob := [some (.cells true 1 fun _ => .ints .u8 l)]
noncomputable abbrev lrun (s : List UInt8) (l : List Int) (n : Nat) (i : Nat) (d : Dec) := junkE lji (codeR (D := Nob) Try.prog (look []) (fun _ => none) 200 0 (bodyOf Try.prog 51 0) (lst s n i) (bytesH l) d)

abbrev capB (c : Int) : Int := IntKind.u8.wrap (↑(BitVec.ofInt 8 c &&& ~~~BitVec.ofInt 8 32).toNat : Int)
/-- A byte as a large letter. -/
def upB (c : Int) : Int := if 97 ≤ c ∧ c ≤ 122 then capB c else c

abbrev atI (l : List Int) (i : Nat) : Int := l.getD (0 + i * 1) 0

theorem lrun_1 (s : List UInt8) (l : List Int) (n i : Nat) : Good (lrun s l n i [1, 1, 1, 1, 1]) [0, 0, 0, 0, 0, 0, 0, 0, 0] [decide ((↑i : Int) < (↑n : Int)) = true, false = false ∧ (0 : Int) ≤ (↑i : Int) ∧ (↑i : Int) < (↑n : Int),
    false = false ∧ (0 : Nat) < (1 : Nat) ∧ 0 + i * 1 < l.length ∧ True, (decide (atI l i ≥ 97) == true) = true, (decide (atI l i ≥ 97) == true) = true, decide (atI l i ≥ 97) = true, decide (atI l i ≤ 122) = true,
    false = false ∧ (0 : Int) ≤ (↑i : Int) ∧ (↑i : Int) < (↑n : Int), (false = false ∧ 0 < 1 ∧ 1 = 1) ∧ 0 + i * 1 < l.length]
    (.normal, lst s n (IntKind.i64.wrap (i + 1)), bytesH (l.set (0 + i * 1) (capB (atI l i))), 0, []) := ⟨by kernel_rfl, by kernel_rfl⟩

theorem lrun_2 (s : List UInt8) (l : List Int) (n i : Nat) : Good (lrun s l n i [1, 1, 1, 1, 0]) [0, 0, 0, 0, 0, 0, 0] [decide ((↑i : Int) < (↑n : Int)) = true, false = false ∧ (0 : Int) ≤ (↑i : Int) ∧ (↑i : Int) < (↑n : Int),
    false = false ∧ (0 : Nat) < (1 : Nat) ∧ 0 + i * 1 < l.length ∧ True, (decide (atI l i ≥ 97) == true) = true, (decide (atI l i ≥ 97) == true) = true, decide (atI l i ≥ 97) = true, decide (atI l i ≤ 122) = false]
    (.normal, lst s n (IntKind.i64.wrap (i + 1)), bytesH l, 1, []) := ⟨by kernel_rfl, by kernel_rfl⟩

theorem lrun_3 (s : List UInt8) (l : List Int) (n i : Nat) : Good (lrun s l n i [1, 0, 0, 0, 0]) [0, 0, 0, 0, 0, 0] [decide ((↑i : Int) < (↑n : Int)) = true, false = false ∧ (0 : Int) ≤ (↑i : Int) ∧ (↑i : Int) < (↑n : Int),
    false = false ∧ (0 : Nat) < (1 : Nat) ∧ 0 + i * 1 < l.length ∧ True, (decide (atI l i ≥ 97) == true) = false, (decide (atI l i ≥ 97) == true) = false, decide (atI l i ≥ 97) = false]
    (.normal, lst s n (IntKind.i64.wrap (i + 1)), bytesH l, 1, []) := ⟨by kernel_rfl, by kernel_rfl⟩

theorem lrun_4 (s : List UInt8) (l : List Int) (n i : Nat) : Good (lrun s l n i [0]) [0] [decide ((↑i : Int) < (↑n : Int)) = false]
    (.exit 0, lst s n i, bytesH l, 1, []) := ⟨by kernel_rfl, by kernel_rfl⟩

theorem up_step {l : List Int} {i : Nat} (h : i < l.length) : (l.set i (upB (l.getD i 0))).take (i + 1) ++ ((l.set i (upB (l.getD i 0))).drop (i + 1)).map upB = l.take i ++ (l.drop i).map upB := by
  apply List.ext_getElem?
  intro k
  simp only [List.getElem?_append, List.length_take, List.length_set, List.getElem?_take, List.getElem?_map, List.getElem?_drop, List.getElem?_set]
  have h1 : min (i + 1) l.length = i + 1 := by omega
  have h2 : min i l.length = i := by omega
  rw [h1, h2]
  rcases Nat.lt_trichotomy k i with hk | rfl | hk
  · rw [if_pos (by omega), if_pos (by omega), if_neg (by omega), if_pos hk, if_pos (by omega)]
  · rw [if_pos (by omega), if_pos (by omega), if_pos rfl, if_pos h, if_neg (by omega), Nat.sub_self, Nat.add_zero]
    simp [List.getD, h]
  · rw [if_neg (by omega), if_neg (by omega), if_neg (by omega)]
    rw [show i + 1 + (k - (i + 1)) = k by omega, show i + (k - i) = k by omega]

theorem upB_set {l : List Int} {i : Nat} (h : i < l.length) (hn : ¬ (97 ≤ l.getD i 0 ∧ l.getD i 0 ≤ 122)) : l.set i (upB (l.getD i 0)) = l := by
  unfold upB
  rw [if_neg hn]
  simp [List.getD, h]

theorem large_loop (s : List UInt8) : ∀ (k i : Nat) (l : List Int), i + k = l.length → (l.length : Int) ≤ 9223372036854775807 →
    Runs Try.prog (.loop (bodyOf Try.prog 51 0)) (lst s l.length i) (bytesH l) (.exit 0) (lst s l.length l.length) (bytesH (l.take i ++ (l.drop i).map upB)) 0
  | 0, i, l, hk, hl => by
    have : i = l.length := by omega
    subst this
    have hr := (lrun_4 s l l.length l.length).runsJ hmix (AllV.look (l := []) trivial) (fun _ _ _ h => by cases h) (by simp [AllP])
    have hr := (Runs.last hr (by intro h; cases h)).low (Nat.zero_le 1)
    simpa using hr
  | k + 1, i, l, hk, hl => by
    have hi : i < l.length := by omega
    have ew : IntKind.i64.wrap ((i : Int) + 1) = ((i + 1 : Nat) : Int) := by rw [wrap_i64 (by omega) (by omega)]; rfl
    have ea : atI l i = l.getD i 0 := by simp [atI]
    have e0 : 0 + i * 1 = i := by omega
    have go : ∀ (l' : List Int) (l1 : Nat), l' = l.set i (upB (l.getD i 0)) → Runs Try.prog (bodyOf Try.prog 51 0) (lst s l.length i) (bytesH l) .normal (lst s l.length ((i + 1 : Nat) : Int)) (bytesH l') l1 →
        Runs Try.prog (.loop (bodyOf Try.prog 51 0)) (lst s l.length i) (bytesH l) (.exit 0) (lst s l.length l.length) (bytesH (l.take i ++ (l.drop i).map upB)) 0 := by
      intro l' l1 e hb
      have hlen : l'.length = l.length := by rw [e, List.length_set]
      have ih := large_loop s k (i + 1) l' (by omega) (by omega)
      rw [hlen] at ih
      have := (Runs.round hb ih).low (Nat.zero_le _)
      rw [e, up_step hi] at this
      exact this
    by_cases h1 : 97 ≤ l.getD i 0
    · by_cases h2 : l.getD i 0 ≤ 122
      · refine go _ _ ?_ (ew ▸ (lrun_1 s l l.length i).runsJ hmix (AllV.look (l := []) trivial) (fun _ _ _ h => by cases h) ?_)
        · rw [e0, ea]; unfold upB; rw [if_pos ⟨h1, h2⟩]
        · simp only [AllP, ea, e0]; generalize l.getD i 0 = c at h1 h2 ⊢; simp [hi]; omega
      · refine go _ _ ?_ (ew ▸ (lrun_2 s l l.length i).runsJ hmix (AllV.look (l := []) trivial) (fun _ _ _ h => by cases h) ?_)
        · rw [upB_set hi (fun h => h2 h.2)]
        · simp only [AllP, ea, e0]; generalize l.getD i 0 = c at h1 h2 ⊢; simp [hi]; omega
    · refine go _ _ ?_ (ew ▸ (lrun_3 s l l.length i).runsJ hmix (AllV.look (l := []) trivial) (fun _ _ _ h => by cases h) ?_)
      · rw [upB_set hi (fun h => h1 h.1)]
      · simp only [AllP, ea, e0]; generalize l.getD i 0 = c at h1 ⊢; simp [hi]; omega

def byteInts (s : List UInt8) : List Int := s.map fun b => (b.toNat : Int)

noncomputable abbrev E51 (s : List UInt8) : Sum Nob := runF (D := Nob) Try.prog (look []) (atLoop 51 0 (bodyOf Try.prog 51 0, someLoop lji (lst s s.length 0) (bytesH (byteInts s)) (.exit 0) (lst s s.length s.length) (bytesH ((byteInts s).map upB)) 0)) 200 12 51

theorem large_run (s : List UInt8) : Good (E51 s [.cell (.str s)] [] [1]) [0] [(s.length : Int) ≤ 9223372036854775807] (SLn s.length, bytesH ((byteInts s).map upB), 0, []) := ⟨by kernel_rfl, by kernel_rfl⟩

theorem large_can (s : List UInt8) (h : (s.length : Int) ≤ 9223372036854775807) : CanOk Try.prog 51 ([] : Heap Nob) [.cell (.str s)] (SLn s.length) (bytesH ((byteInts s).map upB)) 0 := by
  refine (large_run s).can (runF_valid hmix (AllV.look (l := []) trivial) (atLoop_ok (someLoop_valid ?_)) 200 12 51) ⟨h, trivial⟩
  have hl : (byteInts s).length = s.length := by simp [byteInts]
  have := large_loop s (byteInts s).length 0 (byteInts s) (by omega) (by rw [hl]; exact h)
  rw [hl] at this
  simpa using this

def largeG : List AV → View → Option (List (Way Nob))
  | [.cell (.str s)], [] => some [⟨[cd ((s.length : Int) ≤ 9223372036854775807)], true, SLn s.length, bytesH ((byteInts s).map upB), 0⟩]
  | _, _ => none

theorem large_ok : Valid Try.prog 51 (canonSum largeG) := canon_of fun args Hc l h => by
  unfold largeG at h
  split at h
  · cases h
    exact ⟨fun h => large_can _ h.1, trivial⟩
  · cases h

end Go.Proofs.Ytnoonoghemgbbaa.Sx

/-
  The plain primitives: part 4: a primitive by its name.
-/
set_option linter.unusedVariables false
set_option linter.unusedSimpArgs false
set_option maxRecDepth 100000
namespace Go.Proofs.Ytnoonoghemgbbaa.Sx
open Go

abbrev s2 : List (Nat × Sum Nob) := [(35, quietSum tableG), (17, quietSum getG), (51, canonSum largeG)]
theorem s2_ok : AllV Try.prog s2 := ⟨table_ok, get_ok, large_ok, trivial⟩

/-- A name, all letters large. -/
def largeL (a : List UInt8) : List UInt8 := ((byteInts a).map upB).map fun n => UInt8.ofNat n.toNat
def alikeB (a b : List UInt8) : Bool := largeL a == largeL b

abbrev cutL (a : List UInt8) : List Int := (((byteInts a).map upB).drop 0).take (a.length * 1)

theorem alike_1 (a b : List UInt8) : Good (quietE (E s2 37 [.cell (.str a), .cell (.str b)] [] [0, 0])) [0, 0, 0, 0]
    [(a.length : Int) ≤ 9223372036854775807, (b.length : Int) ≤ 9223372036854775807, ((false = true ∨ 1 = 1) ∧ 0 < 1 ∧ 0 + a.length * 1 ≤ ((byteInts a).map upB).length) ∧ (cutL a).length = a.length,
     ((false = true ∨ 1 = 1) ∧ 0 < 1 ∧ 0 + b.length * 1 ≤ ((byteInts b).map upB).length) ∧ (cutL b).length = b.length]
    (.cell (.bool ((cutL a).map (fun n => UInt8.ofNat n.toNat) == (cutL b).map (fun n => UInt8.ofNat n.toNat))), []) := ⟨by kernel_rfl, by kernel_rfl⟩

def alikeG : List AV → Option (List QWay)
  | [.cell (.str a), .cell (.str b)] => some [⟨[cd ((a.length : Int) ≤ 9223372036854775807 ∧ (b.length : Int) ≤ 9223372036854775807)], true, .cell (.bool (alikeB a b))⟩]
  | _ => none

theorem cutL_eq (a : List UInt8) : cutL a = (byteInts a).map upB := by
  unfold cutL
  rw [List.drop_zero, List.take_of_length_le]
  simp [byteInts]

theorem alike_ok : Valid Try.prog 37 (quietSum (D := Nob) alikeG) := quiet_of fun args l h => by
  unfold alikeG at h
  split at h
  · rename_i a b
    cases h
    refine ⟨rfl, fun h => ⟨rfl, ?_⟩, trivial⟩
    obtain ⟨⟨h1, h2⟩, _⟩ := h
    have := (alike_1 a b).quiet (E_valid s2_ok 37) (by simp only [AllP, cutL_eq]; simp [byteInts]; omega)
    rw [cutL_eq, cutL_eq] at this
    exact this
  · cases h

theorem tableAll_1 : Good (E s2 39 [] [] [0]) [] [] (.cell (.slice false 0 0 0 113 (some 113) 7), [some (.cells true 1 fun _ => .raw pTable)], 0, []) := ⟨by kernel_rfl, by kernel_rfl⟩

def tableAllG : List AV → View → Option (List (Way Nob))
  | [], [] => some [⟨[], true, .cell (.slice false 0 0 0 113 (some 113) 7), [some (.cells true 1 fun _ => .raw pTable)], 0⟩]
  | _, _ => none

theorem tableAll_ok : Valid Try.prog 39 (canonSum tableAllG) := canon_of fun args Hc l h => by
  unfold tableAllG at h
  split at h
  · cases h
    exact ⟨fun h => tableAll_1.can (E_valid s2_ok 39) trivial, trivial⟩
  · cases h

abbrev s3 : List (Nat × Sum Nob) := [(35, quietSum tableG), (17, quietSum getG), (51, canonSum largeG), (37, quietSum alikeG), (39, canonSum tableAllG)]
theorem s3_ok : AllV Try.prog s3 := ⟨table_ok, get_ok, large_ok, alike_ok, tableAll_ok, trivial⟩

end Go.Proofs.Ytnoonoghemgbbaa.Sx

/-
  The plain primitives: part 5: a primitive by its name, continued: the search of the table.
-/
set_option linter.unusedVariables false
set_option linter.unusedSimpArgs false
set_option maxRecDepth 100000
namespace Go.Proofs.Ytnoonoghemgbbaa.Sx
open Go

abbrev tabC : AV := .cell (.slice false 0 0 0 113 (some 113) 7)
abbrev isC : AV := .cell (.func 36 [(1, 0, 0)])
def ist (r i : Int) : List AV := [tabC, isC, .tup [], .tup [], .cell (.int .i64 r), .junk, tabC, .cell (.int .i64 113), .cell (.int .i64 i), .junk, .junk, .junk, .junk, .junk, .junk, .junk, .junk, .junk, .junk]
def iji : List Nat := [5, 9, 10, 11, 12, 13, 14, 15, 16, 17, 18]
abbrev iH (s : List UInt8) : Heap Nob := [some (.cells true 1 fun _ => .raw pTable), some (.cells true 1 fun _ => .raw [.str s])]

noncomputable abbrev irun (s : List UInt8) (i : Nat) (d : Dec) := trimE iji 2 (codeR (D := Nob) Try.prog (look s3) (fun _ => none) 200 12 (bodyOf Try.prog 38 0) (ist 0 i) (iH s) d)

abbrev tooLong (a b : List UInt8) : Prop := (a.length : Int) ≤ 9223372036854775807 ∧ (b.length : Int) ≤ 9223372036854775807

theorem irun_no (s : List UInt8) : (List.range 113).map (fun i => said [7, 0] (irun s i [1, 0, 0])) = (List.range 113).map (fun i => some ([tooLong (pNames.getD i []) s, alikeB (pNames.getD i []) s = false], .normal, ist 0 ((i + 1 : Nat) : Int), iH s, 2, [])) := by kernel_rfl
theorem irun_no' (s : List UInt8) : (List.range 113).map (fun i => leftOf [7, 0] (irun s i [1, 0, 0])) = (List.range 113).map (fun i => rightOf [7, 0] (irun s i [1, 0, 0])) := by kernel_rfl
theorem irun_yes (s : List UInt8) : (List.range 113).map (fun i => said [7, 0] (irun s i [1, 0, 1])) = (List.range 113).map (fun i => some ([tooLong (pNames.getD i []) s, alikeB (pNames.getD i []) s = true], .ret, ist i i, iH s, 2, [])) := by kernel_rfl
theorem irun_yes' (s : List UInt8) : (List.range 113).map (fun i => leftOf [7, 0] (irun s i [1, 0, 1])) = (List.range 113).map (fun i => rightOf [7, 0] (irun s i [1, 0, 1])) := by kernel_rfl
theorem irun_end (s : List UInt8) : Good (irun s 113 [0]) [] [] (.exit 0, ist 0 113, iH s, 2, []) := ⟨by kernel_rfl, by kernel_rfl⟩

theorem map_at {α β : Type _} {f g : α → β} {l : List α} (h : l.map f = l.map g) {a : α} (ha : a ∈ l) : f a = g a := List.map_inj_left.1 h a ha

theorem irun_no_at (s : List UInt8) {i : Nat} (hi : i < 113) : Good (irun s i [1, 0, 0]) [7, 0] [tooLong (pNames.getD i []) s, alikeB (pNames.getD i []) s = false] (.normal, ist 0 ((i + 1 : Nat) : Int), iH s, 2, []) :=
  ⟨map_at (irun_no s) (List.mem_range.2 hi), map_at (irun_no' s) (List.mem_range.2 hi)⟩
theorem irun_yes_at (s : List UInt8) {i : Nat} (hi : i < 113) : Good (irun s i [1, 0, 1]) [7, 0] [tooLong (pNames.getD i []) s, alikeB (pNames.getD i []) s = true] (.ret, ist i i, iH s, 2, []) :=
  ⟨map_at (irun_yes s) (List.mem_range.2 hi), map_at (irun_yes' s) (List.mem_range.2 hi)⟩

theorem pNames_short : ∀ i, i < 113 → (pNames.getD i []).length ≤ 100 := by
  have h : (List.range 113).all (fun i => Nat.ble (pNames.getD i []).length 100) = true := by kernel_rfl
  intro i hi
  exact Nat.le_of_ble_eq_true (List.all_eq_true.1 h i (List.mem_range.2 hi))

/-- The place of the first row of a name, from a place on. -/
def findFrom (s : List UInt8) : Nat → Nat → Option Nat
  | 0, _ => none
  | k + 1, i => if alikeB (pNames.getD i []) s = true then some i else findFrom s k (i + 1)

def endEx : Option Nat → Ex
  | some _ => .ret
  | none => .exit 0
def endSt : Option Nat → List AV
  | some i => ist i i
  | none => ist 0 113

theorem index_loop (s : List UInt8) (hs : (s.length : Int) ≤ 9223372036854775807) : ∀ (k i : Nat), i + k = 113 →
    Runs Try.prog (.loop (bodyOf Try.prog 38 0)) (ist 0 i) (iH s) (endEx (findFrom s k i)) (endSt (findFrom s k i)) (iH s) 0
  | 0, i, hk => by
    have : i = 113 := by omega
    subst this
    exact (Runs.last ((irun_end s).runsT hmix s3_ok.look (fun _ _ _ h => by cases h) (Nat.le_refl 2) trivial) (by intro h; cases h)).low (Nat.zero_le _)
  | k + 1, i, hk => by
    have hi : i < 113 := by omega
    have hl : tooLong (pNames.getD i []) s := ⟨by have := pNames_short i hi; omega, hs⟩
    unfold findFrom
    by_cases ha : alikeB (pNames.getD i []) s = true
    · rw [if_pos ha]
      exact (Runs.last ((irun_yes_at s hi).runsT hmix s3_ok.look (fun _ _ _ h => by cases h) (Nat.le_refl 2) ⟨hl, ha, trivial⟩) (by intro h; cases h)).low (Nat.zero_le _)
    · rw [if_neg ha]
      have hb := (irun_no_at s hi).runsT hmix s3_ok.look (fun _ _ _ h => by cases h) (Nat.le_refl 2) ⟨hl, by simpa using ha, trivial⟩
      exact (Runs.round hb (index_loop s hs k (i + 1) (by omega))).low (Nat.zero_le _)

/-- What is found. -/
def foundI (s : List UInt8) : Int :=
  match findFrom s 113 0 with
  | some i => i
  | none => -1

noncomputable abbrev E38 (s : List UInt8) (o : Option Nat) : Sum Nob := runF (D := Nob) Try.prog (look s3) (atLoop 38 0 (bodyOf Try.prog 38 0, someLoop iji (ist 0 0) (iH s) (endEx o) (endSt o) (iH s) 0)) 200 12 38

theorem index_run_some (s : List UInt8) (i : Nat) : Good (E38 s (some i) [tabC, isC] (iH s) [1]) [] [] (.cell (.int .i64 i), iH s, 0, []) := ⟨by kernel_rfl, by kernel_rfl⟩
theorem index_run_none (s : List UInt8) : Good (E38 s none [tabC, isC] (iH s) [1]) [] [] (.cell (.int .i64 (-1)), iH s, 0, []) := ⟨by kernel_rfl, by kernel_rfl⟩

theorem index_can (s : List UInt8) (hs : (s.length : Int) ≤ 9223372036854775807) : CanOk Try.prog 38 (iH s) [tabC, isC] (.cell (.int .i64 (foundI s))) (iH s) 0 := by
  have h := index_loop s hs 113 0 rfl
  unfold foundI
  cases ho : findFrom s 113 0 with
  | some i =>
    rw [ho] at h
    exact (index_run_some s i).can (runF_valid hmix s3_ok.look (atLoop_ok (someLoop_valid h)) 200 12 38) trivial
  | none =>
    rw [ho] at h
    exact (index_run_none s).can (runF_valid hmix s3_ok.look (atLoop_ok (someLoop_valid h)) 200 12 38) trivial

def indexG : List AV → View → Option (List (Way Nob))
  | [.cell (.slice false 0 0 0 113 (some 113) 7), .cell (.func 36 [(1, 0, 0)])], [(true, .raw cs), (true, .raw [.str s])] =>
    some [⟨[cq cs pTable, cd ((s.length : Int) ≤ 9223372036854775807)], true, .cell (.int .i64 (foundI s)), iH s, 0⟩]
  | _, _ => none

theorem index_ok : Valid Try.prog 38 (canonSum indexG) := canon_of fun args Hc l h => by
  unfold indexG at h
  split at h
  · cases h
    refine ⟨fun h => ?_, trivial⟩
    obtain ⟨h1, h2, _⟩ := h
    have h1 : _ = pTable := h1
    subst h1
    exact index_can _ h2
  · cases h

abbrev s4 : List (Nat × Sum Nob) := [(35, quietSum tableG), (17, quietSum getG), (37, quietSum alikeG), (39, canonSum tableAllG), (38, canonSum indexG)]
theorem s4_ok : AllV Try.prog s4 := ⟨table_ok, get_ok, alike_ok, tableAll_ok, index_ok, trivial⟩

end Go.Proofs.Ytnoonoghemgbbaa.Sx

/-
  The plain primitives: part 6: a primitive by its name, as it is put.
-/
set_option linter.unusedVariables false
set_option linter.unusedSimpArgs false
set_option maxRecDepth 100000
namespace Go.Proofs.Ytnoonoghemgbbaa.Sx
open Go

theorem named_1 (s : List UInt8) : Good (quietE (E s4 22 [.cell (.str s)] [] [0, 0, 0, 1, 0, 0])) [2, 0, 0]
    [(s.length : Int) ≤ 9223372036854775807, decide (foundI s ≥ 0) = true, 0 ≤ foundI s ∧ foundI s < ((113 : Nat) : Int) ∧ pTable.length = 113 * 7 ∧ 0 < 7]
    (isRow (foundI s).toNat, []) := ⟨by kernel_rfl, by kernel_rfl⟩

def sameL : List UInt8 → List UInt8 → Bool
  | [], [] => true
  | a :: l, b :: m => Nat.beq a.toNat b.toNat && sameL l m
  | _, _ => false

theorem sameL_ok : ∀ {a b : List UInt8}, sameL a b = true → a = b
  | [], [], _ => rfl
  | a :: l, b :: m, h => by
    simp only [sameL, Bool.and_eq_true] at h
    rw [sameL_ok h.2, UInt8.toNat.inj (Nat.eq_of_beq_eq_true h.1)]
  | [], _ :: _, h => by cases h
  | _ :: _, [], h => by cases h

def nameFrom (s : List UInt8) : Nat → Nat → List (List UInt8) → Option Nat
  | 0, _, _ => none
  | _, _, [] => none
  | k + 1, i, x :: l => match sameL x s with
    | true => some i
    | false => nameFrom s k (i + 1) l

/-- The place of a plain primitive's name. -/
def nameIx (s : List UInt8) : Option Nat := nameFrom s 73 0 pNames

theorem nameFrom_ok {s : List UInt8} : ∀ {k i : Nat} {l : List (List UInt8)} {r : Nat}, nameFrom s k i l = some r → i ≤ r ∧ r < i + k ∧ l.getD (r - i) [] = s
  | 0, i, l, r, h => by simp [nameFrom] at h
  | k + 1, i, [], r, h => by simp [nameFrom] at h
  | k + 1, i, x :: l, r, h => by
    unfold nameFrom at h
    split at h
    · rename_i hs
      cases h
      exact ⟨Nat.le_refl _, by omega, by simpa using sameL_ok hs⟩
    · obtain ⟨h1, h2, h3⟩ := nameFrom_ok h
      refine ⟨by omega, by omega, ?_⟩
      rw [show r - i = (r - (i + 1)) + 1 by omega]
      simpa using h3

theorem nameIx_ok {s : List UInt8} {k : Nat} (h : nameIx s = some k) : k < 73 ∧ s = pNames.getD k [] := by
  obtain ⟨h1, h2, h3⟩ := nameFrom_ok h
  exact ⟨by omega, by simpa using h3.symm⟩

theorem found_at : ∀ k, k < 73 → foundI (pNames.getD k []) = k := by
  have h : (List.range 73).map (fun k => foundI (pNames.getD k [])) = (List.range 73).map (fun k => ((k : Nat) : Int)) := by kernel_rfl
  intro k hk
  exact map_at h (List.mem_range.2 hk)

def namedG : List AV → Option (List QWay)
  | [.cell (.str s)] => match nameIx s with
    | some k => some [⟨[], true, isRow k⟩]
    | none => none
  | _ => none

theorem named_ok : Valid Try.prog 22 (quietSum (D := Nob) namedG) := quiet_of fun args l h => by
  unfold namedG at h
  split at h
  · rename_i s
    split at h
    · rename_i k hk
      cases h
      obtain ⟨hlt, rfl⟩ := nameIx_ok hk
      refine ⟨rfl, fun _ => ⟨row_flat k, ?_⟩, trivial⟩
      have hs := pNames_short k (by omega)
      have := (named_1 (pNames.getD k [])).quiet (E_valid s4_ok 22) (by rw [found_at k hlt]; exact ⟨by omega, by simp, ⟨by omega, by omega, pTable_length, by omega⟩, trivial⟩)
      rw [found_at k hlt] at this
      exact this
    · cases h
  · cases h

abbrev s5 : List (Nat × Sum Nob) := [(17, quietSum getG), (22, quietSum namedG)]
theorem s5_ok : AllV Try.prog s5 := ⟨get_ok, named_ok, trivial⟩

end Go.Proofs.Ytnoonoghemgbbaa.Sx

/-
  Stacks as objects: part 2: the methods as summaries.
-/
set_option maxRecDepth 100000
set_option linter.unusedVariables false
set_option linter.unusedSimpArgs false
namespace Go.Proofs.Ytnoonoghemgbbaa.Sx
open Go

abbrev tup2 (x e : Int) : AV := .tup [.cell (.int .u32 x), .cell (.int .i32 e)]

def lenO : List AV → List VB → Option (List (Way Nob))
  | [.cell (.ptr false 0 0 0)], [.o (.ab (.stk cs m o u))] => some [⟨[], true, i64 cs.length, [stO cs m o u], 1⟩]
  | _, _ => none

theorem lenO_ok : Valid Try.prog 30 (objSum lenO) := objSum_valid fun args Hc ws h => by
  unfold lenO at h
  split at h
  · cases h
    exact ⟨fun _ => len_o _ _ _ _, trivial⟩
  · cases h

def peekO : List AV → List VB → Option (List (Way Nob))
  | [.cell (.ptr false 0 0 0), .cell (.int .i64 i)], [.o (.ab (.stk cs m o u))] => some [
      ⟨[cd (0 ≤ i ∧ i < cs.length)], decide (0 ≤ i ∧ i < cs.length), tup2 (cs.getD (cs.length - 1 - i.toNat) 0) 0, [stO cs m o u], 1⟩,
      ⟨[cd (i < 0 ∨ cs.length ≤ i)], true, tup2 0 u, [stO cs m o u], 1⟩]
  | _, _ => none

theorem peekO_ok : Valid Try.prog 27 (objSum peekO) := objSum_valid fun args Hc ws h => by
  unfold peekO at h
  split at h
  · cases h
    exact ⟨fun hc => peek_o1 hc.1, fun hc => peek_o2 hc.1, trivial⟩
  · cases h

def mayO : List AV → List VB → Option (List (Way Nob))
  | [.cell (.ptr false 0 0 0), .cell (.int .i64 a), .cell (.int .i64 b)], [.o (.ab (.stk cs m o u))] => some [
      ⟨[cd (0 ≤ a ∧ a ≤ cs.length ∧ 0 ≤ b ∧ b ≤ m - (cs.length - a))], decide (0 ≤ a ∧ a ≤ cs.length ∧ 0 ≤ b ∧ b ≤ m - (cs.length - a)), i32' 0, [stO cs m o u], 1⟩,
      ⟨[cd (cs.length < a ∧ a ≤ 65536)], decide (cs.length < a ∧ a ≤ 65536), i32' u, [stO cs m o u], 1⟩,
      ⟨[cd (0 ≤ a ∧ a ≤ cs.length ∧ 0 ≤ b ∧ m - (cs.length - a) < b)], true, i32' o, [stO cs m o u], 1⟩]
  | _, _ => none

theorem mayO_ok : Valid Try.prog 25 (objSum mayO) := objSum_valid fun args Hc ws h => by
  unfold mayO at h
  split at h
  · cases h
    exact ⟨fun hc => may_o1 hc.1, fun hc => may_o2 hc.1, fun hc => may_o3 hc.1, trivial⟩
  · cases h

def pushO : List AV → List VB → Option (List (Way Nob))
  | [.cell (.ptr false 0 0 0), .cell (.slice false 1 0 0 k c 1)], [.o (.ab (.stk cs m o u)), .b true (.ints .u32 xs)] => some [
      ⟨[cd (k ≤ xs.length ∧ (k : Int) ≤ m - cs.length)], decide ((k : Int) ≤ m - cs.length), i32' 0, [stO (cs ++ xs.take k) m o u, intsB xs], 0⟩,
      ⟨[cd (m - cs.length < (k : Int))], true, i32' o, [stO cs m o u, intsB xs], 2⟩]
  | [.cell (.ptr false 0 0 0), .cell (.slice true 1000000007 0 0 0 none 1)], [.o (.ab (.stk cs m o u))] => some [⟨[], true, i32' 0, [stO cs m o u], 0⟩]
  | _, _ => none

theorem pushO_ok : Valid Try.prog 21 (objSum pushO) := objSum_valid fun args Hc ws h => by
  unfold pushO at h
  split at h
  · cases h
    exact ⟨fun hc => push_o1 hc.1, fun hc => push_o2 hc.1, trivial⟩
  · cases h
    exact ⟨fun _ => push_o3, trivial⟩
  · cases h

def popO : List AV → List VB → Option (List (Way Nob))
  | [.cell (.ptr false 0 0 0)], [.o (.ab (.stk cs m o u))] => some [
      ⟨[cd (0 < cs.length)], decide (0 < cs.length), tup2 (cs.getD (cs.length - 1) 0) 0, [stO (cs.take (cs.length - 1)) m o u], 0⟩,
      ⟨[cd (cs.length = 0)], true, tup2 0 u, [stO cs m o u], 0⟩]
  | _, _ => none

theorem popO_ok : Valid Try.prog 40 (objSum popO) := objSum_valid fun args Hc ws h => by
  unfold popO at h
  split at h
  · cases h
    refine ⟨fun hc => pop_o1 hc.1, fun hc => ?_, trivial⟩
    have := List.eq_nil_of_length_eq_zero hc.1
    subst this
    exact pop_o2
  · cases h

def cutO : List AV → List VB → Option (List (Way Nob))
  | [.cell (.ptr false 0 0 0), .cell (.int .i64 a)], [.o (.ab (.stk cs m o u))] => some [⟨[cd (0 ≤ a ∧ a ≤ cs.length)], true, i32' 0, [stO (cs.take a.toNat) m o u], 0⟩]
  | _, _ => none

theorem cutO_ok : Valid Try.prog 29 (objSum cutO) := objSum_valid fun args Hc ws h => by
  unfold cutO at h
  split at h
  · cases h
    exact ⟨fun hc => cut_o hc.1, trivial⟩
  · cases h

def allO : List AV → List VB → Option (List (Way Nob))
  | [.cell (.ptr false 0 0 0)], [.o (.ab (.stk cs m o u))] => some [
      ⟨[cd (0 < cs.length)], decide (0 < cs.length), slV 1 cs.length none, [stO cs m o u, intsB cs], 0⟩,
      ⟨[cd (cs.length = 0)], true, .cell .empty, [stO cs m o u], 1⟩]
  | _, _ => none

theorem allO_ok : Valid Try.prog 13 (objSum allO) := objSum_valid fun args Hc ws h => by
  unfold allO at h
  split at h
  · cases h
    refine ⟨fun hc => all_o1 hc.1, fun hc => ?_, trivial⟩
    have := List.eq_nil_of_length_eq_zero hc.1
    subst this
    exact all_o2
  · cases h

noncomputable abbrev sO : List (Nat × Sum Nob) := [(17, quietSum getG), (22, quietSum namedG), (30, objSum lenO), (27, objSum peekO), (25, objSum mayO), (21, objSum pushO), (40, objSum popO), (29, objSum cutO), (13, objSum allO)]
theorem sO_ok : AllV Try.prog sO := ⟨get_ok, named_ok, lenO_ok, peekO_ok, mayO_ok, pushO_ok, popO_ok, cutO_ok, allO_ok, trivial⟩

end Go.Proofs.Ytnoonoghemgbbaa.Sx

/-
  Do over stacks: what a primitive that takes and gives a fixed number of cells does.
-/
set_option maxRecDepth 100000
set_option linter.unusedVariables false
set_option linter.unusedSimpArgs false
namespace Go.Proofs.Ytnoonoghemgbbaa.Sx
open Go

theorem flg_run (x : Bool) : ∃ d, Good (quietE (E [] 53 [.cell (.bool x)] [] d)) [] [] (.cell (.int .u32 (if x = true then 4294967295 else 0)), []) := by
  cases x
  · exact ⟨[0], ⟨by kernel_rfl, by kernel_rfl⟩⟩
  · exact ⟨[1], ⟨by kernel_rfl, by kernel_rfl⟩⟩

def flgG : List AV → Option (List QWay)
  | [.cell (.bool x)] => some [⟨[], true, .cell (.int .u32 (if x = true then 4294967295 else 0))⟩]
  | _ => none

theorem flg_ok : Valid Try.prog 53 (quietSum (D := Nob) flgG) := quiet_of fun args l h => by
  unfold flgG at h
  split at h
  · cases h
    rename_i x
    obtain ⟨d, hd⟩ := flg_run x
    exact ⟨rfl, fun _ => ⟨rfl, hd.quiet (E_valid (l := []) trivial 53) trivial⟩, trivial⟩
  · cases h

noncomputable abbrev sOf : List (Nat × Sum Nob) := (53, quietSum flgG) :: sO
theorem sOf_ok : AllV Try.prog sOf := ⟨flg_ok, sO_ok⟩

abbrev anyP : AV := .cell .anyp
noncomputable abbrev evo (f : FuncId) (a : List AV) (H : Heap Nob) (d : Dec) := trimF 1 (E sO f a H d)
noncomputable abbrev evof (f : FuncId) (a : List AV) (H : Heap Nob) (d : Dec) := trimF 1 (E sOf f a H d)

/-- The cell that lies k below the uppermost one. -/
abbrev top (cs : List Int) (k : Nat) : Int := cs.getD (cs.length - 1 - k) 0

/-- What an object is known to be. -/
theorem CanOk.knows {P : Program} {f : FuncId} {H H' : Heap Nob} {args : List AV} {v : AV} {low j : Nat} {d : Ab} (hj : H[j]? = some (some (.obj (.ab d)))) (h : (∃ V, d.shows V) → CanOk P f H args v H' low) : CanOk P f H args v H' low := by
  intro ρ w us r ha
  obtain ⟨F, hF⟩ : ∃ F, ρ[j]? = some F := by
    have hl := (List.getElem?_eq_some_iff.1 hj).1
    have := r.len
    exact ⟨ρ[j], List.getElem?_eq_getElem (by omega)⟩
  obtain ⟨_, hlt, V, ρc, F', hsh, _⟩ := r.at_ j _ F 0 hj hF rfl
  exact h ⟨V, hsh⟩ ρ w us r ha

abbrev stkOk (cs : List Int) (m o u : Int) : Prop := (cs.length : Int) ≤ m ∧ 0 < m ∧ m ≤ 65536 ∧ o ≠ 0 ∧ u ≠ 0

theorem stk_inv {cs : List Int} {m o u : Int} (h : ∃ V, (Ab.stk cs m o u).shows V) : stkOk cs m o u := by
  obtain ⟨V, hV⟩ := h
  exact (stk_ways hV).1

def cellsOk (cs : List Int) : Prop := ∀ x ∈ cs, 0 ≤ x ∧ x < 4294967296

theorem top_ok {cs : List Int} (h : cellsOk cs) (k : Nat) : 0 ≤ top cs k ∧ top cs k < 4294967296 := by
  unfold top
  rw [List.getD_eq_getElem?_getD]
  cases hk : cs[cs.length - 1 - k]? with
  | none => simp
  | some x => exact h x (List.mem_of_getElem? hk)

structure DoRow (n : Int) (t g : Nat) (f : List Int → List Int) : Prop where
  one : ∀ cs m o u, cellsOk cs → t ≤ cs.length → (g : Int) ≤ m - (cs.length - t) → CanOk Try.prog 14 [stO cs m o u] [.cell (.int .u32 n), sp, anyP, anyP] (i32' 0) [stO (cs.take (cs.length - t) ++ f cs) m o u] 0
  two : ∀ cs m o u, cs.length < t → CanOk Try.prog 14 [stO cs m o u] [.cell (.int .u32 n), sp, anyP, anyP] (i32' u) [stO cs m o u] 1
  three : ∀ cs m o u, t ≤ cs.length → m - (cs.length - t) < (g : Int) → CanOk Try.prog 14 [stO cs m o u] [.cell (.int .u32 n), sp, anyP, anyP] (i32' o) [stO cs m o u] 1

theorem wrap_len {k : Nat} {t : Int} (h1 : t ≤ k) (h0 : 0 ≤ t) (h2 : (k : Int) ≤ 65536) : IntKind.i64.wrap ((k : Int) - t) = (k : Int) - t := by
  rw [IntKind.wrap_i64]
  omega

theorem len_toNat {k t : Nat} : ((k : Int) - (t : Int)).toNat = k - t := by omega

theorem ne_true {x : Int} (h : x ≠ 0) : (x != 0) = true := by simp [h]

end Go.Proofs.Ytnoonoghemgbbaa.Sx
