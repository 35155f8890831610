import Derived.Test.YtnoonoghemgbbaaOr6
import Derived.Test.YtnoonoghemgbbaaProg
/-
  The plain primitives: part 1: what the program's table of primitives is, and what is found in it by number.
-/
set_option linter.unusedVariables false
set_option linter.unusedSimpArgs false
set_option maxRecDepth 100000
namespace Go.Proofs.Ytnoonoghemgbbaa.Sx
open Go

/-- No objects of other kinds. -/
inductive Nob

theorem hmix : Try.prog.follows .mixedOrders = true := by kernel_rfl

/-- The program's functions, with summaries. -/
noncomputable abbrev E (l : List (Nat × Sum Nob)) (f : FuncId) : Sum Nob := runF (D := Nob) Try.prog (look l) (fun _ _ => none) 200 12 f

theorem E_valid {l : List (Nat × Sum Nob)} (h : AllV Try.prog l) (f : FuncId) : Valid Try.prog f (E l f) := runF_valid hmix h.look (fun _ _ _ _ h => by cases h) 200 12 f

def pNums : List Int := [1, 2, 3, 4, 5, 6, 7, 8, 9, 10, 11, 12, 13, 14, 15, 16, 17, 18, 19, 20, 21, 22, 23, 24, 25, 26, 27, 28, 29, 30,
  31, 32, 33, 34, 35, 36, 37, 38, 39, 40, 41, 42, 43, 44, 45, 46, 47, 48, 49, 50, 51, 52, 53, 54, 55, 56, 57, 58, 59, 60,
  61, 62, 63, 64, 65, 66, 67, 68, 69, 70, 71, 72, 73, 101, 102, 103, 104, 105, 106, 107, 108, 109, 110, 111, 112, 113, 114, 115, 116, 117,
  118, 119, 120, 121, 122, 123, 124, 125, 126, 127, 128, 129, 130, 131, 132, 133, 134, 135, 136, 137, 138, 139, 140]
def pNames : List (List UInt8) := [[68, 85, 80], [68, 82, 79, 80], [83, 87, 65, 80], [79, 86, 69, 82], [82, 79, 84], [63, 68, 85, 80], [78, 73, 80], [84, 85, 67, 75],
  [50, 68, 85, 80], [50, 68, 82, 79, 80], [50, 83, 87, 65, 80], [50, 79, 86, 69, 82], [68, 69, 80, 84, 72], [80, 73, 67, 75], [82, 79, 76, 76], [43],
  [45], [42], [47], [77, 79, 68], [47, 77, 79, 68], [42, 47], [42, 47, 77, 79, 68], [78, 69, 71, 65, 84, 69],
  [65, 66, 83], [77, 73, 78], [77, 65, 88], [49, 43], [49, 45], [50, 42], [50, 47], [85, 77, 42],
  [77, 42], [85, 77, 47, 77, 79, 68], [70, 77, 47, 77, 79, 68], [83, 77, 47, 82, 69, 77], [83, 62, 68], [68, 43], [68, 78, 69, 71, 65, 84, 69], [65, 78, 68],
  [79, 82], [88, 79, 82], [73, 78, 86, 69, 82, 84], [76, 83, 72, 73, 70, 84], [82, 83, 72, 73, 70, 84], [61], [60, 62], [60],
  [62], [85, 60], [85, 62], [48, 61], [48, 60], [48, 62], [87, 73, 84, 72, 73, 78], [64],
  [33], [67, 64], [67, 33], [43, 33], [50, 64], [50, 33], [77, 79, 86, 69], [70, 73, 76, 76],
  [67, 69, 76, 76, 43], [67, 69, 76, 76, 83], [67, 72, 65, 82, 43], [67, 72, 65, 82, 83], [65, 76, 73, 71, 78, 69, 68], [67, 79, 85, 78, 84], [62, 82], [82, 62],
  [82, 64], [69, 88, 73, 84], [40, 76, 73, 84, 41], [40, 66, 82, 65, 78, 67, 72, 41], [40, 48, 66, 82, 65, 78, 67, 72, 41], [40, 68, 79, 41], [40, 63, 68, 79, 41], [40, 76, 79, 79, 80, 41],
  [40, 43, 76, 79, 79, 80, 41], [73], [74], [85, 78, 76, 79, 79, 80], [69, 88, 69, 67, 85, 84, 69], [67, 65, 84, 67, 72], [84, 72, 82, 79, 87], [40, 83, 34, 41],
  [40, 46, 34, 41], [69, 77, 73, 84], [84, 89, 80, 69], [67, 82], [83, 80, 65, 67, 69], [83, 80, 65, 67, 69, 83], [72, 69, 82, 69], [65, 76, 76, 79, 84],
  [44], [67, 44], [65, 76, 73, 71, 78], [66, 65, 83, 69], [83, 84, 65, 84, 69], [60, 35], [35], [35, 83],
  [35, 62], [72, 79, 76, 68], [83, 73, 71, 78], [46], [85, 46], [65, 66, 79, 82, 84], [40, 68, 79, 69, 83, 41], [40, 71, 79, 41],
  [67, 82, 69, 65, 84, 69]]
def pTakes : List Int := [1, 1, 2, 2, 3, 1, 2, 2, 2, 2, 4, 4, 0, 1, 1, 2, 2, 2, 2, 2, 2, 3, 3, 1, 1, 2, 2, 1, 1, 1, 1, 2, 2, 3, 3, 3, 1, 4, 2, 2,
  2, 2, 1, 2, 2, 2, 2, 2, 2, 2, 2, 1, 1, 1, 3, 1, 2, 1, 2, 2, 1, 3, 3, 3, 1, 1, 1, 1, 1, 1, 1, 0, 0, 0, 0, 0, 1, 2, 2, 0,
  1, 0, 0, 0, 1, 1, 1, 0, 0, 1, 2, 0, 0, 1, 0, 1, 1, 1, 0, 0, 0, 0, 2, 2, 2, 1, 1, 1, 1, 0, 0, 0, 0]
def pGives : List Int := [2, 0, 2, 3, 3, 1, 1, 3, 4, 0, 4, 6, 1, 1, 0, 1, 1, 1, 1, 1, 2, 1, 2, 1, 1, 1, 1, 1, 1, 1, 1, 2, 2, 2, 2, 2, 2, 2, 2, 1,
  1, 1, 1, 1, 1, 1, 1, 1, 1, 1, 1, 1, 1, 1, 1, 1, 0, 1, 0, 0, 2, 0, 0, 0, 1, 1, 1, 1, 1, 2, 0, 1, 1, 0, 1, 0, 0, 0, 0, 0,
  0, 1, 1, 0, 0, 1, 0, 2, 0, 0, 0, 0, 0, 0, 1, 0, 0, 0, 0, 1, 1, 0, 2, 2, 2, 0, 0, 0, 0, 0, 0, 0, 0]
def pOpers : List Int := [0, 0, 0, 0, 0, 0, 0, 0, 0, 0, 0, 0, 0, 0, 0, 0, 0, 0, 0, 0, 0, 0, 0, 0, 0, 0, 0, 0, 0, 0, 0, 0, 0, 0, 0, 0, 0, 0, 0, 0,
  0, 0, 0, 0, 0, 0, 0, 0, 0, 0, 0, 0, 0, 0, 0, 0, 0, 0, 0, 0, 0, 0, 0, 0, 0, 0, 0, 0, 0, 0, 0, 0, 0, 0, 1, 1, 1, 0, 1, 1,
  1, 0, 0, 0, 0, 0, 0, 1, 1, 0, 0, 0, 0, 0, 0, 0, 0, 0, 0, 0, 0, 0, 0, 0, 0, 0, 0, 0, 0, 0, 1, 2, 0]
def pTexts : List Bool := [false, false, false, false, false, false, false, false, false, false, false, false, false, false, false, false, false, false, false, false,
  false, false, false, false, false, false, false, false, false, false, false, false, false, false, false, false, false, false, false, false,
  false, false, false, false, false, false, false, false, false, false, false, false, false, false, false, false, false, false, false, false,
  false, false, false, false, false, false, false, false, false, false, false, false, false, false, false, false, false, false, false, false,
  false, false, false, false, false, false, false, true, true, false, false, false, false, false, false, false, false, false, false, false,
  false, false, false, false, false, false, false, false, false, false, false, false, false]
def pJumps : List Bool := [false, false, false, false, false, false, false, false, false, false, false, false, false, false, false, false, false, false, false, false,
  false, false, false, false, false, false, false, false, false, false, false, false, false, false, false, false, false, false, false, false,
  false, false, false, false, false, false, false, false, false, false, false, false, false, false, false, false, false, false, false, false,
  false, false, false, false, false, false, false, false, false, false, false, false, false, false, false, true, true, false, true, true,
  true, false, false, false, false, false, false, false, false, false, false, false, false, false, false, false, false, false, false, false,
  false, false, false, false, false, false, false, false, false, false, true, false, false]

/-- A row of the table. -/
def pRow (i : Nat) : List Cell := [.int .u32 (pNums.getD i 0), .str (pNames.getD i []), .int .i64 (pTakes.getD i 0), .int .i64 (pGives.getD i 0), .int .i64 (pOpers.getD i 0), .bool (pTexts.getD i false), .bool (pJumps.getD i false)]

def pRows : Nat → Nat → List Cell
  | _, 0 => []
  | i, n + 1 => pRow i ++ pRows (i + 1) n

/-- The whole table, cell by cell. -/
def pTable : List Cell := pRows 0 113

theorem table_run : Good (quietE (E [] 35 [] [] [])) [] [] (.agg pTable, []) := ⟨by kernel_rfl, by kernel_rfl⟩

theorem table_flat : flatV (.agg pTable) = true := by kernel_rfl

def tableG : List AV → Option (List QWay)
  | [] => some [⟨[], true, .agg pTable⟩]
  | _ => none

theorem table_ok : Valid Try.prog 35 (quietSum (D := Nob) tableG) := quiet_of fun args l h => by
  unfold tableG at h
  split at h
  · cases h
    exact ⟨rfl, fun _ => ⟨table_flat, table_run.quiet (E_valid (l := []) trivial 35) trivial⟩, trivial⟩
  · cases h

end Go.Proofs.Ytnoonoghemgbbaa.Sx
