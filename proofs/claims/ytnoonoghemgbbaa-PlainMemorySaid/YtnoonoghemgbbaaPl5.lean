/-
  The plain primitives: part 5: a primitive by its name, continued: the search of the table.
-/
import Derived.Test.YtnoonoghemgbbaaPl4
set_option linter.unusedVariables false
set_option linter.unusedSimpArgs false
set_option maxRecDepth 100000
namespace Go.Proofs.Ytnoonoghemgbbaa.Sx
open Go

abbrev tabC : AV := .cell (.slice false 0 0 0 113 (some 113) 7)
abbrev isC : AV := .cell (.func 36 [(1, 0, 0)])
def ist (r i : Int) : List AV := [tabC, isC, .tup [], .tup [], .cell (.int .i64 r), .junk, tabC, .cell (.int .i64 113), .cell (.int .i64 i), .junk, .junk, .junk, .junk, .junk, .junk, .junk, .junk, .junk, .junk]
def iji : List Nat := [5, 9, 10, 11, 12, 13, 14, 15, 16, 17, 18]
abbrev iH (s : List UInt8) : Heap Nob := [some (.cells true 1 fun _ => .raw pTable), some (.cells true 1 fun _ => .raw [.str s])]

noncomputable abbrev irun (s : List UInt8) (i : Nat) (d : Dec) := trimE iji 2 (codeR (D := Nob) Try.prog (look s3) (fun _ => none) 200 12 (bodyOf Try.prog 38 0) (ist 0 i) (iH s) d)

abbrev tooLong (a b : List UInt8) : Prop := (a.length : Int) ≤ 9223372036854775807 ∧ (b.length : Int) ≤ 9223372036854775807

theorem irun_no (s : List UInt8) : (List.range 113).map (fun i => said [7, 0] (irun s i [1, 0, 0])) = (List.range 113).map (fun i => some ([tooLong (pNames.getD i []) s, alikeB (pNames.getD i []) s = false], .normal, ist 0 ((i + 1 : Nat) : Int), iH s, 2, [])) := by kernel_rfl
theorem irun_no' (s : List UInt8) : (List.range 113).map (fun i => leftOf [7, 0] (irun s i [1, 0, 0])) = (List.range 113).map (fun i => rightOf [7, 0] (irun s i [1, 0, 0])) := by kernel_rfl
theorem irun_yes (s : List UInt8) : (List.range 113).map (fun i => said [7, 0] (irun s i [1, 0, 1])) = (List.range 113).map (fun i => some ([tooLong (pNames.getD i []) s, alikeB (pNames.getD i []) s = true], .ret, ist i i, iH s, 2, [])) := by kernel_rfl
theorem irun_yes' (s : List UInt8) : (List.range 113).map (fun i => leftOf [7, 0] (irun s i [1, 0, 1])) = (List.range 113).map (fun i => rightOf [7, 0] (irun s i [1, 0, 1])) := by kernel_rfl
theorem irun_end (s : List UInt8) : Good (irun s 113 [0]) [] [] (.exit 0, ist 0 113, iH s, 2, []) := ⟨by kernel_rfl, by kernel_rfl⟩

theorem map_at {α β : Type _} {f g : α → β} {l : List α} (h : l.map f = l.map g) {a : α} (ha : a ∈ l) : f a = g a := List.map_inj_left.1 h a ha

theorem irun_no_at (s : List UInt8) {i : Nat} (hi : i < 113) : Good (irun s i [1, 0, 0]) [7, 0] [tooLong (pNames.getD i []) s, alikeB (pNames.getD i []) s = false] (.normal, ist 0 ((i + 1 : Nat) : Int), iH s, 2, []) :=
  ⟨map_at (irun_no s) (List.mem_range.2 hi), map_at (irun_no' s) (List.mem_range.2 hi)⟩
theorem irun_yes_at (s : List UInt8) {i : Nat} (hi : i < 113) : Good (irun s i [1, 0, 1]) [7, 0] [tooLong (pNames.getD i []) s, alikeB (pNames.getD i []) s = true] (.ret, ist i i, iH s, 2, []) :=
  ⟨map_at (irun_yes s) (List.mem_range.2 hi), map_at (irun_yes' s) (List.mem_range.2 hi)⟩

theorem pNames_short : ∀ i, i < 113 → (pNames.getD i []).length ≤ 100 := by
  have h : (List.range 113).all (fun i => Nat.ble (pNames.getD i []).length 100) = true := by kernel_rfl
  intro i hi
  exact Nat.le_of_ble_eq_true (List.all_eq_true.1 h i (List.mem_range.2 hi))

/-- The place of the first row of a name, from a place on. -/
def findFrom (s : List UInt8) : Nat → Nat → Option Nat
  | 0, _ => none
  | k + 1, i => if alikeB (pNames.getD i []) s = true then some i else findFrom s k (i + 1)

def endEx : Option Nat → Ex
  | some _ => .ret
  | none => .exit 0
def endSt : Option Nat → List AV
  | some i => ist i i
  | none => ist 0 113

theorem index_loop (s : List UInt8) (hs : (s.length : Int) ≤ 9223372036854775807) : ∀ (k i : Nat), i + k = 113 →
    Runs Try.prog (.loop (bodyOf Try.prog 38 0)) (ist 0 i) (iH s) (endEx (findFrom s k i)) (endSt (findFrom s k i)) (iH s) 0
  | 0, i, hk => by
    have : i = 113 := by omega
    subst this
    exact (Runs.last ((irun_end s).runsT hmix s3_ok.look (fun _ _ _ h => by cases h) (Nat.le_refl 2) trivial) (by intro h; cases h)).low (Nat.zero_le _)
  | k + 1, i, hk => by
    have hi : i < 113 := by omega
    have hl : tooLong (pNames.getD i []) s := ⟨by have := pNames_short i hi; omega, hs⟩
    unfold findFrom
    by_cases ha : alikeB (pNames.getD i []) s = true
    · rw [if_pos ha]
      exact (Runs.last ((irun_yes_at s hi).runsT hmix s3_ok.look (fun _ _ _ h => by cases h) (Nat.le_refl 2) ⟨hl, ha, trivial⟩) (by intro h; cases h)).low (Nat.zero_le _)
    · rw [if_neg ha]
      have hb := (irun_no_at s hi).runsT hmix s3_ok.look (fun _ _ _ h => by cases h) (Nat.le_refl 2) ⟨hl, by simpa using ha, trivial⟩
      exact (Runs.round hb (index_loop s hs k (i + 1) (by omega))).low (Nat.zero_le _)

/-- What is found. -/
def foundI (s : List UInt8) : Int :=
  match findFrom s 113 0 with
  | some i => i
  | none => -1

noncomputable abbrev E38 (s : List UInt8) (o : Option Nat) : Sum Nob := runF (D := Nob) Try.prog (look s3) (atLoop 38 0 (bodyOf Try.prog 38 0, someLoop iji (ist 0 0) (iH s) (endEx o) (endSt o) (iH s) 0)) 200 12 38

theorem index_run_some (s : List UInt8) (i : Nat) : Good (E38 s (some i) [tabC, isC] (iH s) [1]) [] [] (.cell (.int .i64 i), iH s, 0, []) := ⟨by kernel_rfl, by kernel_rfl⟩
theorem index_run_none (s : List UInt8) : Good (E38 s none [tabC, isC] (iH s) [1]) [] [] (.cell (.int .i64 (-1)), iH s, 0, []) := ⟨by kernel_rfl, by kernel_rfl⟩

theorem index_can (s : List UInt8) (hs : (s.length : Int) ≤ 9223372036854775807) : CanOk Try.prog 38 (iH s) [tabC, isC] (.cell (.int .i64 (foundI s))) (iH s) 0 := by
  have h := index_loop s hs 113 0 rfl
  unfold foundI
  cases ho : findFrom s 113 0 with
  | some i =>
    rw [ho] at h
    exact (index_run_some s i).can (runF_valid hmix s3_ok.look (atLoop_ok (someLoop_valid h)) 200 12 38) trivial
  | none =>
    rw [ho] at h
    exact (index_run_none s).can (runF_valid hmix s3_ok.look (atLoop_ok (someLoop_valid h)) 200 12 38) trivial

def indexG : List AV → View → Option (List (Way Nob))
  | [.cell (.slice false 0 0 0 113 (some 113) 7), .cell (.func 36 [(1, 0, 0)])], [(true, .raw cs), (true, .raw [.str s])] =>
    some [⟨[cq cs pTable, cd ((s.length : Int) ≤ 9223372036854775807)], true, .cell (.int .i64 (foundI s)), iH s, 0⟩]
  | _, _ => none

theorem index_ok : Valid Try.prog 38 (canonSum indexG) := canon_of fun args Hc l h => by
  unfold indexG at h
  split at h
  · cases h
    refine ⟨fun h => ?_, trivial⟩
    obtain ⟨h1, h2, _⟩ := h
    have h1 : _ = pTable := h1
    subst h1
    exact index_can _ h2
  · cases h

abbrev s4 : List (Nat × Sum Nob) := [(35, quietSum tableG), (17, quietSum getG), (37, quietSum alikeG), (39, canonSum tableAllG), (38, canonSum indexG)]
theorem s4_ok : AllV Try.prog s4 := ⟨table_ok, get_ok, alike_ok, tableAll_ok, index_ok, trivial⟩

end Go.Proofs.Ytnoonoghemgbbaa.Sx
