/-
  The plain primitives: part 4: a primitive by its name.
-/
import Derived.Test.YtnoonoghemgbbaaPl3
set_option linter.unusedVariables false
set_option linter.unusedSimpArgs false
set_option maxRecDepth 100000
namespace Go.Proofs.Ytnoonoghemgbbaa.Sx
open Go

abbrev s2 : List (Nat × Sum Nob) := [(35, quietSum tableG), (17, quietSum getG), (51, canonSum largeG)]
theorem s2_ok : AllV Try.prog s2 := ⟨table_ok, get_ok, large_ok, trivial⟩

/-- A name, all letters large. -/
def largeL (a : List UInt8) : List UInt8 := ((byteInts a).map upB).map fun n => UInt8.ofNat n.toNat
def alikeB (a b : List UInt8) : Bool := largeL a == largeL b

abbrev cutL (a : List UInt8) : List Int := (((byteInts a).map upB).drop 0).take (a.length * 1)

theorem alike_1 (a b : List UInt8) : Good (quietE (E s2 37 [.cell (.str a), .cell (.str b)] [] [0, 0])) [0, 0, 0, 0]
    [(a.length : Int) ≤ 9223372036854775807, (b.length : Int) ≤ 9223372036854775807, ((false = true ∨ 1 = 1) ∧ 0 < 1 ∧ 0 + a.length * 1 ≤ ((byteInts a).map upB).length) ∧ (cutL a).length = a.length,
     ((false = true ∨ 1 = 1) ∧ 0 < 1 ∧ 0 + b.length * 1 ≤ ((byteInts b).map upB).length) ∧ (cutL b).length = b.length]
    (.cell (.bool ((cutL a).map (fun n => UInt8.ofNat n.toNat) == (cutL b).map (fun n => UInt8.ofNat n.toNat))), []) := ⟨by kernel_rfl, by kernel_rfl⟩

def alikeG : List AV → Option (List QWay)
  | [.cell (.str a), .cell (.str b)] => some [⟨[cd ((a.length : Int) ≤ 9223372036854775807 ∧ (b.length : Int) ≤ 9223372036854775807)], true, .cell (.bool (alikeB a b))⟩]
  | _ => none

theorem cutL_eq (a : List UInt8) : cutL a = (byteInts a).map upB := by
  unfold cutL
  rw [List.drop_zero, List.take_of_length_le]
  simp [byteInts]

theorem alike_ok : Valid Try.prog 37 (quietSum (D := Nob) alikeG) := quiet_of fun args l h => by
  unfold alikeG at h
  split at h
  · rename_i a b
    cases h
    refine ⟨rfl, fun h => ⟨rfl, ?_⟩, trivial⟩
    obtain ⟨⟨h1, h2⟩, _⟩ := h
    have := (alike_1 a b).quiet (E_valid s2_ok 37) (by simp only [AllP, cutL_eq]; simp [byteInts]; omega)
    rw [cutL_eq, cutL_eq] at this
    exact this
  · cases h

theorem tableAll_1 : Good (E s2 39 [] [] [0]) [] [] (.cell (.slice false 0 0 0 113 (some 113) 7), [some (.cells true 1 fun _ => .raw pTable)], 0, []) := ⟨by kernel_rfl, by kernel_rfl⟩

def tableAllG : List AV → View → Option (List (Way Nob))
  | [], [] => some [⟨[], true, .cell (.slice false 0 0 0 113 (some 113) 7), [some (.cells true 1 fun _ => .raw pTable)], 0⟩]
  | _, _ => none

theorem tableAll_ok : Valid Try.prog 39 (canonSum tableAllG) := canon_of fun args Hc l h => by
  unfold tableAllG at h
  split at h
  · cases h
    exact ⟨fun h => tableAll_1.can (E_valid s2_ok 39) trivial, trivial⟩
  · cases h

abbrev s3 : List (Nat × Sum Nob) := [(35, quietSum tableG), (17, quietSum getG), (51, canonSum largeG), (37, quietSum alikeG), (39, canonSum tableAllG)]
theorem s3_ok : AllV Try.prog s3 := ⟨table_ok, get_ok, large_ok, alike_ok, tableAll_ok, trivial⟩

end Go.Proofs.Ytnoonoghemgbbaa.Sx
