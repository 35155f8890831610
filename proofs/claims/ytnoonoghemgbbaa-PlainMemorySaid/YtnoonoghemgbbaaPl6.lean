/-
  The plain primitives: part 6: a primitive by its name, as it is put.
-/
import Derived.Test.YtnoonoghemgbbaaPl5
set_option linter.unusedVariables false
set_option linter.unusedSimpArgs false
set_option maxRecDepth 100000
namespace Go.Proofs.Ytnoonoghemgbbaa.Sx
open Go

theorem named_1 (s : List UInt8) : Good (quietE (E s4 22 [.cell (.str s)] [] [0, 0, 0, 1, 0, 0])) [2, 0, 0]
    [(s.length : Int) ≤ 9223372036854775807, decide (foundI s ≥ 0) = true, 0 ≤ foundI s ∧ foundI s < ((113 : Nat) : Int) ∧ pTable.length = 113 * 7 ∧ 0 < 7]
    (isRow (foundI s).toNat, []) := ⟨by kernel_rfl, by kernel_rfl⟩

def sameL : List UInt8 → List UInt8 → Bool
  | [], [] => true
  | a :: l, b :: m => Nat.beq a.toNat b.toNat && sameL l m
  | _, _ => false

theorem sameL_ok : ∀ {a b : List UInt8}, sameL a b = true → a = b
  | [], [], _ => rfl
  | a :: l, b :: m, h => by
    simp only [sameL, Bool.and_eq_true] at h
    rw [sameL_ok h.2, UInt8.toNat.inj (Nat.eq_of_beq_eq_true h.1)]
  | [], _ :: _, h => by cases h
  | _ :: _, [], h => by cases h

def nameFrom (s : List UInt8) : Nat → Nat → List (List UInt8) → Option Nat
  | 0, _, _ => none
  | _, _, [] => none
  | k + 1, i, x :: l => match sameL x s with
    | true => some i
    | false => nameFrom s k (i + 1) l

/-- The place of a plain primitive's name. -/
def nameIx (s : List UInt8) : Option Nat := nameFrom s 73 0 pNames

theorem nameFrom_ok {s : List UInt8} : ∀ {k i : Nat} {l : List (List UInt8)} {r : Nat}, nameFrom s k i l = some r → i ≤ r ∧ r < i + k ∧ l.getD (r - i) [] = s
  | 0, i, l, r, h => by simp [nameFrom] at h
  | k + 1, i, [], r, h => by simp [nameFrom] at h
  | k + 1, i, x :: l, r, h => by
    unfold nameFrom at h
    split at h
    · rename_i hs
      cases h
      exact ⟨Nat.le_refl _, by omega, by simpa using sameL_ok hs⟩
    · obtain ⟨h1, h2, h3⟩ := nameFrom_ok h
      refine ⟨by omega, by omega, ?_⟩
      rw [show r - i = (r - (i + 1)) + 1 by omega]
      simpa using h3

theorem nameIx_ok {s : List UInt8} {k : Nat} (h : nameIx s = some k) : k < 73 ∧ s = pNames.getD k [] := by
  obtain ⟨h1, h2, h3⟩ := nameFrom_ok h
  exact ⟨by omega, by simpa using h3.symm⟩

theorem found_at : ∀ k, k < 73 → foundI (pNames.getD k []) = k := by
  have h : (List.range 73).map (fun k => foundI (pNames.getD k [])) = (List.range 73).map (fun k => ((k : Nat) : Int)) := by kernel_rfl
  intro k hk
  exact map_at h (List.mem_range.2 hk)

def namedG : List AV → Option (List QWay)
  | [.cell (.str s)] => match nameIx s with
    | some k => some [⟨[], true, isRow k⟩]
    | none => none
  | _ => none

theorem named_ok : Valid Try.prog 22 (quietSum (D := Nob) namedG) := quiet_of fun args l h => by
  unfold namedG at h
  split at h
  · rename_i s
    split at h
    · rename_i k hk
      cases h
      obtain ⟨hlt, rfl⟩ := nameIx_ok hk
      refine ⟨rfl, fun _ => ⟨row_flat k, ?_⟩, trivial⟩
      have hs := pNames_short k (by omega)
      have := (named_1 (pNames.getD k [])).quiet (E_valid s4_ok 22) (by rw [found_at k hlt]; exact ⟨by omega, by simp, ⟨by omega, by omega, pTable_length, by omega⟩, trivial⟩)
      rw [found_at k hlt] at this
      exact this
    · cases h
  · cases h

abbrev s5 : List (Nat × Sum Nob) := [(17, quietSum getG), (22, quietSum namedG)]
theorem s5_ok : AllV Try.prog s5 := ⟨get_ok, named_ok, trivial⟩

end Go.Proofs.Ytnoonoghemgbbaa.Sx
