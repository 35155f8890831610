/-
  PlainSums: part 4: the division that rounds down, as one summary.
-/
import Derived.Test.YtnoonoghemgbbaaPl12
set_option maxRecDepth 100000
namespace Go.Proofs.Ytnoonoghemgbbaa.Sx
open Go

def flooredG : List AV → Option (List QWay)
  | [.cell (.int .u32 l), .cell (.int .i32 h), .cell (.int .i32 n)] => some [
      ⟨[cd (IntKind.i64.wrap n = 0)], decide (IntKind.i64.wrap n = 0), three 0 0 (-10)⟩,
      ⟨[cd (IntKind.i64.wrap n ≠ 0 ∧ flX l h ≠ -9223372036854775808 ∧ ((flX l h).tmod (IntKind.i64.wrap n) = 0 ∨ (IntKind.i64.wrap n ≠ -1 ∧ decide ((flX l h).tmod (IntKind.i64.wrap n) < 0) = decide (n < 0))) ∧
          -2147483648 ≤ IntKind.i64.wrap ((flX l h).tdiv (IntKind.i64.wrap n)) ∧ IntKind.i64.wrap ((flX l h).tdiv (IntKind.i64.wrap n)) ≤ 2147483647)],
        decide (IntKind.i64.wrap n ≠ 0 ∧ flX l h ≠ -9223372036854775808 ∧ ((flX l h).tmod (IntKind.i64.wrap n) = 0 ∨ (IntKind.i64.wrap n ≠ -1 ∧ decide ((flX l h).tmod (IntKind.i64.wrap n) < 0) = decide (n < 0))) ∧
          -2147483648 ≤ IntKind.i64.wrap ((flX l h).tdiv (IntKind.i64.wrap n)) ∧ IntKind.i64.wrap ((flX l h).tdiv (IntKind.i64.wrap n)) ≤ 2147483647),
        three (IntKind.i32.wrap ((flX l h).tmod (IntKind.i64.wrap n))) (IntKind.i32.wrap (IntKind.i64.wrap ((flX l h).tdiv (IntKind.i64.wrap n)))) 0⟩,
      ⟨[cd (IntKind.i64.wrap n ≠ 0 ∧ IntKind.i64.wrap n ≠ -1 ∧ (flX l h).tmod (IntKind.i64.wrap n) ≠ 0 ∧ decide ((flX l h).tmod (IntKind.i64.wrap n) < 0) ≠ decide (n < 0) ∧
          -2147483648 ≤ IntKind.i64.wrap (IntKind.i64.wrap ((flX l h).tdiv (IntKind.i64.wrap n)) - 1) ∧ IntKind.i64.wrap (IntKind.i64.wrap ((flX l h).tdiv (IntKind.i64.wrap n)) - 1) ≤ 2147483647)],
        decide (IntKind.i64.wrap n ≠ 0 ∧ IntKind.i64.wrap n ≠ -1 ∧ (flX l h).tmod (IntKind.i64.wrap n) ≠ 0 ∧ decide ((flX l h).tmod (IntKind.i64.wrap n) < 0) ≠ decide (n < 0) ∧
          -2147483648 ≤ IntKind.i64.wrap (IntKind.i64.wrap ((flX l h).tdiv (IntKind.i64.wrap n)) - 1) ∧ IntKind.i64.wrap (IntKind.i64.wrap ((flX l h).tdiv (IntKind.i64.wrap n)) - 1) ≤ 2147483647),
        three (IntKind.i32.wrap (IntKind.i64.wrap ((flX l h).tmod (IntKind.i64.wrap n) + IntKind.i64.wrap n))) (IntKind.i32.wrap (IntKind.i64.wrap (IntKind.i64.wrap ((flX l h).tdiv (IntKind.i64.wrap n)) - 1))) 0⟩,
      ⟨[cd (IntKind.i64.wrap n = -1 ∧ flX l h ≠ -9223372036854775808 ∧ (flX l h).tmod (IntKind.i64.wrap n) = 0 ∧ -2147483648 ≤ IntKind.i64.wrap ((flX l h).tdiv (IntKind.i64.wrap n)) ∧ 2147483647 < IntKind.i64.wrap ((flX l h).tdiv (IntKind.i64.wrap n)))], true, three 0 0 (-11)⟩]
  | _ => none

theorem floored_ok : Valid Try.prog 75 (quietSum (D := Nob) flooredG) := quiet_of fun args ws h => by
  unfold flooredG at h
  split at h
  · rename_i l h n
    cases h
    have hv := E_valid (l := []) trivial 75
    refine ⟨rfl, fun hc => ⟨rfl, ?_⟩, fun hc => ⟨rfl, ?_⟩, fun hc => ⟨rfl, ?_⟩, fun hc => ⟨rfl, ?_⟩, trivial⟩
    · obtain ⟨h1, _⟩ := hc
      have h1 : IntKind.i64.wrap n = 0 := h1
      exact (fl_0 l h n).quiet hv ⟨by simp [h1], trivial⟩
    · obtain ⟨⟨h1, h2, h3, h4, h5⟩, _⟩ := hc
      generalize hN : IntKind.i64.wrap n = N at *
      generalize hX : flX l h = X at *
      by_cases c1 : N = -1
      · have c2 : X.tmod N = 0 := by rcases h3 with h3 | h3; · exact h3
                                     · exact absurd c1 h3.1
        have := (fl_4 l h n).quiet hv (by rw [hN, hX]; simp [AllP, c1, h2] at c2 h4 h5 ⊢; simp [c2, h4, h5])
        rw [hN, hX] at this; exact this
      · by_cases c2 : X.tmod N = 0
        · have := (fl_2 l h n).quiet hv (by rw [hN, hX]; simp [AllP, c1, c2, h1, h4, h5])
          rw [hN, hX] at this; exact this
        · have c3 : decide (X.tmod N < 0) = decide (n < 0) := by rcases h3 with h3 | h3; · exact absurd h3 c2
                                                                 · exact h3.2
          have := (fl_1 l h n).quiet hv (by rw [hN, hX]; simp [AllP, c1, c2, c3, h1, h4, h5])
          rw [hN, hX] at this; exact this
    · obtain ⟨⟨h1, h2, h3, h4, h5, h6⟩, _⟩ := hc
      generalize hN : IntKind.i64.wrap n = N at *
      generalize hX : flX l h = X at *
      have c3 : (!decide (X.tmod N < 0) == decide (n < 0)) = true := by
        cases hd : decide (X.tmod N < 0) <;> cases hd2 : decide (n < 0) <;> simp [hd, hd2] at h4 ⊢
      have := (fl_3 l h n).quiet hv (by rw [hN, hX]; simp [AllP, h1, h2, h3, h5, h6]; simpa using c3)
      rw [hN, hX] at this; exact this
    · obtain ⟨⟨h1, h2, h3, h4, h5⟩, _⟩ := hc
      generalize hN : IntKind.i64.wrap n = N at *
      generalize hX : flX l h = X at *
      subst h1
      exact (fl_5 l h n).quiet hv (by rw [hN, hX]; simp [AllP, h2] at h3 h4 h5 ⊢; simp [h3, h4, h5])
  · cases h

abbrev s8 : List (Nat × Sum Nob) := [(17, quietSum getG), (22, quietSum namedG), (8, canonSum sumG), (9, quietSum awakeG), (53, quietSum flagG), (75, quietSum flooredG)]
theorem s8_ok : AllV Try.prog s8 := ⟨get_ok, named_ok, sumG_ok, awake_ok, flag_ok, floored_ok, trivial⟩
end Go.Proofs.Ytnoonoghemgbbaa.Sx
