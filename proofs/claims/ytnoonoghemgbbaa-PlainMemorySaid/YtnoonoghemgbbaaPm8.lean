/-
  PlainMemory: part 8: all calls at all addresses.
-/
import Derived.Test.YtnoonoghemgbbaaPm2
import Derived.Test.YtnoonoghemgbbaaPm3
import Derived.Test.YtnoonoghemgbbaaPm4
import Derived.Test.YtnoonoghemgbbaaPm5
import Derived.Test.YtnoonoghemgbbaaPm6
import Derived.Test.YtnoonoghemgbbaaPm7
set_option linter.unusedVariables false
set_option linter.unusedSimpArgs false
set_option maxRecDepth 100000
namespace Go.Proofs.Ytnoonoghemgbbaa.Sx
open Go

/-- The address. -/
def kk (i : Int) : Int := 1048576 + 4 * (i % 6)

theorem mem_all {i a b : Int} (ha : isU a) (hb : isU b) : ∀ c ∈ memL (kk i) a b, c.ok := by
  have h : i % 6 = 0 ∨ i % 6 = 1 ∨ i % 6 = 2 ∨ i % 6 = 3 ∨ i % 6 = 4 ∨ i % 6 = 5 := by omega
  unfold kk
  rcases h with h | h | h | h | h | h <;> rw [h]
  · exact mem_0 ha hb
  · exact mem_1 ha hb
  · exact mem_2 ha hb
  · exact mem_3 ha hb
  · exact mem_4 ha hb
  · exact mem_5 ha hb

end Go.Proofs.Ytnoonoghemgbbaa.Sx
