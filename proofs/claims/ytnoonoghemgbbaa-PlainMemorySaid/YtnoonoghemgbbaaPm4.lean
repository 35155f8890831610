/-
  PlainMemory: part 4: the calls at an address.
-/
import Derived.Test.YtnoonoghemgbbaaPm1
import Derived.Test.YtnoonoghemgbbaaPa3
set_option linter.unusedVariables false
set_option linter.unusedSimpArgs false
set_option maxRecDepth 100000
namespace Go.Proofs.Ytnoonoghemgbbaa.Sx
open Go

theorem mem_2_0 {a b : Int} (ha : isU a) (hb : isU b) : (memC0 1048584 a b).ok :=
  Bec.of (d := memD0) (ks := [819]) (ps := [(ld4 (by8 a 1) (by8 a 256) (by8 a 65536) (by8 a 16777216) != a) = false]) ⟨by kernel_rfl, by kernel_rfl⟩ ⟨fact_ld ha, trivial⟩

theorem mem_2_1 {a b : Int} (ha : isU a) (hb : isU b) : (memC1 1048584 a b).ok :=
  Bec.of (d := memD1) (ks := [1260]) (ps := [(ld4 (by8 (IntKind.u32.wrap (ld4 (by8 a 1) (by8 a 256) (by8 a 65536) (by8 a 16777216) + b)) 1) (by8 (IntKind.u32.wrap (ld4 (by8 a 1) (by8 a 256) (by8 a 65536) (by8 a 16777216) + b)) 256) (by8 (IntKind.u32.wrap (ld4 (by8 a 1) (by8 a 256) (by8 a 65536) (by8 a 16777216) + b)) 65536) (by8 (IntKind.u32.wrap (ld4 (by8 a 1) (by8 a 256) (by8 a 65536) (by8 a 16777216) + b)) 16777216) != IntKind.u32.wrap (a + b)) = false]) ⟨by kernel_rfl, by kernel_rfl⟩ ⟨fact_add ha, trivial⟩

theorem mem_2_2 {a b : Int} (ha : isU a) (hb : isU b) : (memC2 1048584 a b).ok :=
  Bec.of (d := memD2) (ks := [1090, 6]) (ps := [(ld4 (by8 a 1) (by8 a 256) (by8 a 65536) (by8 a 16777216) != a) = false, (ld4 (by8 b 1) (by8 b 256) (by8 b 65536) (by8 b 16777216) != b) = false]) ⟨by kernel_rfl, by kernel_rfl⟩ ⟨fact_ld ha, fact_ld hb, trivial⟩

theorem mem_2_3 {a b : Int} (ha : isU a) (hb : isU b) : (memC3 1048584 a b).ok :=
  Bec.of (d := memD3) (ks := [746]) (ps := [(IntKind.u32.wrap (IntKind.u8.wrap a) != low8 a) = false]) ⟨by kernel_rfl, by kernel_rfl⟩ ⟨fact_low ha, trivial⟩

theorem mem_2_4 {a b : Int} (ha : isU a) (hb : isU b) : (memC4 1048584 a b).ok :=
  Bec.of (d := memD4) (ks := [1190]) (ps := [(ld4 (by8 a 1) (by8 a 256) (by8 a 65536) (by8 a 16777216) != a) = false]) ⟨by kernel_rfl, by kernel_rfl⟩ ⟨fact_ld ha, trivial⟩

theorem mem_2_5 {a b : Int} (ha : isU a) (hb : isU b) : (memC5 1048584 a b).ok :=
  Bec.of (d := memD5) (ks := [819]) (ps := [(ld4 (IntKind.u8.wrap a) (IntKind.u8.wrap a) (IntKind.u8.wrap a) (IntKind.u8.wrap a) != IntKind.u32.wrap (low8 a * 16843009)) = false]) ⟨by kernel_rfl, by kernel_rfl⟩ ⟨fact_fill ha, trivial⟩

theorem mem_2_6 {a b : Int} (ha : isU a) (hb : isU b) : (memC6 1048584 a b).ok :=
  Bec.of (d := memD6) (ks := [783]) (ps := [(IntKind.u32.wrap (by8 a 1) != low8 a) = false]) ⟨by kernel_rfl, by kernel_rfl⟩ ⟨fact_low1 ha, trivial⟩

theorem mem_2_7 {a b : Int} (ha : isU a) (hb : isU b) : (memC7 1048584 a b).ok :=
  Bec.of (d := memD7) (ks := []) (ps := []) ⟨by kernel_rfl, by kernel_rfl⟩ trivial

theorem mem_2 {a b : Int} (ha : isU a) (hb : isU b) : ∀ c ∈ memL 1048584 a b, c.ok := by
  simp only [memL, List.mem_cons, List.not_mem_nil, or_false, forall_eq_or_imp, forall_eq]
  exact ⟨mem_2_0 ha hb, mem_2_1 ha hb, mem_2_2 ha hb, mem_2_3 ha hb, mem_2_4 ha hb, mem_2_5 ha hb, mem_2_6 ha hb, mem_2_7 ha hb⟩

end Go.Proofs.Ytnoonoghemgbbaa.Sx
