/-
  PlainSums: part 2: the calls of 'becomes', as one summary.
-/
import Derived.Test.YtnoonoghemgbbaaPl10
set_option maxRecDepth 100000
namespace Go.Proofs.Ytnoonoghemgbbaa.Sx
open Go

abbrev strC (s : List UInt8) : Cell := .str s

/-- Such a call of 'becomes', of two cells. -/
def Bec.wayU (a b : Int) (n n' k k' m m' : Nat) (w : Int) (xs : List Int) (ns : List Cell) (ys : List Int) (c : Bec) : Way Nob :=
  ⟨[cd (0 ≤ a ∧ a ≤ 4294967295), cd (0 ≤ b ∧ b ≤ 4294967295), cq (n, n', k, k', m, m', w, xs, ns, ys) (c.xs.length, c.xs.length, c.ns.length, c.ns.length, c.ys.length, c.ys.length, c.w, c.xs, c.ns, c.ys)],
    nameB ns c.ns && (decide (xs = c.xs) && (decide (ys = c.ys) && decide (w = c.w))), .cell (.bool true), ofView Nob c.view, 3⟩
def Bec2.wayU (a b : Int) (n n' k k' m m' : Nat) (w : Int) (xs : List Int) (ns : List Cell) (c : Bec2) : Way Nob :=
  ⟨[cd (0 ≤ a ∧ a ≤ 4294967295), cd (0 ≤ b ∧ b ≤ 4294967295), cq (n, n', k, k', m, m', w, xs, ns) (c.xs.length, c.xs.length, c.ns.length, c.ns.length, c.xs.length, c.xs.length, c.w, c.xs, c.ns)],
    nameB ns c.ns && (decide (xs = c.xs) && decide (w = c.w)), .cell (.bool true), ofView Nob c.view, 2⟩

def sumA (a b : Int) : List Bec := [
  ⟨[a, b], [.str [84, 85, 67, 75], .str [43], .str [83, 87, 65, 80], .str [45]], [a], 0⟩,
  ⟨[a, b], [.str [50, 68, 85, 80], .str [65, 78, 68], .str [62, 82], .str [79, 82], .str [82, 62], .str [43]], [IntKind.u32.wrap (a + b)], 0⟩,
  ⟨[a, b], [.str [50, 68, 85, 80], .str [88, 79, 82], .str [88, 79, 82]], [a, a], 0⟩,
  ⟨[a, b], [.str [50, 68, 85, 80], .str [77, 73, 78], .str [62, 82], .str [77, 65, 88], .str [82, 62], .str [43]], [IntKind.u32.wrap (a + b)], 0⟩]
def sumB (a b : Int) : List Bec2 := [
  ⟨[a, b], [.str [78, 69, 71, 65, 84, 69], .str [78, 69, 71, 65, 84, 69]], 0⟩,
  ⟨[a, b], [.str [73, 78, 86, 69, 82, 84], .str [49, 43], .str [78, 69, 71, 65, 84, 69]], 0⟩,
  ⟨[a, b], [.str [49, 43], .str [49, 45], .str [83, 62, 68], .str [68, 78, 69, 71, 65, 84, 69], .str [68, 78, 69, 71, 65, 84, 69], .str [68, 82, 79, 80]], 0⟩]

theorem sumA_ok {a b : Int} (ha : isU a) (hb : isU b) : ∀ c ∈ sumA a b, c.ok := by
  simp only [sumA, List.mem_cons, List.not_mem_nil, or_false, forall_eq_or_imp, forall_eq]
  exact ⟨sum_0 ha hb, sum_3 ha hb, sum_4 ha hb, sum_5 ha hb⟩
theorem sumB_ok {a b : Int} (ha : isU a) (hb : isU b) : ∀ c ∈ sumB a b, c.ok := by
  simp only [sumB, List.mem_cons, List.not_mem_nil, or_false, forall_eq_or_imp, forall_eq]
  exact ⟨sum_1 ha hb, sum_2 ha hb, sum_6 ha hb⟩


def sumG : List AV → View → Option (List (Way Nob))
  | [.cell (.slice false 0 0 0 n (some n') 1), .cell (.slice false 1 0 0 k (some k') 1), .cell (.slice false 2 0 0 m (some m') 1), .cell (.int .i32 w)], [(true, .ints .u32 xs), (true, .raw ns), (true, .ints .u32 ys)] =>
    some ((sumA (xs.getD 0 0) (xs.getD 1 0)).map (Bec.wayU (xs.getD 0 0) (xs.getD 1 0) n n' k k' m m' w xs ns ys))
  | [.cell (.slice false 0 0 0 n (some n') 1), .cell (.slice false 1 0 0 k (some k') 1), .cell (.slice false 0 0 0 m (some m') 1), .cell (.int .i32 w)], [(true, .ints .u32 xs), (true, .raw ns)] =>
    some ((sumB (xs.getD 0 0) (xs.getD 1 0)).map (Bec2.wayU (xs.getD 0 0) (xs.getD 1 0) n n' k k' m m' w xs ns))
  | _, _ => none

theorem sumG_ok : Valid Try.prog 8 (canonSum sumG) := canon_of fun args Hc ws h => by
  unfold sumG at h
  split at h
  · cases h
    refine WaysOk.of_all fun y hy hc => ?_
    obtain ⟨c, hm, rfl⟩ := List.mem_map.1 hy
    obtain ⟨ha, hb, e, _⟩ := hc
    simp only [Bec.wayU, Prod.mk.injEq] at e
    obtain ⟨rfl, rfl, rfl, rfl, rfl, rfl, rfl, rfl, rfl, rfl⟩ := e
    exact sumA_ok ha hb c hm
  · cases h
    refine WaysOk.of_all fun y hy hc => ?_
    obtain ⟨c, hm, rfl⟩ := List.mem_map.1 hy
    obtain ⟨ha, hb, e, _⟩ := hc
    simp only [Bec2.wayU, Prod.mk.injEq] at e
    obtain ⟨rfl, rfl, rfl, rfl, rfl, rfl, rfl, rfl, rfl⟩ := e
    exact sumB_ok ha hb c hm
  · cases h

end Go.Proofs.Ytnoonoghemgbbaa.Sx
