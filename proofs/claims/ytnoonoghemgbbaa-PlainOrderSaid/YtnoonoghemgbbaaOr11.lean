import Derived.Test.YtnoonoghemgbbaaOr10
/-
  PlainOrder: part 2: what 'becomes' answers (printed by wip/plain/genord.py).
-/
set_option maxRecDepth 100000
set_option linter.unusedVariables false
set_option linter.unusedSimpArgs false
namespace Go.Proofs.Ytnoonoghemgbbaa.Sx
open Go

theorem len_app (base l : List Int) : (base ++ l).length = base.length + l.length := List.length_append
theorem top_app (base l : List Int) (k : Nat) (h : k < l.length) : top (base ++ l) k = top l k := by
  unfold top
  rw [List.getD_eq_getElem?_getD, List.getD_eq_getElem?_getD, len_app, List.getElem?_append_right (by omega)]
  congr 2
  omega
theorem take_app (base l : List Int) (t : Nat) (h : t ≤ l.length) : (base ++ l).take ((base ++ l).length - t) = base ++ l.take (l.length - t) := by
  rw [len_app, List.take_append, List.take_of_length_le (by omega)]
  congr 2
  omega
theorem dw_app {t : Nat} {f : List Int → List Int} (base l : List Int) (h : t ≤ l.length) (hf : f (base ++ l) = f l) : dw t f (base ++ l) = base ++ dw t f l := by
  unfold dw
  rw [hf, take_app base l t h, List.append_assoc]

theorem dw1 (base l : List Int) (h : 1 ≤ l.length) : dw 1 out1 (base ++ l) = base ++ dw 1 out1 l := by
  refine dw_app base l h ?_
  simp only [out1, top_app base l 0 (by omega)]
theorem dw2 (base l : List Int) (h : 1 ≤ l.length) : dw 1 out2 (base ++ l) = base ++ dw 1 out2 l := by
  refine dw_app base l h ?_
  simp only [out2, top_app base l 0 (by omega)]
theorem dw3 (base l : List Int) (h : 2 ≤ l.length) : dw 2 out3 (base ++ l) = base ++ dw 2 out3 l := by
  refine dw_app base l h ?_
  simp only [out3, top_app base l 0 (by omega), top_app base l 1 (by omega)]
theorem dw4 (base l : List Int) (h : 2 ≤ l.length) : dw 2 out4 (base ++ l) = base ++ dw 2 out4 l := by
  refine dw_app base l h ?_
  simp only [out4, top_app base l 0 (by omega), top_app base l 1 (by omega)]
theorem dw5 (base l : List Int) (h : 3 ≤ l.length) : dw 3 out5 (base ++ l) = base ++ dw 3 out5 l := by
  refine dw_app base l h ?_
  simp only [out5, top_app base l 0 (by omega), top_app base l 1 (by omega), top_app base l 2 (by omega)]
theorem dw7 (base l : List Int) (h : 2 ≤ l.length) : dw 2 out7 (base ++ l) = base ++ dw 2 out7 l := by
  refine dw_app base l h ?_
  simp only [out7, top_app base l 0 (by omega), top_app base l 1 (by omega)]
theorem dw8 (base l : List Int) (h : 2 ≤ l.length) : dw 2 out8 (base ++ l) = base ++ dw 2 out8 l := by
  refine dw_app base l h ?_
  simp only [out8, top_app base l 0 (by omega), top_app base l 1 (by omega)]
theorem dw9 (base l : List Int) (h : 2 ≤ l.length) : dw 2 out9 (base ++ l) = base ++ dw 2 out9 l := by
  refine dw_app base l h ?_
  simp only [out9, top_app base l 0 (by omega), top_app base l 1 (by omega)]
theorem dw10 (base l : List Int) (h : 2 ≤ l.length) : dw 2 out10 (base ++ l) = base ++ dw 2 out10 l := by
  refine dw_app base l h ?_
  simp only [out10, top_app base l 0 (by omega), top_app base l 1 (by omega)]
theorem dw11 (base l : List Int) (h : 4 ≤ l.length) : dw 4 out11 (base ++ l) = base ++ dw 4 out11 l := by
  refine dw_app base l h ?_
  simp only [out11, top_app base l 0 (by omega), top_app base l 1 (by omega), top_app base l 2 (by omega), top_app base l 3 (by omega)]
theorem dw12 (base l : List Int) (h : 4 ≤ l.length) : dw 4 out12 (base ++ l) = base ++ dw 4 out12 l := by
  refine dw_app base l h ?_
  simp only [out12, top_app base l 0 (by omega), top_app base l 1 (by omega), top_app base l 2 (by omega), top_app base l 3 (by omega)]
theorem dw68 (base l : List Int) (h : 1 ≤ l.length) : dw 1 out68 (base ++ l) = base ++ dw 1 out68 l := by
  refine dw_app base l h ?_
  simp only [out68, top_app base l 0 (by omega)]

theorem four {xs : List Int} (h : 4 ≤ xs.length) : ∃ base a b c d, xs = base ++ [a, b, c, d] := by
  refine ⟨xs.take (xs.length - 4), xs.getD (xs.length - 4) 0, xs.getD (xs.length - 3) 0, xs.getD (xs.length - 2) 0, xs.getD (xs.length - 1) 0, ?_⟩
  apply List.ext_getElem?
  intro i
  rw [List.getElem?_append]
  simp only [List.length_take, List.getD_eq_getElem?_getD]
  have e : min (xs.length - 4) xs.length = xs.length - 4 := by omega
  rw [e]
  split
  · rw [List.getElem?_take, if_pos (by assumption)]
  · rename_i hi
    obtain ⟨j, rfl⟩ : ∃ j, i = xs.length - 4 + j := ⟨i - (xs.length - 4), by omega⟩
    rw [Nat.add_sub_cancel_left]
    match j with
    | 0 => rw [Nat.add_zero, List.getElem?_eq_getElem (by omega)]; simp
    | 1 => rw [show xs.length - 4 + 1 = xs.length - 3 by omega, List.getElem?_eq_getElem (by omega)]; simp
    | 2 => rw [show xs.length - 4 + 2 = xs.length - 2 by omega, List.getElem?_eq_getElem (by omega)]; simp
    | 3 => rw [show xs.length - 4 + 3 = xs.length - 1 by omega, List.getElem?_eq_getElem (by omega)]; simp
    | k + 4 => rw [List.getElem?_eq_none (by omega), List.getElem?_eq_none (by simp)]

theorem cellsOk_app (l m : List Int) : cellsOk (l ++ m) ↔ cellsOk l ∧ cellsOk m := by
  unfold cellsOk
  constructor
  · exact fun h => ⟨fun x hx => h x (List.mem_append_left _ hx), fun x hx => h x (List.mem_append_right _ hx)⟩
  · rintro ⟨h1, h2⟩ x hx
    rcases List.mem_append.1 hx with h | h
    · exact h1 x h
    · exact h2 x h
theorem cellsOk_cons (x : Int) (m : List Int) : cellsOk (x :: m) ↔ (0 ≤ x ∧ x < 4294967296) ∧ cellsOk m := by
  unfold cellsOk
  simp only [List.mem_cons, forall_eq_or_imp]
theorem cellsOk_nil : cellsOk [] ↔ True := by
  unfold cellsOk
  simp

theorem taken {k : Nat} {xs : List Int} (hk : k = xs.length) : xs.take k = xs := List.take_of_length_le (by omega)

def ord0N : List Cell := [.str [83, 87, 65, 80], .str [83, 87, 65, 80]]

theorem ord0_1 (xs : List Int) (k : Nat) : Good (evB 8 (ordA 2 k) (ordH xs ord0N) [0, 0, 0, 1, 1, 0, 1, 1, 1, 0, 1, 1, 1, 0, 0, 5, 0, 1, 2, 5, 6, 1, 1, 1, 0, 1, 1, 0, 0, 0, 0, 0, 0, 1, 1, 1, 0, 1, 0, 0, 0, 0, 1, 0, 0, 0, 0, 0, 1, 1, 1, 1, 1, 1, 0, 1, 1, 0, 1]) [30, 0, 20, 14, 11, 2] [(cd True).p ∧ (cand (cd ((0 : Int) ≤ if (20 : Int) < (↑k : Int) then (20 : Int) else (↑k : Int))) (cand (cd True) (cand (cd ((none : Option Operand).isSome = true → (some (Operand.tmp (51 : Nat))).isSome = true)) (cd ((1 : Nat) = 1 ∧ (0 : Nat) ≤ (if (20 : Int) < (↑k : Int) then (20 : Int) else (↑k : Int)).toNat ∧ (if (20 : Int) < (↑k : Int) then (20 : Int) else (↑k : Int)).toNat ≤ k ∧ ((0 : Nat) = (0 : Nat) ∨ (0 : Nat) < k)))))).p, (if (20 : Int) < (↑k : Int) then (20 : Int) else (↑k : Int)).toNat - (0 : Nat) ≤ xs.length ∧ (↑((if (20 : Int) < (↑k : Int) then (20 : Int) else (↑k : Int)).toNat - (0 : Nat)) : Int) ≤ (20 : Int), cellsOk ([] ++ List.take ((if (20 : Int) < (↑k : Int) then (20 : Int) else (↑k : Int)).toNat - (0 : Nat)) xs) ∧ (2 : Nat) ≤ ([] ++ List.take ((if (20 : Int) < (↑k : Int) then (20 : Int) else (↑k : Int)).toNat - (0 : Nat)) xs).length ∧ (2 : Int) ≤ (20 : Int) - ((↑([] ++ List.take ((if (20 : Int) < (↑k : Int) then (20 : Int) else (↑k : Int)).toNat - (0 : Nat)) xs).length : Int) - (2 : Int)), cellsOk (dw (2 : Nat) out3 ([] ++ List.take ((if (20 : Int) < (↑k : Int) then (20 : Int) else (↑k : Int)).toNat - (0 : Nat)) xs)) ∧ (2 : Nat) ≤ (dw (2 : Nat) out3 ([] ++ List.take ((if (20 : Int) < (↑k : Int) then (20 : Int) else (↑k : Int)).toNat - (0 : Nat)) xs)).length ∧ (2 : Int) ≤ (20 : Int) - ((↑(dw (2 : Nat) out3 ([] ++ List.take ((if (20 : Int) < (↑k : Int) then (20 : Int) else (↑k : Int)).toNat - (0 : Nat)) xs)).length : Int) - (2 : Int)), (0 : Nat) < (dw (2 : Nat) out3 (dw (2 : Nat) out3 ([] ++ List.take ((if (20 : Int) < (↑k : Int) then (20 : Int) else (↑k : Int)).toNat - (0 : Nat)) xs))).length, k = (dw (2 : Nat) out3 (dw (2 : Nat) out3 ([] ++ List.take ((if (20 : Int) < (↑k : Int) then (20 : Int) else (↑k : Int)).toNat - (0 : Nat)) xs))).length ∧ (dw (2 : Nat) out3 (dw (2 : Nat) out3 ([] ++ List.take ((if (20 : Int) < (↑k : Int) then (20 : Int) else (↑k : Int)).toNat - (0 : Nat)) xs))).length ≤ (dw (2 : Nat) out3 (dw (2 : Nat) out3 ([] ++ List.take ((if (20 : Int) < (↑k : Int) then (20 : Int) else (↑k : Int)).toNat - (0 : Nat)) xs))).length ∧ (dw (2 : Nat) out3 (dw (2 : Nat) out3 ([] ++ List.take ((if (20 : Int) < (↑k : Int) then (20 : Int) else (↑k : Int)).toNat - (0 : Nat)) xs))).length ≤ xs.length ∧ (↑(dw (2 : Nat) out3 (dw (2 : Nat) out3 ([] ++ List.take ((if (20 : Int) < (↑k : Int) then (20 : Int) else (↑k : Int)).toNat - (0 : Nat)) xs))).length : Int) ≤ (9223372036854775807 : Int) ∧ List.take (dw (2 : Nat) out3 (dw (2 : Nat) out3 ([] ++ List.take ((if (20 : Int) < (↑k : Int) then (20 : Int) else (↑k : Int)).toNat - (0 : Nat)) xs))).length (dw (2 : Nat) out3 (dw (2 : Nat) out3 ([] ++ List.take ((if (20 : Int) < (↑k : Int) then (20 : Int) else (↑k : Int)).toNat - (0 : Nat)) xs))) = List.take (dw (2 : Nat) out3 (dw (2 : Nat) out3 ([] ++ List.take ((if (20 : Int) < (↑k : Int) then (20 : Int) else (↑k : Int)).toNat - (0 : Nat)) xs))).length xs] (AV.cell (Cell.bool true), ordH xs ord0N, (0 : Nat), []) := ⟨by kernel_rfl, by kernel_rfl⟩

theorem ord0_ok {xs : List Int} {k : Nat} (hk : k = xs.length) (h1 : 4 ≤ k) (h2 : k ≤ 14) (hc : cellsOk xs) : CanOk Try.prog 8 (ordH xs ord0N) (ordA 2 k) (.cell (.bool true)) (ordH xs ord0N) 0 := by
  obtain ⟨base, a, b, c, d, rfl⟩ := four (hk ▸ h1)
  have hkk : (if (20 : Int) < (k : Int) then (20 : Int) else (k : Int)) = (k : Int) := if_neg (by omega)
  have g := ord0_1 (base ++ [a, b, c, d]) k
  simp only [hkk, Int.toNat_natCast, Nat.sub_zero, List.nil_append, taken hk] at g
  have s1 : dw 2 out3 (base ++ [a, b, c, d]) = base ++ [a, b, d, c] := dw3 base _ (by simp)
  have s2 : dw 2 out3 (base ++ [a, b, d, c]) = base ++ [a, b, c, d] := dw3 base _ (by simp)
  simp only [s1, s2] at g
  exact g.canT (E_valid sB_ok 8) (Nat.le_refl 2) (by
    simp only [cellsOk_app, cellsOk_cons, cellsOk_nil, len_app, List.length_cons, List.length_nil] at hc hk
    simp only [AllP, and_true, true_and, cellsOk_app, cellsOk_cons, cellsOk_nil, len_app, List.length_cons, List.length_nil, List.take_of_length_le, Nat.le_refl, IntKind.wrap_u32, hc]
    first | done | omega | (simp; done) | (simp; omega) | (refine ⟨?_, ?_⟩ <;> first | omega | (simp; omega)))

def ord1N : List Cell := [.str [82, 79, 84], .str [82, 79, 84], .str [82, 79, 84]]

theorem ord1_1 (xs : List Int) (k : Nat) : Good (evB 8 (ordA 3 k) (ordH xs ord1N) [0, 0, 0, 1, 1, 0, 1, 1, 1, 0, 1, 1, 1, 0, 0, 5, 0, 1, 2, 5, 6, 1, 1, 1, 0, 1, 1, 0, 0, 0, 0, 0, 0, 1, 1, 1, 0, 1, 0, 0, 0, 0, 1, 0, 0, 0, 0, 1, 0, 0, 0, 0, 0, 1, 1, 1, 1, 1, 1, 0, 1, 1, 0, 1]) [30, 0, 20, 14, 14, 11, 2] [(cd True).p ∧ (cand (cd ((0 : Int) ≤ if (20 : Int) < (↑k : Int) then (20 : Int) else (↑k : Int))) (cand (cd True) (cand (cd ((none : Option Operand).isSome = true → (some (Operand.tmp (51 : Nat))).isSome = true)) (cd ((1 : Nat) = 1 ∧ (0 : Nat) ≤ (if (20 : Int) < (↑k : Int) then (20 : Int) else (↑k : Int)).toNat ∧ (if (20 : Int) < (↑k : Int) then (20 : Int) else (↑k : Int)).toNat ≤ k ∧ ((0 : Nat) = (0 : Nat) ∨ (0 : Nat) < k)))))).p, (if (20 : Int) < (↑k : Int) then (20 : Int) else (↑k : Int)).toNat - (0 : Nat) ≤ xs.length ∧ (↑((if (20 : Int) < (↑k : Int) then (20 : Int) else (↑k : Int)).toNat - (0 : Nat)) : Int) ≤ (20 : Int), cellsOk ([] ++ List.take ((if (20 : Int) < (↑k : Int) then (20 : Int) else (↑k : Int)).toNat - (0 : Nat)) xs) ∧ (3 : Nat) ≤ ([] ++ List.take ((if (20 : Int) < (↑k : Int) then (20 : Int) else (↑k : Int)).toNat - (0 : Nat)) xs).length ∧ (3 : Int) ≤ (20 : Int) - ((↑([] ++ List.take ((if (20 : Int) < (↑k : Int) then (20 : Int) else (↑k : Int)).toNat - (0 : Nat)) xs).length : Int) - (3 : Int)), cellsOk (dw (3 : Nat) out5 ([] ++ List.take ((if (20 : Int) < (↑k : Int) then (20 : Int) else (↑k : Int)).toNat - (0 : Nat)) xs)) ∧ (3 : Nat) ≤ (dw (3 : Nat) out5 ([] ++ List.take ((if (20 : Int) < (↑k : Int) then (20 : Int) else (↑k : Int)).toNat - (0 : Nat)) xs)).length ∧ (3 : Int) ≤ (20 : Int) - ((↑(dw (3 : Nat) out5 ([] ++ List.take ((if (20 : Int) < (↑k : Int) then (20 : Int) else (↑k : Int)).toNat - (0 : Nat)) xs)).length : Int) - (3 : Int)), cellsOk (dw (3 : Nat) out5 (dw (3 : Nat) out5 ([] ++ List.take ((if (20 : Int) < (↑k : Int) then (20 : Int) else (↑k : Int)).toNat - (0 : Nat)) xs))) ∧ (3 : Nat) ≤ (dw (3 : Nat) out5 (dw (3 : Nat) out5 ([] ++ List.take ((if (20 : Int) < (↑k : Int) then (20 : Int) else (↑k : Int)).toNat - (0 : Nat)) xs))).length ∧ (3 : Int) ≤ (20 : Int) - ((↑(dw (3 : Nat) out5 (dw (3 : Nat) out5 ([] ++ List.take ((if (20 : Int) < (↑k : Int) then (20 : Int) else (↑k : Int)).toNat - (0 : Nat)) xs))).length : Int) - (3 : Int)), (0 : Nat) < (dw (3 : Nat) out5 (dw (3 : Nat) out5 (dw (3 : Nat) out5 ([] ++ List.take ((if (20 : Int) < (↑k : Int) then (20 : Int) else (↑k : Int)).toNat - (0 : Nat)) xs)))).length, k = (dw (3 : Nat) out5 (dw (3 : Nat) out5 (dw (3 : Nat) out5 ([] ++ List.take ((if (20 : Int) < (↑k : Int) then (20 : Int) else (↑k : Int)).toNat - (0 : Nat)) xs)))).length ∧ (dw (3 : Nat) out5 (dw (3 : Nat) out5 (dw (3 : Nat) out5 ([] ++ List.take ((if (20 : Int) < (↑k : Int) then (20 : Int) else (↑k : Int)).toNat - (0 : Nat)) xs)))).length ≤ (dw (3 : Nat) out5 (dw (3 : Nat) out5 (dw (3 : Nat) out5 ([] ++ List.take ((if (20 : Int) < (↑k : Int) then (20 : Int) else (↑k : Int)).toNat - (0 : Nat)) xs)))).length ∧ (dw (3 : Nat) out5 (dw (3 : Nat) out5 (dw (3 : Nat) out5 ([] ++ List.take ((if (20 : Int) < (↑k : Int) then (20 : Int) else (↑k : Int)).toNat - (0 : Nat)) xs)))).length ≤ xs.length ∧ (↑(dw (3 : Nat) out5 (dw (3 : Nat) out5 (dw (3 : Nat) out5 ([] ++ List.take ((if (20 : Int) < (↑k : Int) then (20 : Int) else (↑k : Int)).toNat - (0 : Nat)) xs)))).length : Int) ≤ (9223372036854775807 : Int) ∧ List.take (dw (3 : Nat) out5 (dw (3 : Nat) out5 (dw (3 : Nat) out5 ([] ++ List.take ((if (20 : Int) < (↑k : Int) then (20 : Int) else (↑k : Int)).toNat - (0 : Nat)) xs)))).length (dw (3 : Nat) out5 (dw (3 : Nat) out5 (dw (3 : Nat) out5 ([] ++ List.take ((if (20 : Int) < (↑k : Int) then (20 : Int) else (↑k : Int)).toNat - (0 : Nat)) xs)))) = List.take (dw (3 : Nat) out5 (dw (3 : Nat) out5 (dw (3 : Nat) out5 ([] ++ List.take ((if (20 : Int) < (↑k : Int) then (20 : Int) else (↑k : Int)).toNat - (0 : Nat)) xs)))).length xs] (AV.cell (Cell.bool true), ordH xs ord1N, (0 : Nat), []) := ⟨by kernel_rfl, by kernel_rfl⟩

theorem ord1_ok {xs : List Int} {k : Nat} (hk : k = xs.length) (h1 : 4 ≤ k) (h2 : k ≤ 14) (hc : cellsOk xs) : CanOk Try.prog 8 (ordH xs ord1N) (ordA 3 k) (.cell (.bool true)) (ordH xs ord1N) 0 := by
  obtain ⟨base, a, b, c, d, rfl⟩ := four (hk ▸ h1)
  have hkk : (if (20 : Int) < (k : Int) then (20 : Int) else (k : Int)) = (k : Int) := if_neg (by omega)
  have g := ord1_1 (base ++ [a, b, c, d]) k
  simp only [hkk, Int.toNat_natCast, Nat.sub_zero, List.nil_append, taken hk] at g
  have s1 : dw 3 out5 (base ++ [a, b, c, d]) = base ++ [a, c, d, b] := dw5 base _ (by simp)
  have s2 : dw 3 out5 (base ++ [a, c, d, b]) = base ++ [a, d, b, c] := dw5 base _ (by simp)
  have s3 : dw 3 out5 (base ++ [a, d, b, c]) = base ++ [a, b, c, d] := dw5 base _ (by simp)
  simp only [s1, s2, s3] at g
  exact g.canT (E_valid sB_ok 8) (Nat.le_refl 2) (by
    simp only [cellsOk_app, cellsOk_cons, cellsOk_nil, len_app, List.length_cons, List.length_nil] at hc hk
    simp only [AllP, and_true, true_and, cellsOk_app, cellsOk_cons, cellsOk_nil, len_app, List.length_cons, List.length_nil, List.take_of_length_le, Nat.le_refl, IntKind.wrap_u32, hc]
    first | done | omega | (simp; done) | (simp; omega) | (refine ⟨?_, ?_⟩ <;> first | omega | (simp; omega)))

def ord2N : List Cell := [.str [84, 85, 67, 75], .str [82, 79, 84], .str [68, 82, 79, 80]]

theorem ord2_1 (xs : List Int) (k : Nat) : Good (evB 8 (ordA 3 k) (ordH xs ord2N) [0, 0, 0, 1, 1, 0, 1, 1, 1, 0, 1, 1, 1, 0, 0, 5, 0, 1, 2, 5, 6, 1, 1, 1, 0, 1, 1, 0, 0, 0, 0, 0, 0, 1, 1, 1, 0, 1, 0, 0, 0, 0, 1, 0, 0, 0, 0, 1, 0, 0, 0, 0, 0, 1, 1, 1, 1, 1, 1, 0, 1, 1, 0, 1]) [30, 0, 20, 14, 14, 11, 2] [(cd True).p ∧ (cand (cd ((0 : Int) ≤ if (20 : Int) < (↑k : Int) then (20 : Int) else (↑k : Int))) (cand (cd True) (cand (cd ((none : Option Operand).isSome = true → (some (Operand.tmp (51 : Nat))).isSome = true)) (cd ((1 : Nat) = 1 ∧ (0 : Nat) ≤ (if (20 : Int) < (↑k : Int) then (20 : Int) else (↑k : Int)).toNat ∧ (if (20 : Int) < (↑k : Int) then (20 : Int) else (↑k : Int)).toNat ≤ k ∧ ((0 : Nat) = (0 : Nat) ∨ (0 : Nat) < k)))))).p, (if (20 : Int) < (↑k : Int) then (20 : Int) else (↑k : Int)).toNat - (0 : Nat) ≤ xs.length ∧ (↑((if (20 : Int) < (↑k : Int) then (20 : Int) else (↑k : Int)).toNat - (0 : Nat)) : Int) ≤ (20 : Int), cellsOk ([] ++ List.take ((if (20 : Int) < (↑k : Int) then (20 : Int) else (↑k : Int)).toNat - (0 : Nat)) xs) ∧ (2 : Nat) ≤ ([] ++ List.take ((if (20 : Int) < (↑k : Int) then (20 : Int) else (↑k : Int)).toNat - (0 : Nat)) xs).length ∧ (3 : Int) ≤ (20 : Int) - ((↑([] ++ List.take ((if (20 : Int) < (↑k : Int) then (20 : Int) else (↑k : Int)).toNat - (0 : Nat)) xs).length : Int) - (2 : Int)), cellsOk (dw (2 : Nat) out8 ([] ++ List.take ((if (20 : Int) < (↑k : Int) then (20 : Int) else (↑k : Int)).toNat - (0 : Nat)) xs)) ∧ (3 : Nat) ≤ (dw (2 : Nat) out8 ([] ++ List.take ((if (20 : Int) < (↑k : Int) then (20 : Int) else (↑k : Int)).toNat - (0 : Nat)) xs)).length ∧ (3 : Int) ≤ (20 : Int) - ((↑(dw (2 : Nat) out8 ([] ++ List.take ((if (20 : Int) < (↑k : Int) then (20 : Int) else (↑k : Int)).toNat - (0 : Nat)) xs)).length : Int) - (3 : Int)), cellsOk (dw (3 : Nat) out5 (dw (2 : Nat) out8 ([] ++ List.take ((if (20 : Int) < (↑k : Int) then (20 : Int) else (↑k : Int)).toNat - (0 : Nat)) xs))) ∧ (1 : Nat) ≤ (dw (3 : Nat) out5 (dw (2 : Nat) out8 ([] ++ List.take ((if (20 : Int) < (↑k : Int) then (20 : Int) else (↑k : Int)).toNat - (0 : Nat)) xs))).length ∧ (0 : Int) ≤ (20 : Int) - ((↑(dw (3 : Nat) out5 (dw (2 : Nat) out8 ([] ++ List.take ((if (20 : Int) < (↑k : Int) then (20 : Int) else (↑k : Int)).toNat - (0 : Nat)) xs))).length : Int) - (1 : Int)), (0 : Nat) < (dw (1 : Nat) out2 (dw (3 : Nat) out5 (dw (2 : Nat) out8 ([] ++ List.take ((if (20 : Int) < (↑k : Int) then (20 : Int) else (↑k : Int)).toNat - (0 : Nat)) xs)))).length, k = (dw (1 : Nat) out2 (dw (3 : Nat) out5 (dw (2 : Nat) out8 ([] ++ List.take ((if (20 : Int) < (↑k : Int) then (20 : Int) else (↑k : Int)).toNat - (0 : Nat)) xs)))).length ∧ (dw (1 : Nat) out2 (dw (3 : Nat) out5 (dw (2 : Nat) out8 ([] ++ List.take ((if (20 : Int) < (↑k : Int) then (20 : Int) else (↑k : Int)).toNat - (0 : Nat)) xs)))).length ≤ (dw (1 : Nat) out2 (dw (3 : Nat) out5 (dw (2 : Nat) out8 ([] ++ List.take ((if (20 : Int) < (↑k : Int) then (20 : Int) else (↑k : Int)).toNat - (0 : Nat)) xs)))).length ∧ (dw (1 : Nat) out2 (dw (3 : Nat) out5 (dw (2 : Nat) out8 ([] ++ List.take ((if (20 : Int) < (↑k : Int) then (20 : Int) else (↑k : Int)).toNat - (0 : Nat)) xs)))).length ≤ xs.length ∧ (↑(dw (1 : Nat) out2 (dw (3 : Nat) out5 (dw (2 : Nat) out8 ([] ++ List.take ((if (20 : Int) < (↑k : Int) then (20 : Int) else (↑k : Int)).toNat - (0 : Nat)) xs)))).length : Int) ≤ (9223372036854775807 : Int) ∧ List.take (dw (1 : Nat) out2 (dw (3 : Nat) out5 (dw (2 : Nat) out8 ([] ++ List.take ((if (20 : Int) < (↑k : Int) then (20 : Int) else (↑k : Int)).toNat - (0 : Nat)) xs)))).length (dw (1 : Nat) out2 (dw (3 : Nat) out5 (dw (2 : Nat) out8 ([] ++ List.take ((if (20 : Int) < (↑k : Int) then (20 : Int) else (↑k : Int)).toNat - (0 : Nat)) xs)))) = List.take (dw (1 : Nat) out2 (dw (3 : Nat) out5 (dw (2 : Nat) out8 ([] ++ List.take ((if (20 : Int) < (↑k : Int) then (20 : Int) else (↑k : Int)).toNat - (0 : Nat)) xs)))).length xs] (AV.cell (Cell.bool true), ordH xs ord2N, (0 : Nat), []) := ⟨by kernel_rfl, by kernel_rfl⟩

theorem ord2_ok {xs : List Int} {k : Nat} (hk : k = xs.length) (h1 : 4 ≤ k) (h2 : k ≤ 14) (hc : cellsOk xs) : CanOk Try.prog 8 (ordH xs ord2N) (ordA 3 k) (.cell (.bool true)) (ordH xs ord2N) 0 := by
  obtain ⟨base, a, b, c, d, rfl⟩ := four (hk ▸ h1)
  have hkk : (if (20 : Int) < (k : Int) then (20 : Int) else (k : Int)) = (k : Int) := if_neg (by omega)
  have g := ord2_1 (base ++ [a, b, c, d]) k
  simp only [hkk, Int.toNat_natCast, Nat.sub_zero, List.nil_append, taken hk] at g
  have s1 : dw 2 out8 (base ++ [a, b, c, d]) = base ++ [a, b, d, c, d] := dw8 base _ (by simp)
  have s2 : dw 3 out5 (base ++ [a, b, d, c, d]) = base ++ [a, b, c, d, d] := dw5 base _ (by simp)
  have s3 : dw 1 out2 (base ++ [a, b, c, d, d]) = base ++ [a, b, c, d] := dw2 base _ (by simp)
  simp only [s1, s2, s3] at g
  exact g.canT (E_valid sB_ok 8) (Nat.le_refl 2) (by
    simp only [cellsOk_app, cellsOk_cons, cellsOk_nil, len_app, List.length_cons, List.length_nil] at hc hk
    simp only [AllP, and_true, true_and, cellsOk_app, cellsOk_cons, cellsOk_nil, len_app, List.length_cons, List.length_nil, List.take_of_length_le, Nat.le_refl, IntKind.wrap_u32, hc]
    first | done | omega | (simp; done) | (simp; omega) | (refine ⟨?_, ?_⟩ <;> first | omega | (simp; omega)))

def ord3N : List Cell := [.str [79, 86, 69, 82], .str [68, 82, 79, 80]]

theorem ord3_1 (xs : List Int) (k : Nat) : Good (evB 8 (ordA 2 k) (ordH xs ord3N) [0, 0, 0, 1, 1, 0, 1, 1, 1, 0, 1, 1, 1, 0, 0, 5, 0, 1, 2, 5, 6, 1, 1, 1, 0, 1, 1, 0, 0, 0, 0, 0, 0, 1, 1, 1, 0, 1, 0, 0, 0, 0, 1, 0, 0, 0, 0, 0, 1, 1, 1, 1, 1, 1, 0, 1, 1, 0, 1]) [30, 0, 20, 14, 11, 2] [(cd True).p ∧ (cand (cd ((0 : Int) ≤ if (20 : Int) < (↑k : Int) then (20 : Int) else (↑k : Int))) (cand (cd True) (cand (cd ((none : Option Operand).isSome = true → (some (Operand.tmp (51 : Nat))).isSome = true)) (cd ((1 : Nat) = 1 ∧ (0 : Nat) ≤ (if (20 : Int) < (↑k : Int) then (20 : Int) else (↑k : Int)).toNat ∧ (if (20 : Int) < (↑k : Int) then (20 : Int) else (↑k : Int)).toNat ≤ k ∧ ((0 : Nat) = (0 : Nat) ∨ (0 : Nat) < k)))))).p, (if (20 : Int) < (↑k : Int) then (20 : Int) else (↑k : Int)).toNat - (0 : Nat) ≤ xs.length ∧ (↑((if (20 : Int) < (↑k : Int) then (20 : Int) else (↑k : Int)).toNat - (0 : Nat)) : Int) ≤ (20 : Int), cellsOk ([] ++ List.take ((if (20 : Int) < (↑k : Int) then (20 : Int) else (↑k : Int)).toNat - (0 : Nat)) xs) ∧ (2 : Nat) ≤ ([] ++ List.take ((if (20 : Int) < (↑k : Int) then (20 : Int) else (↑k : Int)).toNat - (0 : Nat)) xs).length ∧ (3 : Int) ≤ (20 : Int) - ((↑([] ++ List.take ((if (20 : Int) < (↑k : Int) then (20 : Int) else (↑k : Int)).toNat - (0 : Nat)) xs).length : Int) - (2 : Int)), cellsOk (dw (2 : Nat) out4 ([] ++ List.take ((if (20 : Int) < (↑k : Int) then (20 : Int) else (↑k : Int)).toNat - (0 : Nat)) xs)) ∧ (1 : Nat) ≤ (dw (2 : Nat) out4 ([] ++ List.take ((if (20 : Int) < (↑k : Int) then (20 : Int) else (↑k : Int)).toNat - (0 : Nat)) xs)).length ∧ (0 : Int) ≤ (20 : Int) - ((↑(dw (2 : Nat) out4 ([] ++ List.take ((if (20 : Int) < (↑k : Int) then (20 : Int) else (↑k : Int)).toNat - (0 : Nat)) xs)).length : Int) - (1 : Int)), (0 : Nat) < (dw (1 : Nat) out2 (dw (2 : Nat) out4 ([] ++ List.take ((if (20 : Int) < (↑k : Int) then (20 : Int) else (↑k : Int)).toNat - (0 : Nat)) xs))).length, k = (dw (1 : Nat) out2 (dw (2 : Nat) out4 ([] ++ List.take ((if (20 : Int) < (↑k : Int) then (20 : Int) else (↑k : Int)).toNat - (0 : Nat)) xs))).length ∧ (dw (1 : Nat) out2 (dw (2 : Nat) out4 ([] ++ List.take ((if (20 : Int) < (↑k : Int) then (20 : Int) else (↑k : Int)).toNat - (0 : Nat)) xs))).length ≤ (dw (1 : Nat) out2 (dw (2 : Nat) out4 ([] ++ List.take ((if (20 : Int) < (↑k : Int) then (20 : Int) else (↑k : Int)).toNat - (0 : Nat)) xs))).length ∧ (dw (1 : Nat) out2 (dw (2 : Nat) out4 ([] ++ List.take ((if (20 : Int) < (↑k : Int) then (20 : Int) else (↑k : Int)).toNat - (0 : Nat)) xs))).length ≤ xs.length ∧ (↑(dw (1 : Nat) out2 (dw (2 : Nat) out4 ([] ++ List.take ((if (20 : Int) < (↑k : Int) then (20 : Int) else (↑k : Int)).toNat - (0 : Nat)) xs))).length : Int) ≤ (9223372036854775807 : Int) ∧ List.take (dw (1 : Nat) out2 (dw (2 : Nat) out4 ([] ++ List.take ((if (20 : Int) < (↑k : Int) then (20 : Int) else (↑k : Int)).toNat - (0 : Nat)) xs))).length (dw (1 : Nat) out2 (dw (2 : Nat) out4 ([] ++ List.take ((if (20 : Int) < (↑k : Int) then (20 : Int) else (↑k : Int)).toNat - (0 : Nat)) xs))) = List.take (dw (1 : Nat) out2 (dw (2 : Nat) out4 ([] ++ List.take ((if (20 : Int) < (↑k : Int) then (20 : Int) else (↑k : Int)).toNat - (0 : Nat)) xs))).length xs] (AV.cell (Cell.bool true), ordH xs ord3N, (0 : Nat), []) := ⟨by kernel_rfl, by kernel_rfl⟩

theorem ord3_ok {xs : List Int} {k : Nat} (hk : k = xs.length) (h1 : 4 ≤ k) (h2 : k ≤ 14) (hc : cellsOk xs) : CanOk Try.prog 8 (ordH xs ord3N) (ordA 2 k) (.cell (.bool true)) (ordH xs ord3N) 0 := by
  obtain ⟨base, a, b, c, d, rfl⟩ := four (hk ▸ h1)
  have hkk : (if (20 : Int) < (k : Int) then (20 : Int) else (k : Int)) = (k : Int) := if_neg (by omega)
  have g := ord3_1 (base ++ [a, b, c, d]) k
  simp only [hkk, Int.toNat_natCast, Nat.sub_zero, List.nil_append, taken hk] at g
  have s1 : dw 2 out4 (base ++ [a, b, c, d]) = base ++ [a, b, c, d, c] := dw4 base _ (by simp)
  have s2 : dw 1 out2 (base ++ [a, b, c, d, c]) = base ++ [a, b, c, d] := dw2 base _ (by simp)
  simp only [s1, s2] at g
  exact g.canT (E_valid sB_ok 8) (Nat.le_refl 2) (by
    simp only [cellsOk_app, cellsOk_cons, cellsOk_nil, len_app, List.length_cons, List.length_nil] at hc hk
    simp only [AllP, and_true, true_and, cellsOk_app, cellsOk_cons, cellsOk_nil, len_app, List.length_cons, List.length_nil, List.take_of_length_le, Nat.le_refl, IntKind.wrap_u32, hc]
    first | done | omega | (simp; done) | (simp; omega) | (refine ⟨?_, ?_⟩ <;> first | omega | (simp; omega)))

def ord4N : List Cell := [.str [50, 83, 87, 65, 80], .str [50, 83, 87, 65, 80]]

theorem ord4_1 (xs : List Int) (k : Nat) : Good (evB 8 (ordA 2 k) (ordH xs ord4N) [0, 0, 0, 1, 1, 0, 1, 1, 1, 0, 1, 1, 1, 0, 0, 5, 0, 1, 2, 5, 6, 1, 1, 1, 0, 1, 1, 0, 0, 0, 0, 0, 0, 1, 1, 1, 0, 1, 0, 0, 0, 0, 1, 0, 0, 0, 0, 0, 1, 1, 1, 1, 1, 1, 0, 1, 1, 0, 1]) [30, 0, 20, 14, 11, 2] [(cd True).p ∧ (cand (cd ((0 : Int) ≤ if (20 : Int) < (↑k : Int) then (20 : Int) else (↑k : Int))) (cand (cd True) (cand (cd ((none : Option Operand).isSome = true → (some (Operand.tmp (51 : Nat))).isSome = true)) (cd ((1 : Nat) = 1 ∧ (0 : Nat) ≤ (if (20 : Int) < (↑k : Int) then (20 : Int) else (↑k : Int)).toNat ∧ (if (20 : Int) < (↑k : Int) then (20 : Int) else (↑k : Int)).toNat ≤ k ∧ ((0 : Nat) = (0 : Nat) ∨ (0 : Nat) < k)))))).p, (if (20 : Int) < (↑k : Int) then (20 : Int) else (↑k : Int)).toNat - (0 : Nat) ≤ xs.length ∧ (↑((if (20 : Int) < (↑k : Int) then (20 : Int) else (↑k : Int)).toNat - (0 : Nat)) : Int) ≤ (20 : Int), cellsOk ([] ++ List.take ((if (20 : Int) < (↑k : Int) then (20 : Int) else (↑k : Int)).toNat - (0 : Nat)) xs) ∧ (4 : Nat) ≤ ([] ++ List.take ((if (20 : Int) < (↑k : Int) then (20 : Int) else (↑k : Int)).toNat - (0 : Nat)) xs).length ∧ (4 : Int) ≤ (20 : Int) - ((↑([] ++ List.take ((if (20 : Int) < (↑k : Int) then (20 : Int) else (↑k : Int)).toNat - (0 : Nat)) xs).length : Int) - (4 : Int)), cellsOk (dw (4 : Nat) out11 ([] ++ List.take ((if (20 : Int) < (↑k : Int) then (20 : Int) else (↑k : Int)).toNat - (0 : Nat)) xs)) ∧ (4 : Nat) ≤ (dw (4 : Nat) out11 ([] ++ List.take ((if (20 : Int) < (↑k : Int) then (20 : Int) else (↑k : Int)).toNat - (0 : Nat)) xs)).length ∧ (4 : Int) ≤ (20 : Int) - ((↑(dw (4 : Nat) out11 ([] ++ List.take ((if (20 : Int) < (↑k : Int) then (20 : Int) else (↑k : Int)).toNat - (0 : Nat)) xs)).length : Int) - (4 : Int)), (0 : Nat) < (dw (4 : Nat) out11 (dw (4 : Nat) out11 ([] ++ List.take ((if (20 : Int) < (↑k : Int) then (20 : Int) else (↑k : Int)).toNat - (0 : Nat)) xs))).length, k = (dw (4 : Nat) out11 (dw (4 : Nat) out11 ([] ++ List.take ((if (20 : Int) < (↑k : Int) then (20 : Int) else (↑k : Int)).toNat - (0 : Nat)) xs))).length ∧ (dw (4 : Nat) out11 (dw (4 : Nat) out11 ([] ++ List.take ((if (20 : Int) < (↑k : Int) then (20 : Int) else (↑k : Int)).toNat - (0 : Nat)) xs))).length ≤ (dw (4 : Nat) out11 (dw (4 : Nat) out11 ([] ++ List.take ((if (20 : Int) < (↑k : Int) then (20 : Int) else (↑k : Int)).toNat - (0 : Nat)) xs))).length ∧ (dw (4 : Nat) out11 (dw (4 : Nat) out11 ([] ++ List.take ((if (20 : Int) < (↑k : Int) then (20 : Int) else (↑k : Int)).toNat - (0 : Nat)) xs))).length ≤ xs.length ∧ (↑(dw (4 : Nat) out11 (dw (4 : Nat) out11 ([] ++ List.take ((if (20 : Int) < (↑k : Int) then (20 : Int) else (↑k : Int)).toNat - (0 : Nat)) xs))).length : Int) ≤ (9223372036854775807 : Int) ∧ List.take (dw (4 : Nat) out11 (dw (4 : Nat) out11 ([] ++ List.take ((if (20 : Int) < (↑k : Int) then (20 : Int) else (↑k : Int)).toNat - (0 : Nat)) xs))).length (dw (4 : Nat) out11 (dw (4 : Nat) out11 ([] ++ List.take ((if (20 : Int) < (↑k : Int) then (20 : Int) else (↑k : Int)).toNat - (0 : Nat)) xs))) = List.take (dw (4 : Nat) out11 (dw (4 : Nat) out11 ([] ++ List.take ((if (20 : Int) < (↑k : Int) then (20 : Int) else (↑k : Int)).toNat - (0 : Nat)) xs))).length xs] (AV.cell (Cell.bool true), ordH xs ord4N, (0 : Nat), []) := ⟨by kernel_rfl, by kernel_rfl⟩

theorem ord4_ok {xs : List Int} {k : Nat} (hk : k = xs.length) (h1 : 4 ≤ k) (h2 : k ≤ 14) (hc : cellsOk xs) : CanOk Try.prog 8 (ordH xs ord4N) (ordA 2 k) (.cell (.bool true)) (ordH xs ord4N) 0 := by
  obtain ⟨base, a, b, c, d, rfl⟩ := four (hk ▸ h1)
  have hkk : (if (20 : Int) < (k : Int) then (20 : Int) else (k : Int)) = (k : Int) := if_neg (by omega)
  have g := ord4_1 (base ++ [a, b, c, d]) k
  simp only [hkk, Int.toNat_natCast, Nat.sub_zero, List.nil_append, taken hk] at g
  have s1 : dw 4 out11 (base ++ [a, b, c, d]) = base ++ [c, d, a, b] := dw11 base _ (by simp)
  have s2 : dw 4 out11 (base ++ [c, d, a, b]) = base ++ [a, b, c, d] := dw11 base _ (by simp)
  simp only [s1, s2] at g
  exact g.canT (E_valid sB_ok 8) (Nat.le_refl 2) (by
    simp only [cellsOk_app, cellsOk_cons, cellsOk_nil, len_app, List.length_cons, List.length_nil] at hc hk
    simp only [AllP, and_true, true_and, cellsOk_app, cellsOk_cons, cellsOk_nil, len_app, List.length_cons, List.length_nil, List.take_of_length_le, Nat.le_refl, IntKind.wrap_u32, hc]
    first | done | omega | (simp; done) | (simp; omega) | (refine ⟨?_, ?_⟩ <;> first | omega | (simp; omega)))

def ord5N : List Cell := [.str [62, 82], .str [82, 62]]

theorem ord5_1 (xs : List Int) (k : Nat) : Good (evB 8 (ordA 2 k) (ordH xs ord5N) [0, 0, 0, 1, 1, 0, 1, 1, 1, 0, 1, 1, 1, 0, 0, 5, 0, 1, 2, 5, 6, 1, 1, 1, 0, 1, 1, 0, 0, 0, 0, 0, 0, 1, 1, 1, 0, 1, 0, 0, 0, 0, 1, 0, 0, 0, 0, 0, 1, 1, 1, 1, 1, 1, 0, 1, 1, 0, 1]) [30, 0, 20, 14, 11, 2] [(cd True).p ∧ (cand (cd ((0 : Int) ≤ if (20 : Int) < (↑k : Int) then (20 : Int) else (↑k : Int))) (cand (cd True) (cand (cd ((none : Option Operand).isSome = true → (some (Operand.tmp (51 : Nat))).isSome = true)) (cd ((1 : Nat) = 1 ∧ (0 : Nat) ≤ (if (20 : Int) < (↑k : Int) then (20 : Int) else (↑k : Int)).toNat ∧ (if (20 : Int) < (↑k : Int) then (20 : Int) else (↑k : Int)).toNat ≤ k ∧ ((0 : Nat) = (0 : Nat) ∨ (0 : Nat) < k)))))).p, (if (20 : Int) < (↑k : Int) then (20 : Int) else (↑k : Int)).toNat - (0 : Nat) ≤ xs.length ∧ (↑((if (20 : Int) < (↑k : Int) then (20 : Int) else (↑k : Int)).toNat - (0 : Nat)) : Int) ≤ (20 : Int), (0 : Nat) < ([] ++ List.take ((if (20 : Int) < (↑k : Int) then (20 : Int) else (↑k : Int)).toNat - (0 : Nat)) xs).length ∧ (1 : Int) ≤ (20 : Int), (0 : Nat) < (1 : Nat) ∧ (1 : Int) ≤ (20 : Int) - (↑(List.take (([] ++ List.take ((if (20 : Int) < (↑k : Int) then (20 : Int) else (↑k : Int)).toNat - (0 : Nat)) xs).length - (1 : Nat)) ([] ++ List.take ((if (20 : Int) < (↑k : Int) then (20 : Int) else (↑k : Int)).toNat - (0 : Nat)) xs)).length : Int), (0 : Nat) < (List.take (([] ++ List.take ((if (20 : Int) < (↑k : Int) then (20 : Int) else (↑k : Int)).toNat - (0 : Nat)) xs).length - (1 : Nat)) ([] ++ List.take ((if (20 : Int) < (↑k : Int) then (20 : Int) else (↑k : Int)).toNat - (0 : Nat)) xs) ++ [top ([] ++ [top ([] ++ List.take ((if (20 : Int) < (↑k : Int) then (20 : Int) else (↑k : Int)).toNat - (0 : Nat)) xs) (0 : Nat)]) (0 : Nat)]).length, k = (List.take (([] ++ List.take ((if (20 : Int) < (↑k : Int) then (20 : Int) else (↑k : Int)).toNat - (0 : Nat)) xs).length - (1 : Nat)) ([] ++ List.take ((if (20 : Int) < (↑k : Int) then (20 : Int) else (↑k : Int)).toNat - (0 : Nat)) xs) ++ [top ([] ++ [top ([] ++ List.take ((if (20 : Int) < (↑k : Int) then (20 : Int) else (↑k : Int)).toNat - (0 : Nat)) xs) (0 : Nat)]) (0 : Nat)]).length ∧ (List.take (([] ++ List.take ((if (20 : Int) < (↑k : Int) then (20 : Int) else (↑k : Int)).toNat - (0 : Nat)) xs).length - (1 : Nat)) ([] ++ List.take ((if (20 : Int) < (↑k : Int) then (20 : Int) else (↑k : Int)).toNat - (0 : Nat)) xs) ++ [top ([] ++ [top ([] ++ List.take ((if (20 : Int) < (↑k : Int) then (20 : Int) else (↑k : Int)).toNat - (0 : Nat)) xs) (0 : Nat)]) (0 : Nat)]).length ≤ (List.take (([] ++ List.take ((if (20 : Int) < (↑k : Int) then (20 : Int) else (↑k : Int)).toNat - (0 : Nat)) xs).length - (1 : Nat)) ([] ++ List.take ((if (20 : Int) < (↑k : Int) then (20 : Int) else (↑k : Int)).toNat - (0 : Nat)) xs) ++ [top ([] ++ [top ([] ++ List.take ((if (20 : Int) < (↑k : Int) then (20 : Int) else (↑k : Int)).toNat - (0 : Nat)) xs) (0 : Nat)]) (0 : Nat)]).length ∧ (List.take (([] ++ List.take ((if (20 : Int) < (↑k : Int) then (20 : Int) else (↑k : Int)).toNat - (0 : Nat)) xs).length - (1 : Nat)) ([] ++ List.take ((if (20 : Int) < (↑k : Int) then (20 : Int) else (↑k : Int)).toNat - (0 : Nat)) xs) ++ [top ([] ++ [top ([] ++ List.take ((if (20 : Int) < (↑k : Int) then (20 : Int) else (↑k : Int)).toNat - (0 : Nat)) xs) (0 : Nat)]) (0 : Nat)]).length ≤ xs.length ∧ (↑(List.take (([] ++ List.take ((if (20 : Int) < (↑k : Int) then (20 : Int) else (↑k : Int)).toNat - (0 : Nat)) xs).length - (1 : Nat)) ([] ++ List.take ((if (20 : Int) < (↑k : Int) then (20 : Int) else (↑k : Int)).toNat - (0 : Nat)) xs) ++ [top ([] ++ [top ([] ++ List.take ((if (20 : Int) < (↑k : Int) then (20 : Int) else (↑k : Int)).toNat - (0 : Nat)) xs) (0 : Nat)]) (0 : Nat)]).length : Int) ≤ (9223372036854775807 : Int) ∧ List.take (List.take (([] ++ List.take ((if (20 : Int) < (↑k : Int) then (20 : Int) else (↑k : Int)).toNat - (0 : Nat)) xs).length - (1 : Nat)) ([] ++ List.take ((if (20 : Int) < (↑k : Int) then (20 : Int) else (↑k : Int)).toNat - (0 : Nat)) xs) ++ [top ([] ++ [top ([] ++ List.take ((if (20 : Int) < (↑k : Int) then (20 : Int) else (↑k : Int)).toNat - (0 : Nat)) xs) (0 : Nat)]) (0 : Nat)]).length (List.take (([] ++ List.take ((if (20 : Int) < (↑k : Int) then (20 : Int) else (↑k : Int)).toNat - (0 : Nat)) xs).length - (1 : Nat)) ([] ++ List.take ((if (20 : Int) < (↑k : Int) then (20 : Int) else (↑k : Int)).toNat - (0 : Nat)) xs) ++ [top ([] ++ [top ([] ++ List.take ((if (20 : Int) < (↑k : Int) then (20 : Int) else (↑k : Int)).toNat - (0 : Nat)) xs) (0 : Nat)]) (0 : Nat)]) = List.take (List.take (([] ++ List.take ((if (20 : Int) < (↑k : Int) then (20 : Int) else (↑k : Int)).toNat - (0 : Nat)) xs).length - (1 : Nat)) ([] ++ List.take ((if (20 : Int) < (↑k : Int) then (20 : Int) else (↑k : Int)).toNat - (0 : Nat)) xs) ++ [top ([] ++ [top ([] ++ List.take ((if (20 : Int) < (↑k : Int) then (20 : Int) else (↑k : Int)).toNat - (0 : Nat)) xs) (0 : Nat)]) (0 : Nat)]).length xs] (AV.cell (Cell.bool true), ordH xs ord5N, (0 : Nat), []) := ⟨by kernel_rfl, by kernel_rfl⟩

theorem ord5_ok {xs : List Int} {k : Nat} (hk : k = xs.length) (h1 : 4 ≤ k) (h2 : k ≤ 14) (hc : cellsOk xs) : CanOk Try.prog 8 (ordH xs ord5N) (ordA 2 k) (.cell (.bool true)) (ordH xs ord5N) 0 := by
  obtain ⟨base, a, b, c, d, rfl⟩ := four (hk ▸ h1)
  have hkk : (if (20 : Int) < (k : Int) then (20 : Int) else (k : Int)) = (k : Int) := if_neg (by omega)
  have g := ord5_1 (base ++ [a, b, c, d]) k
  simp only [hkk, Int.toNat_natCast, Nat.sub_zero, List.nil_append, taken hk] at g
  have s1 : (base ++ [a, b, c, d]).take ((base ++ [a, b, c, d]).length - 1) = base ++ [a, b, c] := take_app base _ 1 (by simp)
  have s2 : top (base ++ [a, b, c, d]) 0 = d := top_app base _ 0 (by simp)
  have s3 : top [d] 0 = d := rfl
  have s4 : (base ++ [a, b, c]) ++ [d] = base ++ [a, b, c, d] := by simp only [List.append_assoc, List.cons_append, List.nil_append]
  simp only [s1, s2, s3, s4] at g
  exact g.canT (E_valid sB_ok 8) (Nat.le_refl 2) (by
    simp only [cellsOk_app, cellsOk_cons, cellsOk_nil, len_app, List.length_cons, List.length_nil] at hc hk
    simp only [AllP, and_true, true_and, cellsOk_app, cellsOk_cons, cellsOk_nil, len_app, List.length_cons, List.length_nil, List.take_of_length_le, Nat.le_refl, IntKind.wrap_u32, hc]
    first | done | omega | (simp; done) | (simp; omega) | (refine ⟨?_, ?_⟩ <;> first | omega | (simp; omega)))

def ord6N : List Cell := [.str [62, 82], .str [82, 64], .str [82, 62], .str [68, 82, 79, 80]]

theorem ord6_1 (xs : List Int) (k : Nat) : Good (evB 8 (ordA 4 k) (ordH xs ord6N) [0, 0, 0, 1, 1, 0, 1, 1, 1, 0, 1, 1, 1, 0, 0, 5, 0, 1, 2, 5, 6, 1, 1, 1, 0, 1, 1, 0, 0, 0, 0, 0, 0, 1, 1, 1, 0, 1, 0, 0, 0, 0, 1, 0, 0, 0, 0, 1, 0, 0, 0, 0, 1, 0, 0, 0, 0, 0, 1, 1, 1, 1, 1, 1, 0, 1, 1, 0, 1]) [30, 0, 20, 14, 14, 14, 11, 2] [(cd True).p ∧ (cand (cd ((0 : Int) ≤ if (20 : Int) < (↑k : Int) then (20 : Int) else (↑k : Int))) (cand (cd True) (cand (cd ((none : Option Operand).isSome = true → (some (Operand.tmp (51 : Nat))).isSome = true)) (cd ((1 : Nat) = 1 ∧ (0 : Nat) ≤ (if (20 : Int) < (↑k : Int) then (20 : Int) else (↑k : Int)).toNat ∧ (if (20 : Int) < (↑k : Int) then (20 : Int) else (↑k : Int)).toNat ≤ k ∧ ((0 : Nat) = (0 : Nat) ∨ (0 : Nat) < k)))))).p, (if (20 : Int) < (↑k : Int) then (20 : Int) else (↑k : Int)).toNat - (0 : Nat) ≤ xs.length ∧ (↑((if (20 : Int) < (↑k : Int) then (20 : Int) else (↑k : Int)).toNat - (0 : Nat)) : Int) ≤ (20 : Int), (0 : Nat) < ([] ++ List.take ((if (20 : Int) < (↑k : Int) then (20 : Int) else (↑k : Int)).toNat - (0 : Nat)) xs).length ∧ (1 : Int) ≤ (20 : Int), (0 : Nat) < (1 : Nat) ∧ (1 : Int) ≤ (20 : Int) - (↑(List.take (([] ++ List.take ((if (20 : Int) < (↑k : Int) then (20 : Int) else (↑k : Int)).toNat - (0 : Nat)) xs).length - (1 : Nat)) ([] ++ List.take ((if (20 : Int) < (↑k : Int) then (20 : Int) else (↑k : Int)).toNat - (0 : Nat)) xs)).length : Int), (0 : Nat) < (1 : Nat) ∧ (1 : Int) ≤ (20 : Int) - (↑(List.take (([] ++ List.take ((if (20 : Int) < (↑k : Int) then (20 : Int) else (↑k : Int)).toNat - (0 : Nat)) xs).length - (1 : Nat)) ([] ++ List.take ((if (20 : Int) < (↑k : Int) then (20 : Int) else (↑k : Int)).toNat - (0 : Nat)) xs) ++ [top ([] ++ [top ([] ++ List.take ((if (20 : Int) < (↑k : Int) then (20 : Int) else (↑k : Int)).toNat - (0 : Nat)) xs) (0 : Nat)]) (0 : Nat)]).length : Int), cellsOk (List.take (([] ++ List.take ((if (20 : Int) < (↑k : Int) then (20 : Int) else (↑k : Int)).toNat - (0 : Nat)) xs).length - (1 : Nat)) ([] ++ List.take ((if (20 : Int) < (↑k : Int) then (20 : Int) else (↑k : Int)).toNat - (0 : Nat)) xs) ++ [top ([] ++ [top ([] ++ List.take ((if (20 : Int) < (↑k : Int) then (20 : Int) else (↑k : Int)).toNat - (0 : Nat)) xs) (0 : Nat)]) (0 : Nat)] ++ [top ([] ++ [top ([] ++ List.take ((if (20 : Int) < (↑k : Int) then (20 : Int) else (↑k : Int)).toNat - (0 : Nat)) xs) (0 : Nat)]) (0 : Nat)]) ∧ (1 : Nat) ≤ (List.take (([] ++ List.take ((if (20 : Int) < (↑k : Int) then (20 : Int) else (↑k : Int)).toNat - (0 : Nat)) xs).length - (1 : Nat)) ([] ++ List.take ((if (20 : Int) < (↑k : Int) then (20 : Int) else (↑k : Int)).toNat - (0 : Nat)) xs) ++ [top ([] ++ [top ([] ++ List.take ((if (20 : Int) < (↑k : Int) then (20 : Int) else (↑k : Int)).toNat - (0 : Nat)) xs) (0 : Nat)]) (0 : Nat)] ++ [top ([] ++ [top ([] ++ List.take ((if (20 : Int) < (↑k : Int) then (20 : Int) else (↑k : Int)).toNat - (0 : Nat)) xs) (0 : Nat)]) (0 : Nat)]).length ∧ (0 : Int) ≤ (20 : Int) - ((↑(List.take (([] ++ List.take ((if (20 : Int) < (↑k : Int) then (20 : Int) else (↑k : Int)).toNat - (0 : Nat)) xs).length - (1 : Nat)) ([] ++ List.take ((if (20 : Int) < (↑k : Int) then (20 : Int) else (↑k : Int)).toNat - (0 : Nat)) xs) ++ [top ([] ++ [top ([] ++ List.take ((if (20 : Int) < (↑k : Int) then (20 : Int) else (↑k : Int)).toNat - (0 : Nat)) xs) (0 : Nat)]) (0 : Nat)] ++ [top ([] ++ [top ([] ++ List.take ((if (20 : Int) < (↑k : Int) then (20 : Int) else (↑k : Int)).toNat - (0 : Nat)) xs) (0 : Nat)]) (0 : Nat)]).length : Int) - (1 : Int)), (0 : Nat) < (dw (1 : Nat) out2 (List.take (([] ++ List.take ((if (20 : Int) < (↑k : Int) then (20 : Int) else (↑k : Int)).toNat - (0 : Nat)) xs).length - (1 : Nat)) ([] ++ List.take ((if (20 : Int) < (↑k : Int) then (20 : Int) else (↑k : Int)).toNat - (0 : Nat)) xs) ++ [top ([] ++ [top ([] ++ List.take ((if (20 : Int) < (↑k : Int) then (20 : Int) else (↑k : Int)).toNat - (0 : Nat)) xs) (0 : Nat)]) (0 : Nat)] ++ [top ([] ++ [top ([] ++ List.take ((if (20 : Int) < (↑k : Int) then (20 : Int) else (↑k : Int)).toNat - (0 : Nat)) xs) (0 : Nat)]) (0 : Nat)])).length, k = (dw (1 : Nat) out2 (List.take (([] ++ List.take ((if (20 : Int) < (↑k : Int) then (20 : Int) else (↑k : Int)).toNat - (0 : Nat)) xs).length - (1 : Nat)) ([] ++ List.take ((if (20 : Int) < (↑k : Int) then (20 : Int) else (↑k : Int)).toNat - (0 : Nat)) xs) ++ [top ([] ++ [top ([] ++ List.take ((if (20 : Int) < (↑k : Int) then (20 : Int) else (↑k : Int)).toNat - (0 : Nat)) xs) (0 : Nat)]) (0 : Nat)] ++ [top ([] ++ [top ([] ++ List.take ((if (20 : Int) < (↑k : Int) then (20 : Int) else (↑k : Int)).toNat - (0 : Nat)) xs) (0 : Nat)]) (0 : Nat)])).length ∧ (dw (1 : Nat) out2 (List.take (([] ++ List.take ((if (20 : Int) < (↑k : Int) then (20 : Int) else (↑k : Int)).toNat - (0 : Nat)) xs).length - (1 : Nat)) ([] ++ List.take ((if (20 : Int) < (↑k : Int) then (20 : Int) else (↑k : Int)).toNat - (0 : Nat)) xs) ++ [top ([] ++ [top ([] ++ List.take ((if (20 : Int) < (↑k : Int) then (20 : Int) else (↑k : Int)).toNat - (0 : Nat)) xs) (0 : Nat)]) (0 : Nat)] ++ [top ([] ++ [top ([] ++ List.take ((if (20 : Int) < (↑k : Int) then (20 : Int) else (↑k : Int)).toNat - (0 : Nat)) xs) (0 : Nat)]) (0 : Nat)])).length ≤ (dw (1 : Nat) out2 (List.take (([] ++ List.take ((if (20 : Int) < (↑k : Int) then (20 : Int) else (↑k : Int)).toNat - (0 : Nat)) xs).length - (1 : Nat)) ([] ++ List.take ((if (20 : Int) < (↑k : Int) then (20 : Int) else (↑k : Int)).toNat - (0 : Nat)) xs) ++ [top ([] ++ [top ([] ++ List.take ((if (20 : Int) < (↑k : Int) then (20 : Int) else (↑k : Int)).toNat - (0 : Nat)) xs) (0 : Nat)]) (0 : Nat)] ++ [top ([] ++ [top ([] ++ List.take ((if (20 : Int) < (↑k : Int) then (20 : Int) else (↑k : Int)).toNat - (0 : Nat)) xs) (0 : Nat)]) (0 : Nat)])).length ∧ (dw (1 : Nat) out2 (List.take (([] ++ List.take ((if (20 : Int) < (↑k : Int) then (20 : Int) else (↑k : Int)).toNat - (0 : Nat)) xs).length - (1 : Nat)) ([] ++ List.take ((if (20 : Int) < (↑k : Int) then (20 : Int) else (↑k : Int)).toNat - (0 : Nat)) xs) ++ [top ([] ++ [top ([] ++ List.take ((if (20 : Int) < (↑k : Int) then (20 : Int) else (↑k : Int)).toNat - (0 : Nat)) xs) (0 : Nat)]) (0 : Nat)] ++ [top ([] ++ [top ([] ++ List.take ((if (20 : Int) < (↑k : Int) then (20 : Int) else (↑k : Int)).toNat - (0 : Nat)) xs) (0 : Nat)]) (0 : Nat)])).length ≤ xs.length ∧ (↑(dw (1 : Nat) out2 (List.take (([] ++ List.take ((if (20 : Int) < (↑k : Int) then (20 : Int) else (↑k : Int)).toNat - (0 : Nat)) xs).length - (1 : Nat)) ([] ++ List.take ((if (20 : Int) < (↑k : Int) then (20 : Int) else (↑k : Int)).toNat - (0 : Nat)) xs) ++ [top ([] ++ [top ([] ++ List.take ((if (20 : Int) < (↑k : Int) then (20 : Int) else (↑k : Int)).toNat - (0 : Nat)) xs) (0 : Nat)]) (0 : Nat)] ++ [top ([] ++ [top ([] ++ List.take ((if (20 : Int) < (↑k : Int) then (20 : Int) else (↑k : Int)).toNat - (0 : Nat)) xs) (0 : Nat)]) (0 : Nat)])).length : Int) ≤ (9223372036854775807 : Int) ∧ List.take (dw (1 : Nat) out2 (List.take (([] ++ List.take ((if (20 : Int) < (↑k : Int) then (20 : Int) else (↑k : Int)).toNat - (0 : Nat)) xs).length - (1 : Nat)) ([] ++ List.take ((if (20 : Int) < (↑k : Int) then (20 : Int) else (↑k : Int)).toNat - (0 : Nat)) xs) ++ [top ([] ++ [top ([] ++ List.take ((if (20 : Int) < (↑k : Int) then (20 : Int) else (↑k : Int)).toNat - (0 : Nat)) xs) (0 : Nat)]) (0 : Nat)] ++ [top ([] ++ [top ([] ++ List.take ((if (20 : Int) < (↑k : Int) then (20 : Int) else (↑k : Int)).toNat - (0 : Nat)) xs) (0 : Nat)]) (0 : Nat)])).length (dw (1 : Nat) out2 (List.take (([] ++ List.take ((if (20 : Int) < (↑k : Int) then (20 : Int) else (↑k : Int)).toNat - (0 : Nat)) xs).length - (1 : Nat)) ([] ++ List.take ((if (20 : Int) < (↑k : Int) then (20 : Int) else (↑k : Int)).toNat - (0 : Nat)) xs) ++ [top ([] ++ [top ([] ++ List.take ((if (20 : Int) < (↑k : Int) then (20 : Int) else (↑k : Int)).toNat - (0 : Nat)) xs) (0 : Nat)]) (0 : Nat)] ++ [top ([] ++ [top ([] ++ List.take ((if (20 : Int) < (↑k : Int) then (20 : Int) else (↑k : Int)).toNat - (0 : Nat)) xs) (0 : Nat)]) (0 : Nat)])) = List.take (dw (1 : Nat) out2 (List.take (([] ++ List.take ((if (20 : Int) < (↑k : Int) then (20 : Int) else (↑k : Int)).toNat - (0 : Nat)) xs).length - (1 : Nat)) ([] ++ List.take ((if (20 : Int) < (↑k : Int) then (20 : Int) else (↑k : Int)).toNat - (0 : Nat)) xs) ++ [top ([] ++ [top ([] ++ List.take ((if (20 : Int) < (↑k : Int) then (20 : Int) else (↑k : Int)).toNat - (0 : Nat)) xs) (0 : Nat)]) (0 : Nat)] ++ [top ([] ++ [top ([] ++ List.take ((if (20 : Int) < (↑k : Int) then (20 : Int) else (↑k : Int)).toNat - (0 : Nat)) xs) (0 : Nat)]) (0 : Nat)])).length xs] (AV.cell (Cell.bool true), ordH xs ord6N, (0 : Nat), []) := ⟨by kernel_rfl, by kernel_rfl⟩

theorem ord6_ok {xs : List Int} {k : Nat} (hk : k = xs.length) (h1 : 4 ≤ k) (h2 : k ≤ 14) (hc : cellsOk xs) : CanOk Try.prog 8 (ordH xs ord6N) (ordA 4 k) (.cell (.bool true)) (ordH xs ord6N) 0 := by
  obtain ⟨base, a, b, c, d, rfl⟩ := four (hk ▸ h1)
  have hkk : (if (20 : Int) < (k : Int) then (20 : Int) else (k : Int)) = (k : Int) := if_neg (by omega)
  have g := ord6_1 (base ++ [a, b, c, d]) k
  simp only [hkk, Int.toNat_natCast, Nat.sub_zero, List.nil_append, taken hk] at g
  have s1 : (base ++ [a, b, c, d]).take ((base ++ [a, b, c, d]).length - 1) = base ++ [a, b, c] := take_app base _ 1 (by simp)
  have s2 : top (base ++ [a, b, c, d]) 0 = d := top_app base _ 0 (by simp)
  have s3 : top [d] 0 = d := rfl
  have s4 : (base ++ [a, b, c]) ++ [d] = base ++ [a, b, c, d] := by simp only [List.append_assoc, List.cons_append, List.nil_append]
  have s5 : top [d] 0 = d := rfl
  have s6 : (base ++ [a, b, c, d]) ++ [d] = base ++ [a, b, c, d, d] := by simp only [List.append_assoc, List.cons_append, List.nil_append]
  have s7 : dw 1 out2 (base ++ [a, b, c, d, d]) = base ++ [a, b, c, d] := dw2 base _ (by simp)
  simp only [s1, s2, s3, s4, s5, s6, s7] at g
  exact g.canT (E_valid sB_ok 8) (Nat.le_refl 2) (by
    simp only [cellsOk_app, cellsOk_cons, cellsOk_nil, len_app, List.length_cons, List.length_nil] at hc hk
    simp only [AllP, and_true, true_and, cellsOk_app, cellsOk_cons, cellsOk_nil, len_app, List.length_cons, List.length_nil, List.take_of_length_le, Nat.le_refl, IntKind.wrap_u32, hc]
    first | done | omega | (simp; done) | (simp; omega) | (refine ⟨?_, ?_⟩ <;> first | omega | (simp; omega)))

def ord7N : List Cell := [.str [50, 68, 85, 80], .str [50, 68, 82, 79, 80]]

theorem ord7_1 (xs : List Int) (k : Nat) : Good (evB 8 (ordA 2 k) (ordH xs ord7N) [0, 0, 0, 1, 1, 0, 1, 1, 1, 0, 1, 1, 1, 0, 0, 5, 0, 1, 2, 5, 6, 1, 1, 1, 0, 1, 1, 0, 0, 0, 0, 0, 0, 1, 1, 1, 0, 1, 0, 0, 0, 0, 1, 0, 0, 0, 0, 0, 1, 1, 1, 1, 1, 1, 0, 1, 1, 0, 1]) [30, 0, 20, 14, 11, 2] [(cd True).p ∧ (cand (cd ((0 : Int) ≤ if (20 : Int) < (↑k : Int) then (20 : Int) else (↑k : Int))) (cand (cd True) (cand (cd ((none : Option Operand).isSome = true → (some (Operand.tmp (51 : Nat))).isSome = true)) (cd ((1 : Nat) = 1 ∧ (0 : Nat) ≤ (if (20 : Int) < (↑k : Int) then (20 : Int) else (↑k : Int)).toNat ∧ (if (20 : Int) < (↑k : Int) then (20 : Int) else (↑k : Int)).toNat ≤ k ∧ ((0 : Nat) = (0 : Nat) ∨ (0 : Nat) < k)))))).p, (if (20 : Int) < (↑k : Int) then (20 : Int) else (↑k : Int)).toNat - (0 : Nat) ≤ xs.length ∧ (↑((if (20 : Int) < (↑k : Int) then (20 : Int) else (↑k : Int)).toNat - (0 : Nat)) : Int) ≤ (20 : Int), cellsOk ([] ++ List.take ((if (20 : Int) < (↑k : Int) then (20 : Int) else (↑k : Int)).toNat - (0 : Nat)) xs) ∧ (2 : Nat) ≤ ([] ++ List.take ((if (20 : Int) < (↑k : Int) then (20 : Int) else (↑k : Int)).toNat - (0 : Nat)) xs).length ∧ (4 : Int) ≤ (20 : Int) - ((↑([] ++ List.take ((if (20 : Int) < (↑k : Int) then (20 : Int) else (↑k : Int)).toNat - (0 : Nat)) xs).length : Int) - (2 : Int)), cellsOk (dw (2 : Nat) out9 ([] ++ List.take ((if (20 : Int) < (↑k : Int) then (20 : Int) else (↑k : Int)).toNat - (0 : Nat)) xs)) ∧ (2 : Nat) ≤ (dw (2 : Nat) out9 ([] ++ List.take ((if (20 : Int) < (↑k : Int) then (20 : Int) else (↑k : Int)).toNat - (0 : Nat)) xs)).length ∧ (0 : Int) ≤ (20 : Int) - ((↑(dw (2 : Nat) out9 ([] ++ List.take ((if (20 : Int) < (↑k : Int) then (20 : Int) else (↑k : Int)).toNat - (0 : Nat)) xs)).length : Int) - (2 : Int)), (0 : Nat) < (dw (2 : Nat) out10 (dw (2 : Nat) out9 ([] ++ List.take ((if (20 : Int) < (↑k : Int) then (20 : Int) else (↑k : Int)).toNat - (0 : Nat)) xs))).length, k = (dw (2 : Nat) out10 (dw (2 : Nat) out9 ([] ++ List.take ((if (20 : Int) < (↑k : Int) then (20 : Int) else (↑k : Int)).toNat - (0 : Nat)) xs))).length ∧ (dw (2 : Nat) out10 (dw (2 : Nat) out9 ([] ++ List.take ((if (20 : Int) < (↑k : Int) then (20 : Int) else (↑k : Int)).toNat - (0 : Nat)) xs))).length ≤ (dw (2 : Nat) out10 (dw (2 : Nat) out9 ([] ++ List.take ((if (20 : Int) < (↑k : Int) then (20 : Int) else (↑k : Int)).toNat - (0 : Nat)) xs))).length ∧ (dw (2 : Nat) out10 (dw (2 : Nat) out9 ([] ++ List.take ((if (20 : Int) < (↑k : Int) then (20 : Int) else (↑k : Int)).toNat - (0 : Nat)) xs))).length ≤ xs.length ∧ (↑(dw (2 : Nat) out10 (dw (2 : Nat) out9 ([] ++ List.take ((if (20 : Int) < (↑k : Int) then (20 : Int) else (↑k : Int)).toNat - (0 : Nat)) xs))).length : Int) ≤ (9223372036854775807 : Int) ∧ List.take (dw (2 : Nat) out10 (dw (2 : Nat) out9 ([] ++ List.take ((if (20 : Int) < (↑k : Int) then (20 : Int) else (↑k : Int)).toNat - (0 : Nat)) xs))).length (dw (2 : Nat) out10 (dw (2 : Nat) out9 ([] ++ List.take ((if (20 : Int) < (↑k : Int) then (20 : Int) else (↑k : Int)).toNat - (0 : Nat)) xs))) = List.take (dw (2 : Nat) out10 (dw (2 : Nat) out9 ([] ++ List.take ((if (20 : Int) < (↑k : Int) then (20 : Int) else (↑k : Int)).toNat - (0 : Nat)) xs))).length xs] (AV.cell (Cell.bool true), ordH xs ord7N, (0 : Nat), []) := ⟨by kernel_rfl, by kernel_rfl⟩

theorem ord7_ok {xs : List Int} {k : Nat} (hk : k = xs.length) (h1 : 4 ≤ k) (h2 : k ≤ 14) (hc : cellsOk xs) : CanOk Try.prog 8 (ordH xs ord7N) (ordA 2 k) (.cell (.bool true)) (ordH xs ord7N) 0 := by
  obtain ⟨base, a, b, c, d, rfl⟩ := four (hk ▸ h1)
  have hkk : (if (20 : Int) < (k : Int) then (20 : Int) else (k : Int)) = (k : Int) := if_neg (by omega)
  have g := ord7_1 (base ++ [a, b, c, d]) k
  simp only [hkk, Int.toNat_natCast, Nat.sub_zero, List.nil_append, taken hk] at g
  have s1 : dw 2 out9 (base ++ [a, b, c, d]) = base ++ [a, b, c, d, c, d] := dw9 base _ (by simp)
  have s2 : dw 2 out10 (base ++ [a, b, c, d, c, d]) = base ++ [a, b, c, d] := dw10 base _ (by simp)
  simp only [s1, s2] at g
  exact g.canT (E_valid sB_ok 8) (Nat.le_refl 2) (by
    simp only [cellsOk_app, cellsOk_cons, cellsOk_nil, len_app, List.length_cons, List.length_nil] at hc hk
    simp only [AllP, and_true, true_and, cellsOk_app, cellsOk_cons, cellsOk_nil, len_app, List.length_cons, List.length_nil, List.take_of_length_le, Nat.le_refl, IntKind.wrap_u32, hc]
    first | done | omega | (simp; done) | (simp; omega) | (refine ⟨?_, ?_⟩ <;> first | omega | (simp; omega)))

def ord8N : List Cell := [.str [50, 79, 86, 69, 82], .str [50, 68, 82, 79, 80]]

theorem ord8_1 (xs : List Int) (k : Nat) : Good (evB 8 (ordA 2 k) (ordH xs ord8N) [0, 0, 0, 1, 1, 0, 1, 1, 1, 0, 1, 1, 1, 0, 0, 5, 0, 1, 2, 5, 6, 1, 1, 1, 0, 1, 1, 0, 0, 0, 0, 0, 0, 1, 1, 1, 0, 1, 0, 0, 0, 0, 1, 0, 0, 0, 0, 0, 1, 1, 1, 1, 1, 1, 0, 1, 1, 0, 1]) [30, 0, 20, 14, 11, 2] [(cd True).p ∧ (cand (cd ((0 : Int) ≤ if (20 : Int) < (↑k : Int) then (20 : Int) else (↑k : Int))) (cand (cd True) (cand (cd ((none : Option Operand).isSome = true → (some (Operand.tmp (51 : Nat))).isSome = true)) (cd ((1 : Nat) = 1 ∧ (0 : Nat) ≤ (if (20 : Int) < (↑k : Int) then (20 : Int) else (↑k : Int)).toNat ∧ (if (20 : Int) < (↑k : Int) then (20 : Int) else (↑k : Int)).toNat ≤ k ∧ ((0 : Nat) = (0 : Nat) ∨ (0 : Nat) < k)))))).p, (if (20 : Int) < (↑k : Int) then (20 : Int) else (↑k : Int)).toNat - (0 : Nat) ≤ xs.length ∧ (↑((if (20 : Int) < (↑k : Int) then (20 : Int) else (↑k : Int)).toNat - (0 : Nat)) : Int) ≤ (20 : Int), cellsOk ([] ++ List.take ((if (20 : Int) < (↑k : Int) then (20 : Int) else (↑k : Int)).toNat - (0 : Nat)) xs) ∧ (4 : Nat) ≤ ([] ++ List.take ((if (20 : Int) < (↑k : Int) then (20 : Int) else (↑k : Int)).toNat - (0 : Nat)) xs).length ∧ (6 : Int) ≤ (20 : Int) - ((↑([] ++ List.take ((if (20 : Int) < (↑k : Int) then (20 : Int) else (↑k : Int)).toNat - (0 : Nat)) xs).length : Int) - (4 : Int)), cellsOk (dw (4 : Nat) out12 ([] ++ List.take ((if (20 : Int) < (↑k : Int) then (20 : Int) else (↑k : Int)).toNat - (0 : Nat)) xs)) ∧ (2 : Nat) ≤ (dw (4 : Nat) out12 ([] ++ List.take ((if (20 : Int) < (↑k : Int) then (20 : Int) else (↑k : Int)).toNat - (0 : Nat)) xs)).length ∧ (0 : Int) ≤ (20 : Int) - ((↑(dw (4 : Nat) out12 ([] ++ List.take ((if (20 : Int) < (↑k : Int) then (20 : Int) else (↑k : Int)).toNat - (0 : Nat)) xs)).length : Int) - (2 : Int)), (0 : Nat) < (dw (2 : Nat) out10 (dw (4 : Nat) out12 ([] ++ List.take ((if (20 : Int) < (↑k : Int) then (20 : Int) else (↑k : Int)).toNat - (0 : Nat)) xs))).length, k = (dw (2 : Nat) out10 (dw (4 : Nat) out12 ([] ++ List.take ((if (20 : Int) < (↑k : Int) then (20 : Int) else (↑k : Int)).toNat - (0 : Nat)) xs))).length ∧ (dw (2 : Nat) out10 (dw (4 : Nat) out12 ([] ++ List.take ((if (20 : Int) < (↑k : Int) then (20 : Int) else (↑k : Int)).toNat - (0 : Nat)) xs))).length ≤ (dw (2 : Nat) out10 (dw (4 : Nat) out12 ([] ++ List.take ((if (20 : Int) < (↑k : Int) then (20 : Int) else (↑k : Int)).toNat - (0 : Nat)) xs))).length ∧ (dw (2 : Nat) out10 (dw (4 : Nat) out12 ([] ++ List.take ((if (20 : Int) < (↑k : Int) then (20 : Int) else (↑k : Int)).toNat - (0 : Nat)) xs))).length ≤ xs.length ∧ (↑(dw (2 : Nat) out10 (dw (4 : Nat) out12 ([] ++ List.take ((if (20 : Int) < (↑k : Int) then (20 : Int) else (↑k : Int)).toNat - (0 : Nat)) xs))).length : Int) ≤ (9223372036854775807 : Int) ∧ List.take (dw (2 : Nat) out10 (dw (4 : Nat) out12 ([] ++ List.take ((if (20 : Int) < (↑k : Int) then (20 : Int) else (↑k : Int)).toNat - (0 : Nat)) xs))).length (dw (2 : Nat) out10 (dw (4 : Nat) out12 ([] ++ List.take ((if (20 : Int) < (↑k : Int) then (20 : Int) else (↑k : Int)).toNat - (0 : Nat)) xs))) = List.take (dw (2 : Nat) out10 (dw (4 : Nat) out12 ([] ++ List.take ((if (20 : Int) < (↑k : Int) then (20 : Int) else (↑k : Int)).toNat - (0 : Nat)) xs))).length xs] (AV.cell (Cell.bool true), ordH xs ord8N, (0 : Nat), []) := ⟨by kernel_rfl, by kernel_rfl⟩

theorem ord8_ok {xs : List Int} {k : Nat} (hk : k = xs.length) (h1 : 4 ≤ k) (h2 : k ≤ 14) (hc : cellsOk xs) : CanOk Try.prog 8 (ordH xs ord8N) (ordA 2 k) (.cell (.bool true)) (ordH xs ord8N) 0 := by
  obtain ⟨base, a, b, c, d, rfl⟩ := four (hk ▸ h1)
  have hkk : (if (20 : Int) < (k : Int) then (20 : Int) else (k : Int)) = (k : Int) := if_neg (by omega)
  have g := ord8_1 (base ++ [a, b, c, d]) k
  simp only [hkk, Int.toNat_natCast, Nat.sub_zero, List.nil_append, taken hk] at g
  have s1 : dw 4 out12 (base ++ [a, b, c, d]) = base ++ [a, b, c, d, a, b] := dw12 base _ (by simp)
  have s2 : dw 2 out10 (base ++ [a, b, c, d, a, b]) = base ++ [a, b, c, d] := dw10 base _ (by simp)
  simp only [s1, s2] at g
  exact g.canT (E_valid sB_ok 8) (Nat.le_refl 2) (by
    simp only [cellsOk_app, cellsOk_cons, cellsOk_nil, len_app, List.length_cons, List.length_nil] at hc hk
    simp only [AllP, and_true, true_and, cellsOk_app, cellsOk_cons, cellsOk_nil, len_app, List.length_cons, List.length_nil, List.take_of_length_le, Nat.le_refl, IntKind.wrap_u32, hc]
    first | done | omega | (simp; done) | (simp; omega) | (refine ⟨?_, ?_⟩ <;> first | omega | (simp; omega)))

def ord9N : List Cell := [.str [68, 85, 80], .str [78, 73, 80]]

theorem ord9_1 (xs : List Int) (k : Nat) : Good (evB 8 (ordA 2 k) (ordH xs ord9N) [0, 0, 0, 1, 1, 0, 1, 1, 1, 0, 1, 1, 1, 0, 0, 5, 0, 1, 2, 5, 6, 1, 1, 1, 0, 1, 1, 0, 0, 0, 0, 0, 0, 1, 1, 1, 0, 1, 0, 0, 0, 0, 1, 0, 0, 0, 0, 0, 1, 1, 1, 1, 1, 1, 0, 1, 1, 0, 1]) [30, 0, 20, 14, 11, 2] [(cd True).p ∧ (cand (cd ((0 : Int) ≤ if (20 : Int) < (↑k : Int) then (20 : Int) else (↑k : Int))) (cand (cd True) (cand (cd ((none : Option Operand).isSome = true → (some (Operand.tmp (51 : Nat))).isSome = true)) (cd ((1 : Nat) = 1 ∧ (0 : Nat) ≤ (if (20 : Int) < (↑k : Int) then (20 : Int) else (↑k : Int)).toNat ∧ (if (20 : Int) < (↑k : Int) then (20 : Int) else (↑k : Int)).toNat ≤ k ∧ ((0 : Nat) = (0 : Nat) ∨ (0 : Nat) < k)))))).p, (if (20 : Int) < (↑k : Int) then (20 : Int) else (↑k : Int)).toNat - (0 : Nat) ≤ xs.length ∧ (↑((if (20 : Int) < (↑k : Int) then (20 : Int) else (↑k : Int)).toNat - (0 : Nat)) : Int) ≤ (20 : Int), cellsOk ([] ++ List.take ((if (20 : Int) < (↑k : Int) then (20 : Int) else (↑k : Int)).toNat - (0 : Nat)) xs) ∧ (1 : Nat) ≤ ([] ++ List.take ((if (20 : Int) < (↑k : Int) then (20 : Int) else (↑k : Int)).toNat - (0 : Nat)) xs).length ∧ (2 : Int) ≤ (20 : Int) - ((↑([] ++ List.take ((if (20 : Int) < (↑k : Int) then (20 : Int) else (↑k : Int)).toNat - (0 : Nat)) xs).length : Int) - (1 : Int)), cellsOk (dw (1 : Nat) out1 ([] ++ List.take ((if (20 : Int) < (↑k : Int) then (20 : Int) else (↑k : Int)).toNat - (0 : Nat)) xs)) ∧ (2 : Nat) ≤ (dw (1 : Nat) out1 ([] ++ List.take ((if (20 : Int) < (↑k : Int) then (20 : Int) else (↑k : Int)).toNat - (0 : Nat)) xs)).length ∧ (1 : Int) ≤ (20 : Int) - ((↑(dw (1 : Nat) out1 ([] ++ List.take ((if (20 : Int) < (↑k : Int) then (20 : Int) else (↑k : Int)).toNat - (0 : Nat)) xs)).length : Int) - (2 : Int)), (0 : Nat) < (dw (2 : Nat) out7 (dw (1 : Nat) out1 ([] ++ List.take ((if (20 : Int) < (↑k : Int) then (20 : Int) else (↑k : Int)).toNat - (0 : Nat)) xs))).length, k = (dw (2 : Nat) out7 (dw (1 : Nat) out1 ([] ++ List.take ((if (20 : Int) < (↑k : Int) then (20 : Int) else (↑k : Int)).toNat - (0 : Nat)) xs))).length ∧ (dw (2 : Nat) out7 (dw (1 : Nat) out1 ([] ++ List.take ((if (20 : Int) < (↑k : Int) then (20 : Int) else (↑k : Int)).toNat - (0 : Nat)) xs))).length ≤ (dw (2 : Nat) out7 (dw (1 : Nat) out1 ([] ++ List.take ((if (20 : Int) < (↑k : Int) then (20 : Int) else (↑k : Int)).toNat - (0 : Nat)) xs))).length ∧ (dw (2 : Nat) out7 (dw (1 : Nat) out1 ([] ++ List.take ((if (20 : Int) < (↑k : Int) then (20 : Int) else (↑k : Int)).toNat - (0 : Nat)) xs))).length ≤ xs.length ∧ (↑(dw (2 : Nat) out7 (dw (1 : Nat) out1 ([] ++ List.take ((if (20 : Int) < (↑k : Int) then (20 : Int) else (↑k : Int)).toNat - (0 : Nat)) xs))).length : Int) ≤ (9223372036854775807 : Int) ∧ List.take (dw (2 : Nat) out7 (dw (1 : Nat) out1 ([] ++ List.take ((if (20 : Int) < (↑k : Int) then (20 : Int) else (↑k : Int)).toNat - (0 : Nat)) xs))).length (dw (2 : Nat) out7 (dw (1 : Nat) out1 ([] ++ List.take ((if (20 : Int) < (↑k : Int) then (20 : Int) else (↑k : Int)).toNat - (0 : Nat)) xs))) = List.take (dw (2 : Nat) out7 (dw (1 : Nat) out1 ([] ++ List.take ((if (20 : Int) < (↑k : Int) then (20 : Int) else (↑k : Int)).toNat - (0 : Nat)) xs))).length xs] (AV.cell (Cell.bool true), ordH xs ord9N, (0 : Nat), []) := ⟨by kernel_rfl, by kernel_rfl⟩

theorem ord9_ok {xs : List Int} {k : Nat} (hk : k = xs.length) (h1 : 4 ≤ k) (h2 : k ≤ 14) (hc : cellsOk xs) : CanOk Try.prog 8 (ordH xs ord9N) (ordA 2 k) (.cell (.bool true)) (ordH xs ord9N) 0 := by
  obtain ⟨base, a, b, c, d, rfl⟩ := four (hk ▸ h1)
  have hkk : (if (20 : Int) < (k : Int) then (20 : Int) else (k : Int)) = (k : Int) := if_neg (by omega)
  have g := ord9_1 (base ++ [a, b, c, d]) k
  simp only [hkk, Int.toNat_natCast, Nat.sub_zero, List.nil_append, taken hk] at g
  have s1 : dw 1 out1 (base ++ [a, b, c, d]) = base ++ [a, b, c, d, d] := dw1 base _ (by simp)
  have s2 : dw 2 out7 (base ++ [a, b, c, d, d]) = base ++ [a, b, c, d] := dw7 base _ (by simp)
  simp only [s1, s2] at g
  exact g.canT (E_valid sB_ok 8) (Nat.le_refl 2) (by
    simp only [cellsOk_app, cellsOk_cons, cellsOk_nil, len_app, List.length_cons, List.length_nil] at hc hk
    simp only [AllP, and_true, true_and, cellsOk_app, cellsOk_cons, cellsOk_nil, len_app, List.length_cons, List.length_nil, List.take_of_length_le, Nat.le_refl, IntKind.wrap_u32, hc]
    first | done | omega | (simp; done) | (simp; omega) | (refine ⟨?_, ?_⟩ <;> first | omega | (simp; omega)))

def ord10N : List Cell := [.str [68, 69, 80, 84, 72], .str [68, 82, 79, 80]]

theorem ord10_1 (xs : List Int) (k : Nat) : Good (evB 8 (ordA 2 k) (ordH xs ord10N) [0, 0, 0, 1, 1, 0, 1, 1, 1, 0, 1, 1, 1, 0, 0, 5, 0, 1, 2, 5, 6, 1, 1, 1, 0, 1, 1, 0, 0, 0, 0, 0, 0, 1, 1, 1, 0, 1, 0, 0, 0, 0, 1, 0, 0, 0, 0, 0, 1, 1, 1, 1, 1, 1, 0, 1, 1, 0, 1]) [30, 0, 20, 14, 11, 2] [(cd True).p ∧ (cand (cd ((0 : Int) ≤ if (20 : Int) < (↑k : Int) then (20 : Int) else (↑k : Int))) (cand (cd True) (cand (cd ((none : Option Operand).isSome = true → (some (Operand.tmp (51 : Nat))).isSome = true)) (cd ((1 : Nat) = 1 ∧ (0 : Nat) ≤ (if (20 : Int) < (↑k : Int) then (20 : Int) else (↑k : Int)).toNat ∧ (if (20 : Int) < (↑k : Int) then (20 : Int) else (↑k : Int)).toNat ≤ k ∧ ((0 : Nat) = (0 : Nat) ∨ (0 : Nat) < k)))))).p, (if (20 : Int) < (↑k : Int) then (20 : Int) else (↑k : Int)).toNat - (0 : Nat) ≤ xs.length ∧ (↑((if (20 : Int) < (↑k : Int) then (20 : Int) else (↑k : Int)).toNat - (0 : Nat)) : Int) ≤ (20 : Int), (1 : Int) ≤ (20 : Int) - (↑([] ++ List.take ((if (20 : Int) < (↑k : Int) then (20 : Int) else (↑k : Int)).toNat - (0 : Nat)) xs).length : Int), cellsOk ([] ++ List.take ((if (20 : Int) < (↑k : Int) then (20 : Int) else (↑k : Int)).toNat - (0 : Nat)) xs ++ [IntKind.u32.wrap (↑([] ++ List.take ((if (20 : Int) < (↑k : Int) then (20 : Int) else (↑k : Int)).toNat - (0 : Nat)) xs).length : Int)]) ∧ (1 : Nat) ≤ ([] ++ List.take ((if (20 : Int) < (↑k : Int) then (20 : Int) else (↑k : Int)).toNat - (0 : Nat)) xs ++ [IntKind.u32.wrap (↑([] ++ List.take ((if (20 : Int) < (↑k : Int) then (20 : Int) else (↑k : Int)).toNat - (0 : Nat)) xs).length : Int)]).length ∧ (0 : Int) ≤ (20 : Int) - ((↑([] ++ List.take ((if (20 : Int) < (↑k : Int) then (20 : Int) else (↑k : Int)).toNat - (0 : Nat)) xs ++ [IntKind.u32.wrap (↑([] ++ List.take ((if (20 : Int) < (↑k : Int) then (20 : Int) else (↑k : Int)).toNat - (0 : Nat)) xs).length : Int)]).length : Int) - (1 : Int)), (0 : Nat) < (dw (1 : Nat) out2 ([] ++ List.take ((if (20 : Int) < (↑k : Int) then (20 : Int) else (↑k : Int)).toNat - (0 : Nat)) xs ++ [IntKind.u32.wrap (↑([] ++ List.take ((if (20 : Int) < (↑k : Int) then (20 : Int) else (↑k : Int)).toNat - (0 : Nat)) xs).length : Int)])).length, k = (dw (1 : Nat) out2 ([] ++ List.take ((if (20 : Int) < (↑k : Int) then (20 : Int) else (↑k : Int)).toNat - (0 : Nat)) xs ++ [IntKind.u32.wrap (↑([] ++ List.take ((if (20 : Int) < (↑k : Int) then (20 : Int) else (↑k : Int)).toNat - (0 : Nat)) xs).length : Int)])).length ∧ (dw (1 : Nat) out2 ([] ++ List.take ((if (20 : Int) < (↑k : Int) then (20 : Int) else (↑k : Int)).toNat - (0 : Nat)) xs ++ [IntKind.u32.wrap (↑([] ++ List.take ((if (20 : Int) < (↑k : Int) then (20 : Int) else (↑k : Int)).toNat - (0 : Nat)) xs).length : Int)])).length ≤ (dw (1 : Nat) out2 ([] ++ List.take ((if (20 : Int) < (↑k : Int) then (20 : Int) else (↑k : Int)).toNat - (0 : Nat)) xs ++ [IntKind.u32.wrap (↑([] ++ List.take ((if (20 : Int) < (↑k : Int) then (20 : Int) else (↑k : Int)).toNat - (0 : Nat)) xs).length : Int)])).length ∧ (dw (1 : Nat) out2 ([] ++ List.take ((if (20 : Int) < (↑k : Int) then (20 : Int) else (↑k : Int)).toNat - (0 : Nat)) xs ++ [IntKind.u32.wrap (↑([] ++ List.take ((if (20 : Int) < (↑k : Int) then (20 : Int) else (↑k : Int)).toNat - (0 : Nat)) xs).length : Int)])).length ≤ xs.length ∧ (↑(dw (1 : Nat) out2 ([] ++ List.take ((if (20 : Int) < (↑k : Int) then (20 : Int) else (↑k : Int)).toNat - (0 : Nat)) xs ++ [IntKind.u32.wrap (↑([] ++ List.take ((if (20 : Int) < (↑k : Int) then (20 : Int) else (↑k : Int)).toNat - (0 : Nat)) xs).length : Int)])).length : Int) ≤ (9223372036854775807 : Int) ∧ List.take (dw (1 : Nat) out2 ([] ++ List.take ((if (20 : Int) < (↑k : Int) then (20 : Int) else (↑k : Int)).toNat - (0 : Nat)) xs ++ [IntKind.u32.wrap (↑([] ++ List.take ((if (20 : Int) < (↑k : Int) then (20 : Int) else (↑k : Int)).toNat - (0 : Nat)) xs).length : Int)])).length (dw (1 : Nat) out2 ([] ++ List.take ((if (20 : Int) < (↑k : Int) then (20 : Int) else (↑k : Int)).toNat - (0 : Nat)) xs ++ [IntKind.u32.wrap (↑([] ++ List.take ((if (20 : Int) < (↑k : Int) then (20 : Int) else (↑k : Int)).toNat - (0 : Nat)) xs).length : Int)])) = List.take (dw (1 : Nat) out2 ([] ++ List.take ((if (20 : Int) < (↑k : Int) then (20 : Int) else (↑k : Int)).toNat - (0 : Nat)) xs ++ [IntKind.u32.wrap (↑([] ++ List.take ((if (20 : Int) < (↑k : Int) then (20 : Int) else (↑k : Int)).toNat - (0 : Nat)) xs).length : Int)])).length xs] (AV.cell (Cell.bool true), ordH xs ord10N, (0 : Nat), []) := ⟨by kernel_rfl, by kernel_rfl⟩

theorem ord10_ok {xs : List Int} {k : Nat} (hk : k = xs.length) (h1 : 4 ≤ k) (h2 : k ≤ 14) (hc : cellsOk xs) : CanOk Try.prog 8 (ordH xs ord10N) (ordA 2 k) (.cell (.bool true)) (ordH xs ord10N) 0 := by
  obtain ⟨base, a, b, c, d, rfl⟩ := four (hk ▸ h1)
  have hkk : (if (20 : Int) < (k : Int) then (20 : Int) else (k : Int)) = (k : Int) := if_neg (by omega)
  have g := ord10_1 (base ++ [a, b, c, d]) k
  simp only [hkk, Int.toNat_natCast, Nat.sub_zero, List.nil_append, taken hk] at g
  have s1 : (base ++ [a, b, c, d]) ++ [IntKind.u32.wrap ((base ++ [a, b, c, d]).length : Int)] = base ++ [a, b, c, d, IntKind.u32.wrap ((base ++ [a, b, c, d]).length : Int)] := by simp only [List.append_assoc, List.cons_append, List.nil_append]
  have s2 : dw 1 out2 (base ++ [a, b, c, d, IntKind.u32.wrap ((base ++ [a, b, c, d]).length : Int)]) = base ++ [a, b, c, d] := dw2 base _ (by simp)
  simp only [s1, s2] at g
  exact g.canT (E_valid sB_ok 8) (Nat.le_refl 2) (by
    simp only [cellsOk_app, cellsOk_cons, cellsOk_nil, len_app, List.length_cons, List.length_nil] at hc hk
    simp only [AllP, and_true, true_and, cellsOk_app, cellsOk_cons, cellsOk_nil, len_app, List.length_cons, List.length_nil, List.take_of_length_le, Nat.le_refl, IntKind.wrap_u32, hc]
    first | done | omega | (simp; done) | (simp; omega) | (refine ⟨?_, ?_⟩ <;> first | omega | (simp; omega)))

def ord11N : List Cell := [.str [67, 72, 65, 82, 83]]

theorem ord11_1 (xs : List Int) (k : Nat) : Good (evB 8 (ordA 1 k) (ordH xs ord11N) [0, 0, 0, 1, 1, 0, 1, 1, 1, 0, 1, 1, 1, 0, 0, 5, 0, 1, 2, 5, 6, 1, 1, 1, 0, 1, 1, 0, 0, 0, 0, 0, 0, 1, 1, 1, 0, 1, 0, 0, 0, 0, 0, 1, 1, 1, 1, 1, 1, 0, 1, 1, 0, 1]) [30, 0, 20, 11, 2] [(cd True).p ∧ (cand (cd ((0 : Int) ≤ if (20 : Int) < (↑k : Int) then (20 : Int) else (↑k : Int))) (cand (cd True) (cand (cd ((none : Option Operand).isSome = true → (some (Operand.tmp (51 : Nat))).isSome = true)) (cd ((1 : Nat) = 1 ∧ (0 : Nat) ≤ (if (20 : Int) < (↑k : Int) then (20 : Int) else (↑k : Int)).toNat ∧ (if (20 : Int) < (↑k : Int) then (20 : Int) else (↑k : Int)).toNat ≤ k ∧ ((0 : Nat) = (0 : Nat) ∨ (0 : Nat) < k)))))).p, (if (20 : Int) < (↑k : Int) then (20 : Int) else (↑k : Int)).toNat - (0 : Nat) ≤ xs.length ∧ (↑((if (20 : Int) < (↑k : Int) then (20 : Int) else (↑k : Int)).toNat - (0 : Nat)) : Int) ≤ (20 : Int), cellsOk ([] ++ List.take ((if (20 : Int) < (↑k : Int) then (20 : Int) else (↑k : Int)).toNat - (0 : Nat)) xs) ∧ (1 : Nat) ≤ ([] ++ List.take ((if (20 : Int) < (↑k : Int) then (20 : Int) else (↑k : Int)).toNat - (0 : Nat)) xs).length ∧ (1 : Int) ≤ (20 : Int) - ((↑([] ++ List.take ((if (20 : Int) < (↑k : Int) then (20 : Int) else (↑k : Int)).toNat - (0 : Nat)) xs).length : Int) - (1 : Int)), (0 : Nat) < (dw (1 : Nat) out68 ([] ++ List.take ((if (20 : Int) < (↑k : Int) then (20 : Int) else (↑k : Int)).toNat - (0 : Nat)) xs)).length, k = (dw (1 : Nat) out68 ([] ++ List.take ((if (20 : Int) < (↑k : Int) then (20 : Int) else (↑k : Int)).toNat - (0 : Nat)) xs)).length ∧ (dw (1 : Nat) out68 ([] ++ List.take ((if (20 : Int) < (↑k : Int) then (20 : Int) else (↑k : Int)).toNat - (0 : Nat)) xs)).length ≤ (dw (1 : Nat) out68 ([] ++ List.take ((if (20 : Int) < (↑k : Int) then (20 : Int) else (↑k : Int)).toNat - (0 : Nat)) xs)).length ∧ (dw (1 : Nat) out68 ([] ++ List.take ((if (20 : Int) < (↑k : Int) then (20 : Int) else (↑k : Int)).toNat - (0 : Nat)) xs)).length ≤ xs.length ∧ (↑(dw (1 : Nat) out68 ([] ++ List.take ((if (20 : Int) < (↑k : Int) then (20 : Int) else (↑k : Int)).toNat - (0 : Nat)) xs)).length : Int) ≤ (9223372036854775807 : Int) ∧ List.take (dw (1 : Nat) out68 ([] ++ List.take ((if (20 : Int) < (↑k : Int) then (20 : Int) else (↑k : Int)).toNat - (0 : Nat)) xs)).length (dw (1 : Nat) out68 ([] ++ List.take ((if (20 : Int) < (↑k : Int) then (20 : Int) else (↑k : Int)).toNat - (0 : Nat)) xs)) = List.take (dw (1 : Nat) out68 ([] ++ List.take ((if (20 : Int) < (↑k : Int) then (20 : Int) else (↑k : Int)).toNat - (0 : Nat)) xs)).length xs] (AV.cell (Cell.bool true), ordH xs ord11N, (0 : Nat), []) := ⟨by kernel_rfl, by kernel_rfl⟩

theorem ord11_ok {xs : List Int} {k : Nat} (hk : k = xs.length) (h1 : 4 ≤ k) (h2 : k ≤ 14) (hc : cellsOk xs) : CanOk Try.prog 8 (ordH xs ord11N) (ordA 1 k) (.cell (.bool true)) (ordH xs ord11N) 0 := by
  obtain ⟨base, a, b, c, d, rfl⟩ := four (hk ▸ h1)
  have hkk : (if (20 : Int) < (k : Int) then (20 : Int) else (k : Int)) = (k : Int) := if_neg (by omega)
  have g := ord11_1 (base ++ [a, b, c, d]) k
  simp only [hkk, Int.toNat_natCast, Nat.sub_zero, List.nil_append, taken hk] at g
  have s1 : dw 1 out68 (base ++ [a, b, c, d]) = base ++ [a, b, c, d] := dw68 base _ (by simp)
  simp only [s1] at g
  exact g.canT (E_valid sB_ok 8) (Nat.le_refl 2) (by
    simp only [cellsOk_app, cellsOk_cons, cellsOk_nil, len_app, List.length_cons, List.length_nil] at hc hk
    simp only [AllP, and_true, true_and, cellsOk_app, cellsOk_cons, cellsOk_nil, len_app, List.length_cons, List.length_nil, List.take_of_length_le, Nat.le_refl, IntKind.wrap_u32, hc]
    first | done | omega | (simp; done) | (simp; omega) | (refine ⟨?_, ?_⟩ <;> first | omega | (simp; omega)))

def ord12N : List Cell := [.str [50, 68, 85, 80], .str [50, 83, 87, 65, 80], .str [50, 68, 82, 79, 80]]

theorem ord12_1 (xs : List Int) (k : Nat) : Good (evB 8 (ordA 3 k) (ordH xs ord12N) [0, 0, 0, 1, 1, 0, 1, 1, 1, 0, 1, 1, 1, 0, 0, 5, 0, 1, 2, 5, 6, 1, 1, 1, 0, 1, 1, 0, 0, 0, 0, 0, 0, 1, 1, 1, 0, 1, 0, 0, 0, 0, 1, 0, 0, 0, 0, 1, 0, 0, 0, 0, 0, 1, 1, 1, 1, 1, 1, 0, 1, 1, 0, 1]) [30, 0, 20, 14, 14, 11, 2] [(cd True).p ∧ (cand (cd ((0 : Int) ≤ if (20 : Int) < (↑k : Int) then (20 : Int) else (↑k : Int))) (cand (cd True) (cand (cd ((none : Option Operand).isSome = true → (some (Operand.tmp (51 : Nat))).isSome = true)) (cd ((1 : Nat) = 1 ∧ (0 : Nat) ≤ (if (20 : Int) < (↑k : Int) then (20 : Int) else (↑k : Int)).toNat ∧ (if (20 : Int) < (↑k : Int) then (20 : Int) else (↑k : Int)).toNat ≤ k ∧ ((0 : Nat) = (0 : Nat) ∨ (0 : Nat) < k)))))).p, (if (20 : Int) < (↑k : Int) then (20 : Int) else (↑k : Int)).toNat - (0 : Nat) ≤ xs.length ∧ (↑((if (20 : Int) < (↑k : Int) then (20 : Int) else (↑k : Int)).toNat - (0 : Nat)) : Int) ≤ (20 : Int), cellsOk ([] ++ List.take ((if (20 : Int) < (↑k : Int) then (20 : Int) else (↑k : Int)).toNat - (0 : Nat)) xs) ∧ (2 : Nat) ≤ ([] ++ List.take ((if (20 : Int) < (↑k : Int) then (20 : Int) else (↑k : Int)).toNat - (0 : Nat)) xs).length ∧ (4 : Int) ≤ (20 : Int) - ((↑([] ++ List.take ((if (20 : Int) < (↑k : Int) then (20 : Int) else (↑k : Int)).toNat - (0 : Nat)) xs).length : Int) - (2 : Int)), cellsOk (dw (2 : Nat) out9 ([] ++ List.take ((if (20 : Int) < (↑k : Int) then (20 : Int) else (↑k : Int)).toNat - (0 : Nat)) xs)) ∧ (4 : Nat) ≤ (dw (2 : Nat) out9 ([] ++ List.take ((if (20 : Int) < (↑k : Int) then (20 : Int) else (↑k : Int)).toNat - (0 : Nat)) xs)).length ∧ (4 : Int) ≤ (20 : Int) - ((↑(dw (2 : Nat) out9 ([] ++ List.take ((if (20 : Int) < (↑k : Int) then (20 : Int) else (↑k : Int)).toNat - (0 : Nat)) xs)).length : Int) - (4 : Int)), cellsOk (dw (4 : Nat) out11 (dw (2 : Nat) out9 ([] ++ List.take ((if (20 : Int) < (↑k : Int) then (20 : Int) else (↑k : Int)).toNat - (0 : Nat)) xs))) ∧ (2 : Nat) ≤ (dw (4 : Nat) out11 (dw (2 : Nat) out9 ([] ++ List.take ((if (20 : Int) < (↑k : Int) then (20 : Int) else (↑k : Int)).toNat - (0 : Nat)) xs))).length ∧ (0 : Int) ≤ (20 : Int) - ((↑(dw (4 : Nat) out11 (dw (2 : Nat) out9 ([] ++ List.take ((if (20 : Int) < (↑k : Int) then (20 : Int) else (↑k : Int)).toNat - (0 : Nat)) xs))).length : Int) - (2 : Int)), (0 : Nat) < (dw (2 : Nat) out10 (dw (4 : Nat) out11 (dw (2 : Nat) out9 ([] ++ List.take ((if (20 : Int) < (↑k : Int) then (20 : Int) else (↑k : Int)).toNat - (0 : Nat)) xs)))).length, k = (dw (2 : Nat) out10 (dw (4 : Nat) out11 (dw (2 : Nat) out9 ([] ++ List.take ((if (20 : Int) < (↑k : Int) then (20 : Int) else (↑k : Int)).toNat - (0 : Nat)) xs)))).length ∧ (dw (2 : Nat) out10 (dw (4 : Nat) out11 (dw (2 : Nat) out9 ([] ++ List.take ((if (20 : Int) < (↑k : Int) then (20 : Int) else (↑k : Int)).toNat - (0 : Nat)) xs)))).length ≤ (dw (2 : Nat) out10 (dw (4 : Nat) out11 (dw (2 : Nat) out9 ([] ++ List.take ((if (20 : Int) < (↑k : Int) then (20 : Int) else (↑k : Int)).toNat - (0 : Nat)) xs)))).length ∧ (dw (2 : Nat) out10 (dw (4 : Nat) out11 (dw (2 : Nat) out9 ([] ++ List.take ((if (20 : Int) < (↑k : Int) then (20 : Int) else (↑k : Int)).toNat - (0 : Nat)) xs)))).length ≤ xs.length ∧ (↑(dw (2 : Nat) out10 (dw (4 : Nat) out11 (dw (2 : Nat) out9 ([] ++ List.take ((if (20 : Int) < (↑k : Int) then (20 : Int) else (↑k : Int)).toNat - (0 : Nat)) xs)))).length : Int) ≤ (9223372036854775807 : Int) ∧ List.take (dw (2 : Nat) out10 (dw (4 : Nat) out11 (dw (2 : Nat) out9 ([] ++ List.take ((if (20 : Int) < (↑k : Int) then (20 : Int) else (↑k : Int)).toNat - (0 : Nat)) xs)))).length (dw (2 : Nat) out10 (dw (4 : Nat) out11 (dw (2 : Nat) out9 ([] ++ List.take ((if (20 : Int) < (↑k : Int) then (20 : Int) else (↑k : Int)).toNat - (0 : Nat)) xs)))) = List.take (dw (2 : Nat) out10 (dw (4 : Nat) out11 (dw (2 : Nat) out9 ([] ++ List.take ((if (20 : Int) < (↑k : Int) then (20 : Int) else (↑k : Int)).toNat - (0 : Nat)) xs)))).length xs] (AV.cell (Cell.bool true), ordH xs ord12N, (0 : Nat), []) := ⟨by kernel_rfl, by kernel_rfl⟩

theorem ord12_ok {xs : List Int} {k : Nat} (hk : k = xs.length) (h1 : 4 ≤ k) (h2 : k ≤ 14) (hc : cellsOk xs) : CanOk Try.prog 8 (ordH xs ord12N) (ordA 3 k) (.cell (.bool true)) (ordH xs ord12N) 0 := by
  obtain ⟨base, a, b, c, d, rfl⟩ := four (hk ▸ h1)
  have hkk : (if (20 : Int) < (k : Int) then (20 : Int) else (k : Int)) = (k : Int) := if_neg (by omega)
  have g := ord12_1 (base ++ [a, b, c, d]) k
  simp only [hkk, Int.toNat_natCast, Nat.sub_zero, List.nil_append, taken hk] at g
  have s1 : dw 2 out9 (base ++ [a, b, c, d]) = base ++ [a, b, c, d, c, d] := dw9 base _ (by simp)
  have s2 : dw 4 out11 (base ++ [a, b, c, d, c, d]) = base ++ [a, b, c, d, c, d] := dw11 base _ (by simp)
  have s3 : dw 2 out10 (base ++ [a, b, c, d, c, d]) = base ++ [a, b, c, d] := dw10 base _ (by simp)
  simp only [s1, s2, s3] at g
  exact g.canT (E_valid sB_ok 8) (Nat.le_refl 2) (by
    simp only [cellsOk_app, cellsOk_cons, cellsOk_nil, len_app, List.length_cons, List.length_nil] at hc hk
    simp only [AllP, and_true, true_and, cellsOk_app, cellsOk_cons, cellsOk_nil, len_app, List.length_cons, List.length_nil, List.take_of_length_le, Nat.le_refl, IntKind.wrap_u32, hc]
    first | done | omega | (simp; done) | (simp; omega) | (refine ⟨?_, ?_⟩ <;> first | omega | (simp; omega)))

def ord13N : List Cell := [.str [50, 68, 85, 80], .str [83, 87, 65, 80]]

theorem ord13_1 (xs : List Int) (k : Nat) (ys : List Int) (k2 : Nat) : Good (evB3 8 (ordA2 2 k k2) (ordH2 xs ord13N ys) [0, 0, 0, 1, 1, 0, 1, 1, 1, 0, 1, 1, 1, 0, 0, 6, 0, 1, 2, 6, 7, 1, 1, 1, 0, 1, 1, 0, 0, 0, 0, 0, 0, 1, 1, 1, 0, 1, 0, 0, 0, 0, 1, 0, 0, 0, 0, 0, 1, 1, 1, 1, 1, 1, 0, 1, 1, 0, 1]) [30, 0, 20, 14, 11, 2] [(cd True).p ∧ (cand (cd ((0 : Int) ≤ if (20 : Int) < (↑k : Int) then (20 : Int) else (↑k : Int))) (cand (cd True) (cand (cd ((none : Option Operand).isSome = true → (some (Operand.tmp (51 : Nat))).isSome = true)) (cd ((1 : Nat) = 1 ∧ (0 : Nat) ≤ (if (20 : Int) < (↑k : Int) then (20 : Int) else (↑k : Int)).toNat ∧ (if (20 : Int) < (↑k : Int) then (20 : Int) else (↑k : Int)).toNat ≤ k ∧ ((0 : Nat) = (0 : Nat) ∨ (0 : Nat) < k)))))).p, (if (20 : Int) < (↑k : Int) then (20 : Int) else (↑k : Int)).toNat - (0 : Nat) ≤ xs.length ∧ (↑((if (20 : Int) < (↑k : Int) then (20 : Int) else (↑k : Int)).toNat - (0 : Nat)) : Int) ≤ (20 : Int), cellsOk ([] ++ List.take ((if (20 : Int) < (↑k : Int) then (20 : Int) else (↑k : Int)).toNat - (0 : Nat)) xs) ∧ (2 : Nat) ≤ ([] ++ List.take ((if (20 : Int) < (↑k : Int) then (20 : Int) else (↑k : Int)).toNat - (0 : Nat)) xs).length ∧ (4 : Int) ≤ (20 : Int) - ((↑([] ++ List.take ((if (20 : Int) < (↑k : Int) then (20 : Int) else (↑k : Int)).toNat - (0 : Nat)) xs).length : Int) - (2 : Int)), cellsOk (dw (2 : Nat) out9 ([] ++ List.take ((if (20 : Int) < (↑k : Int) then (20 : Int) else (↑k : Int)).toNat - (0 : Nat)) xs)) ∧ (2 : Nat) ≤ (dw (2 : Nat) out9 ([] ++ List.take ((if (20 : Int) < (↑k : Int) then (20 : Int) else (↑k : Int)).toNat - (0 : Nat)) xs)).length ∧ (2 : Int) ≤ (20 : Int) - ((↑(dw (2 : Nat) out9 ([] ++ List.take ((if (20 : Int) < (↑k : Int) then (20 : Int) else (↑k : Int)).toNat - (0 : Nat)) xs)).length : Int) - (2 : Int)), (0 : Nat) < (dw (2 : Nat) out3 (dw (2 : Nat) out9 ([] ++ List.take ((if (20 : Int) < (↑k : Int) then (20 : Int) else (↑k : Int)).toNat - (0 : Nat)) xs))).length, k2 = (dw (2 : Nat) out3 (dw (2 : Nat) out9 ([] ++ List.take ((if (20 : Int) < (↑k : Int) then (20 : Int) else (↑k : Int)).toNat - (0 : Nat)) xs))).length ∧ (dw (2 : Nat) out3 (dw (2 : Nat) out9 ([] ++ List.take ((if (20 : Int) < (↑k : Int) then (20 : Int) else (↑k : Int)).toNat - (0 : Nat)) xs))).length ≤ (dw (2 : Nat) out3 (dw (2 : Nat) out9 ([] ++ List.take ((if (20 : Int) < (↑k : Int) then (20 : Int) else (↑k : Int)).toNat - (0 : Nat)) xs))).length ∧ (dw (2 : Nat) out3 (dw (2 : Nat) out9 ([] ++ List.take ((if (20 : Int) < (↑k : Int) then (20 : Int) else (↑k : Int)).toNat - (0 : Nat)) xs))).length ≤ ys.length ∧ (↑(dw (2 : Nat) out3 (dw (2 : Nat) out9 ([] ++ List.take ((if (20 : Int) < (↑k : Int) then (20 : Int) else (↑k : Int)).toNat - (0 : Nat)) xs))).length : Int) ≤ (9223372036854775807 : Int) ∧ List.take (dw (2 : Nat) out3 (dw (2 : Nat) out9 ([] ++ List.take ((if (20 : Int) < (↑k : Int) then (20 : Int) else (↑k : Int)).toNat - (0 : Nat)) xs))).length (dw (2 : Nat) out3 (dw (2 : Nat) out9 ([] ++ List.take ((if (20 : Int) < (↑k : Int) then (20 : Int) else (↑k : Int)).toNat - (0 : Nat)) xs))) = List.take (dw (2 : Nat) out3 (dw (2 : Nat) out9 ([] ++ List.take ((if (20 : Int) < (↑k : Int) then (20 : Int) else (↑k : Int)).toNat - (0 : Nat)) xs))).length ys] (AV.cell (Cell.bool true), ordH2 xs ord13N ys, (0 : Nat), []) := ⟨by kernel_rfl, by kernel_rfl⟩

theorem ord13_ok {xs : List Int} {k : Nat} {ys : List Int} {k2 : Nat} (hk2 : k2 = ys.length) (hy : ys = xs ++ [top xs 0, top xs 1]) (hk : k = xs.length) (h1 : 4 ≤ k) (h2 : k ≤ 14) (hc : cellsOk xs) : CanOk Try.prog 8 (ordH2 xs ord13N ys) (ordA2 2 k k2) (.cell (.bool true)) (ordH2 xs ord13N ys) 0 := by
  obtain ⟨base, a, b, c, d, rfl⟩ := four (hk ▸ h1)
  have hkk : (if (20 : Int) < (k : Int) then (20 : Int) else (k : Int)) = (k : Int) := if_neg (by omega)
  have g := ord13_1 (base ++ [a, b, c, d]) k ys k2
  simp only [hkk, Int.toNat_natCast, Nat.sub_zero, List.nil_append, taken hk] at g
  have s1 : dw 2 out9 (base ++ [a, b, c, d]) = base ++ [a, b, c, d, c, d] := dw9 base _ (by simp)
  have s2 : dw 2 out3 (base ++ [a, b, c, d, c, d]) = base ++ [a, b, c, d, d, c] := dw3 base _ (by simp)
  simp only [s1, s2] at g
  have s0 : ys = base ++ [a, b, c, d, d, c] := by rw [hy, top_app base _ 0 (by simp), top_app base _ 1 (by simp)]; simp [top]
  subst s0
  simp only [len_app, List.length_cons, List.length_nil] at hk2
  exact g.canT (E_valid sB_ok 8) (Nat.le_refl 3) (by
    simp only [cellsOk_app, cellsOk_cons, cellsOk_nil, len_app, List.length_cons, List.length_nil] at hc hk
    simp only [AllP, and_true, true_and, cellsOk_app, cellsOk_cons, cellsOk_nil, len_app, List.length_cons, List.length_nil, List.take_of_length_le, Nat.le_refl, IntKind.wrap_u32, hc]
    first | done | omega | (simp; done) | (simp; omega) | (refine ⟨?_, ?_⟩ <;> first | omega | (simp; omega)))

def ord14N : List Cell := [.str [79, 86, 69, 82], .str [79, 86, 69, 82]]

theorem ord14_1 (xs : List Int) (k : Nat) (ys : List Int) (k2 : Nat) : Good (evB3 8 (ordA2 2 k k2) (ordH2 xs ord14N ys) [0, 0, 0, 1, 1, 0, 1, 1, 1, 0, 1, 1, 1, 0, 0, 6, 0, 1, 2, 6, 7, 1, 1, 1, 0, 1, 1, 0, 0, 0, 0, 0, 0, 1, 1, 1, 0, 1, 0, 0, 0, 0, 1, 0, 0, 0, 0, 0, 1, 1, 1, 1, 1, 1, 0, 1, 1, 0, 1]) [30, 0, 20, 14, 11, 2] [(cd True).p ∧ (cand (cd ((0 : Int) ≤ if (20 : Int) < (↑k : Int) then (20 : Int) else (↑k : Int))) (cand (cd True) (cand (cd ((none : Option Operand).isSome = true → (some (Operand.tmp (51 : Nat))).isSome = true)) (cd ((1 : Nat) = 1 ∧ (0 : Nat) ≤ (if (20 : Int) < (↑k : Int) then (20 : Int) else (↑k : Int)).toNat ∧ (if (20 : Int) < (↑k : Int) then (20 : Int) else (↑k : Int)).toNat ≤ k ∧ ((0 : Nat) = (0 : Nat) ∨ (0 : Nat) < k)))))).p, (if (20 : Int) < (↑k : Int) then (20 : Int) else (↑k : Int)).toNat - (0 : Nat) ≤ xs.length ∧ (↑((if (20 : Int) < (↑k : Int) then (20 : Int) else (↑k : Int)).toNat - (0 : Nat)) : Int) ≤ (20 : Int), cellsOk ([] ++ List.take ((if (20 : Int) < (↑k : Int) then (20 : Int) else (↑k : Int)).toNat - (0 : Nat)) xs) ∧ (2 : Nat) ≤ ([] ++ List.take ((if (20 : Int) < (↑k : Int) then (20 : Int) else (↑k : Int)).toNat - (0 : Nat)) xs).length ∧ (3 : Int) ≤ (20 : Int) - ((↑([] ++ List.take ((if (20 : Int) < (↑k : Int) then (20 : Int) else (↑k : Int)).toNat - (0 : Nat)) xs).length : Int) - (2 : Int)), cellsOk (dw (2 : Nat) out4 ([] ++ List.take ((if (20 : Int) < (↑k : Int) then (20 : Int) else (↑k : Int)).toNat - (0 : Nat)) xs)) ∧ (2 : Nat) ≤ (dw (2 : Nat) out4 ([] ++ List.take ((if (20 : Int) < (↑k : Int) then (20 : Int) else (↑k : Int)).toNat - (0 : Nat)) xs)).length ∧ (3 : Int) ≤ (20 : Int) - ((↑(dw (2 : Nat) out4 ([] ++ List.take ((if (20 : Int) < (↑k : Int) then (20 : Int) else (↑k : Int)).toNat - (0 : Nat)) xs)).length : Int) - (2 : Int)), (0 : Nat) < (dw (2 : Nat) out4 (dw (2 : Nat) out4 ([] ++ List.take ((if (20 : Int) < (↑k : Int) then (20 : Int) else (↑k : Int)).toNat - (0 : Nat)) xs))).length, k2 = (dw (2 : Nat) out4 (dw (2 : Nat) out4 ([] ++ List.take ((if (20 : Int) < (↑k : Int) then (20 : Int) else (↑k : Int)).toNat - (0 : Nat)) xs))).length ∧ (dw (2 : Nat) out4 (dw (2 : Nat) out4 ([] ++ List.take ((if (20 : Int) < (↑k : Int) then (20 : Int) else (↑k : Int)).toNat - (0 : Nat)) xs))).length ≤ (dw (2 : Nat) out4 (dw (2 : Nat) out4 ([] ++ List.take ((if (20 : Int) < (↑k : Int) then (20 : Int) else (↑k : Int)).toNat - (0 : Nat)) xs))).length ∧ (dw (2 : Nat) out4 (dw (2 : Nat) out4 ([] ++ List.take ((if (20 : Int) < (↑k : Int) then (20 : Int) else (↑k : Int)).toNat - (0 : Nat)) xs))).length ≤ ys.length ∧ (↑(dw (2 : Nat) out4 (dw (2 : Nat) out4 ([] ++ List.take ((if (20 : Int) < (↑k : Int) then (20 : Int) else (↑k : Int)).toNat - (0 : Nat)) xs))).length : Int) ≤ (9223372036854775807 : Int) ∧ List.take (dw (2 : Nat) out4 (dw (2 : Nat) out4 ([] ++ List.take ((if (20 : Int) < (↑k : Int) then (20 : Int) else (↑k : Int)).toNat - (0 : Nat)) xs))).length (dw (2 : Nat) out4 (dw (2 : Nat) out4 ([] ++ List.take ((if (20 : Int) < (↑k : Int) then (20 : Int) else (↑k : Int)).toNat - (0 : Nat)) xs))) = List.take (dw (2 : Nat) out4 (dw (2 : Nat) out4 ([] ++ List.take ((if (20 : Int) < (↑k : Int) then (20 : Int) else (↑k : Int)).toNat - (0 : Nat)) xs))).length ys] (AV.cell (Cell.bool true), ordH2 xs ord14N ys, (0 : Nat), []) := ⟨by kernel_rfl, by kernel_rfl⟩

theorem ord14_ok {xs : List Int} {k : Nat} {ys : List Int} {k2 : Nat} (hk2 : k2 = ys.length) (hy : ys = xs ++ [top xs 1, top xs 0]) (hk : k = xs.length) (h1 : 4 ≤ k) (h2 : k ≤ 14) (hc : cellsOk xs) : CanOk Try.prog 8 (ordH2 xs ord14N ys) (ordA2 2 k k2) (.cell (.bool true)) (ordH2 xs ord14N ys) 0 := by
  obtain ⟨base, a, b, c, d, rfl⟩ := four (hk ▸ h1)
  have hkk : (if (20 : Int) < (k : Int) then (20 : Int) else (k : Int)) = (k : Int) := if_neg (by omega)
  have g := ord14_1 (base ++ [a, b, c, d]) k ys k2
  simp only [hkk, Int.toNat_natCast, Nat.sub_zero, List.nil_append, taken hk] at g
  have s1 : dw 2 out4 (base ++ [a, b, c, d]) = base ++ [a, b, c, d, c] := dw4 base _ (by simp)
  have s2 : dw 2 out4 (base ++ [a, b, c, d, c]) = base ++ [a, b, c, d, c, d] := dw4 base _ (by simp)
  simp only [s1, s2] at g
  have s0 : ys = base ++ [a, b, c, d, c, d] := by rw [hy, top_app base _ 0 (by simp), top_app base _ 1 (by simp)]; simp [top]
  subst s0
  simp only [len_app, List.length_cons, List.length_nil] at hk2
  exact g.canT (E_valid sB_ok 8) (Nat.le_refl 3) (by
    simp only [cellsOk_app, cellsOk_cons, cellsOk_nil, len_app, List.length_cons, List.length_nil] at hc hk
    simp only [AllP, and_true, true_and, cellsOk_app, cellsOk_cons, cellsOk_nil, len_app, List.length_cons, List.length_nil, List.take_of_length_le, Nat.le_refl, IntKind.wrap_u32, hc]
    first | done | omega | (simp; done) | (simp; omega) | (refine ⟨?_, ?_⟩ <;> first | omega | (simp; omega)))

end Go.Proofs.Ytnoonoghemgbbaa.Sx

/-
  The plain primitives: part 7: without stacks and memory each primitive throws.
-/
set_option linter.unusedVariables false
set_option linter.unusedSimpArgs false
set_option maxRecDepth 100000
namespace Go.Proofs.Ytnoonoghemgbbaa.Sx
open Go

abbrev nilp : AV := .cell (.ptr true NIL 0 0)
abbrev i32 (n : Int) : AV := .cell (.int .i32 n)
noncomputable abbrev nrun (n : Int) (d : Dec) := quietE (E s5 14 [.cell (.int .u32 n), nilp, nilp, nilp] [] d)

def nilDecs : List Dec := [
  [0, 1, 1, 0, 0, 0, 0, 0, 0, 1, 0, 0, 0, 0, 0, 1, 0, 0, 1, 1, 0, 0, 0, 0, 0, 1, 1, 1],
  [0, 1, 1, 0, 0, 1, 1, 0, 1, 1, 1, 1, 1, 0, 1, 0, 0, 0, 0, 0, 1, 1, 1, 1],
  [0, 1, 1, 0, 0, 0, 1, 1, 1, 3, 0, 1, 1, 0, 0, 0, 0, 0, 1, 0, 0, 1, 1, 0, 0, 0, 0, 0, 1, 1, 1],
  [0, 1, 1, 0, 0, 0, 0, 1, 1, 0, 1, 1, 1, 1, 1, 0, 1, 0, 0, 0, 0, 0, 1, 1, 1, 1],
  [0, 1, 1, 0, 0, 0, 0, 0, 1, 0, 1, 1, 1, 1, 1, 0, 1, 0, 0, 0, 0, 0, 1, 1, 1, 1]]
def nilKind : List Nat := [0, 0, 0, 0, 0, 1, 0, 0, 0, 0, 0, 0, 2, 3, 4, 0, 0, 0, 0, 0, 0, 0, 0, 0, 0, 0, 0, 0, 0, 0, 0, 0, 0, 0, 0, 0, 0, 0, 0, 0, 0, 0, 0, 0, 0, 0, 0, 0, 0, 0, 0, 0, 0, 0, 0, 0, 0, 0, 0, 0, 0, 0, 0, 0, 0, 0, 0, 0, 0, 0, 0, 0, 0]
def nilDec (i : Nat) : Dec := nilDecs.getD (nilKind.getD i 0) []

theorem nil_plain : (List.range 73).map (fun i => said [] (nrun ((i + 1 : Nat) : Int) (nilDec i))) = (List.range 73).map (fun _ => some ([], i32 (-4), [])) := by kernel_rfl
theorem nil_plain' : (List.range 73).map (fun i => leftOf [] (nrun ((i + 1 : Nat) : Int) (nilDec i))) = (List.range 73).map (fun i => rightOf [] (nrun ((i + 1 : Nat) : Int) (nilDec i))) := by kernel_rfl

theorem nil_other (n : Int) : Good (nrun n [1, 1, 1, 0, 1]) [0, 4] [101 ≤ n ∧ n ≤ 140, decide (n > 73) = true] (i32 (-13), []) := ⟨by kernel_rfl, by kernel_rfl⟩
theorem nil_none (n : Int) : Good (nrun n [2, 0, 0, 1, 1]) [0] [n ≤ 4294967295 ∧ ¬(1 ≤ n ∧ n ≤ 73) ∧ ¬(101 ≤ n ∧ n ≤ 140)] (i32 (-13), []) := ⟨by kernel_rfl, by kernel_rfl⟩

def doNilG : List AV → Option (List QWay)
  | [.cell (.int .u32 n), .cell (.ptr true 1000000007 0 0), .cell (.ptr true 1000000007 0 0), .cell (.ptr true 1000000007 0 0)] => some [
      ⟨[cd (1 ≤ n ∧ n ≤ 73)], decide (1 ≤ n) && decide (n ≤ 73), i32 (-4)⟩,
      ⟨[cd (n ≤ 4294967295 ∧ ¬(1 ≤ n ∧ n ≤ 73))], true, i32 (-13)⟩]
  | _ => none

theorem doNil_ok : Valid Try.prog 14 (quietSum (D := Nob) doNilG) := quiet_of fun args l h => by
  unfold doNilG at h
  split at h
  · rename_i n
    cases h
    have hv := E_valid s5_ok 14
    refine ⟨rfl, fun h => ⟨rfl, ?_⟩, fun h => ⟨rfl, ?_⟩, trivial⟩
    · obtain ⟨⟨h1, h2⟩, _⟩ := h
      obtain ⟨i, rfl⟩ : ∃ i : Nat, n = ((i + 1 : Nat) : Int) := ⟨(n - 1).toNat, by omega⟩
      have hi : i < 73 := by omega
      exact (Good.mk (map_at nil_plain (List.mem_range.2 hi)) (map_at nil_plain' (List.mem_range.2 hi))).quiet hv trivial
    · obtain ⟨⟨h1, h2⟩, _⟩ := h
      by_cases h3 : 101 ≤ n ∧ n ≤ 140
      · exact (nil_other n).quiet hv ⟨h3, by simp; omega, trivial⟩
      · exact (nil_none n).quiet hv ⟨⟨h1, h2, h3⟩, trivial⟩
  · cases h

end Go.Proofs.Ytnoonoghemgbbaa.Sx

/-
  The plain primitives: part 8: the chapter's examples.
-/
set_option linter.unusedVariables false
set_option linter.unusedSimpArgs false
set_option maxRecDepth 100000
namespace Go.Proofs.Ytnoonoghemgbbaa.Sx
open Go

/-- What is asked of 'becomes': cells, names, cells, a number. -/
structure Bec where
  xs : List Int
  ns : List Cell
  ys : List Int
  w : Int

def Bec.args (c : Bec) : List AV := [.cell (.slice false 0 0 0 c.xs.length (some c.xs.length) 1), .cell (.slice false 1 0 0 c.ns.length (some c.ns.length) 1), .cell (.slice false 2 0 0 c.ys.length (some c.ys.length) 1), i32 c.w]
def Bec.view (c : Bec) : View := [(true, .ints .u32 c.xs), (true, .raw c.ns), (true, .ints .u32 c.ys)]
def Bec.ok (c : Bec) : Prop := CanOk Try.prog 8 (ofView Nob c.view) c.args (.cell (.bool true)) (ofView Nob c.view) 3

noncomputable abbrev brun (c : Bec) (d : Dec) := trimF 3 (E s5 8 c.args (ofView Nob c.view) d)

theorem Bec.of {c : Bec} {d : Dec} {ks : List Nat} {ps : List Prop} (h : Good (brun c d) ks ps (.cell (.bool true), ofView Nob c.view, 3, [])) (hp : AllP ps) : c.ok :=
  h.canT (E_valid s5_ok 8) (Nat.le_refl 3) hp

def nameB : List Cell → List Cell → Bool
  | [], [] => true
  | .str a :: l, .str b :: m => sameL a b && nameB l m
  | _, _ => false

def Bec.way (n n' k k' m m' : Nat) (w : Int) (xs : List Int) (ns : List Cell) (ys : List Int) (c : Bec) : Way Nob :=
  ⟨[cq (n, n', k, k', m, m', w, xs, ns, ys) (c.xs.length, c.xs.length, c.ns.length, c.ns.length, c.ys.length, c.ys.length, c.w, c.xs, c.ns, c.ys)], nameB ns c.ns && (decide (xs = c.xs) && (decide (ys = c.ys) && decide (w = c.w))),
    .cell (.bool true), ofView Nob c.view, 3⟩

/-- Such calls, of which each is known. -/
def becG (l : List Bec) : List AV → View → Option (List (Way Nob))
  | [.cell (.slice false 0 0 0 n (some n') 1), .cell (.slice false 1 0 0 k (some k') 1), .cell (.slice false 2 0 0 m (some m') 1), .cell (.int .i32 w)], [(true, .ints .u32 xs), (true, .raw ns), (true, .ints .u32 ys)] =>
    some (l.map (Bec.way n n' k k' m m' w xs ns ys))
  | _, _ => none

theorem WaysOk.of_all {P : Program} {f : FuncId} {H : Heap Nob} {args : List AV} : ∀ {l : List (Way Nob)}, (∀ y ∈ l, VC.ok y.cond → CanOk P f H args y.v y.H y.low) → WaysOk P f H args l
  | [], _ => trivial
  | y :: l, h => ⟨h y (by simp), WaysOk.of_all fun z hz => h z (by simp [hz])⟩

theorem bec_valid {l : List Bec} (hl : ∀ c ∈ l, c.ok) : Valid Try.prog 8 (canonSum (becG l)) := canon_of fun args Hc ws h => by
  unfold becG at h
  split at h
  · cases h
    refine WaysOk.of_all fun y hy hc => ?_
    obtain ⟨c, hm, rfl⟩ := List.mem_map.1 hy
    have e := hc.1
    simp only [Bec.way, Prod.mk.injEq] at e
    obtain ⟨rfl, rfl, rfl, rfl, rfl, rfl, rfl, rfl, rfl, rfl⟩ := e
    exact hl c hm
  · cases h

theorem bec_0 : Bec.ok ⟨[1, 2, 3], [.str [82, 79, 84]], [2, 3, 1], 0⟩ := Bec.of (d := [1, 1, 0, 1, 1, 0, 1, 1, 0, 0, 1, 1, 0, 1, 1, 0, 1, 1, 0, 0, 0, 1, 1, 0, 1, 1, 1, 0, 1, 1, 1, 0, 0, 6, 0, 1, 2, 6, 7, 1, 1, 1, 0, 1, 1, 0, 0, 0, 0, 1, 1, 1, 1, 1, 0, 1, 1, 0, 0, 0,
  0, 0, 0, 0, 1, 1, 1, 1, 1, 0, 1, 1, 0, 0, 0, 0, 1, 1, 1, 1, 0, 1, 0, 0, 1, 1, 0, 0, 0, 0, 0, 0, 0, 1, 1, 1, 1, 1, 0, 1, 1, 0, 0, 0, 0, 0, 0, 0, 0, 1, 1, 1, 1, 0, 1, 0, 0, 0, 0, 0,
  1, 1, 1, 1, 0, 1, 0, 0, 0, 0, 0, 1, 1, 1, 1, 0, 1, 0, 0, 0, 0, 0, 0, 0, 0, 0, 0, 0, 1, 0, 1, 0, 0, 1, 2, 0, 1, 2, 0, 0, 1, 0, 23, 1, 6, 0, 1, 1, 1, 0, 1, 0, 1, 1, 0, 1, 1, 1, 1, 1,
  0, 0, 0, 0, 0, 1, 1, 1, 0, 1, 0, 1, 1, 0, 1, 1, 1, 1, 1, 0, 0, 0, 0, 1, 1, 1, 1, 1, 0, 1, 1, 0, 0, 0, 0, 3, 0, 0, 0, 1, 1, 1, 1, 1, 1, 0, 0, 0, 1, 1, 0, 0, 1, 25, 0, 0, 0, 1, 25, 0,
  0, 0, 1, 25, 0, 0, 0, 0, 1]) (ks := []) (ps := []) ⟨by kernel_rfl, by kernel_rfl⟩ trivial

theorem bec_1 : Bec.ok ⟨[7, 4294967294], [.str [47, 77, 79, 68]], [4294967295, 4294967292], 0⟩ := Bec.of (d := [1, 1, 0, 1, 1, 0, 1, 1, 0, 0, 1, 1, 0, 1, 1, 0, 1, 1, 0, 0, 0, 1, 1, 0, 1, 1, 1, 0, 1, 1, 1, 0, 0, 6, 0, 1, 2, 6, 7, 1, 1, 1, 0, 1, 1, 0, 0, 0, 0, 1, 1, 1, 1, 1, 0, 1, 1, 0, 0, 0,
  0, 0, 0, 0, 1, 1, 1, 1, 1, 0, 1, 1, 0, 0, 0, 0, 1, 1, 1, 1, 0, 1, 0, 0, 1, 1, 0, 0, 0, 0, 0, 0, 0, 1, 1, 1, 1, 1, 0, 1, 1, 0, 0, 0, 0, 0, 0, 0, 0, 1, 1, 1, 1, 0, 1, 0, 0, 0, 0, 0,
  1, 1, 1, 1, 0, 1, 0, 0, 0, 0, 0, 0, 0, 0, 0, 0, 0, 0, 0, 0, 0, 0, 0, 0, 0, 0, 1, 0, 0, 0, 0, 0, 0, 0, 0, 0, 0, 0, 0, 0, 0, 0, 0, 0, 0, 0, 1, 16, 0, 0, 0, 0, 0, 0, 17, 0, 1, 1, 1, 1,
  1, 1, 1, 1, 1, 1, 0, 0, 0, 0, 1, 0, 18, 1, 6, 0, 1, 1, 1, 0, 1, 0, 1, 1, 0, 1, 1, 1, 1, 1, 0, 0, 0, 0, 0, 1, 1, 1, 0, 1, 0, 1, 1, 0, 1, 1, 1, 1, 1, 0, 0, 0, 0, 1, 1, 1, 1, 1, 0, 1,
  1, 0, 0, 0, 0, 3, 0, 0, 0, 1, 1, 1, 1, 1, 1, 0, 0, 0, 1, 1, 0, 0, 1, 20, 0, 0, 0, 1, 20, 0, 0, 0, 0, 1]) (ks := []) (ps := []) ⟨by kernel_rfl, by kernel_rfl⟩ trivial

theorem bec_2 : Bec.ok ⟨[5, 0], [.str [47]], [5, 0], -10⟩ := Bec.of (d := [1, 1, 0, 1, 1, 0, 1, 1, 0, 0, 1, 1, 0, 1, 1, 0, 1, 1, 0, 0, 0, 1, 1, 0, 1, 1, 1, 0, 1, 1, 1, 0, 0, 6, 0, 1, 2, 6, 7, 1, 1, 1, 0, 1, 1, 0, 0, 0, 0, 1, 1, 1, 1, 1, 0, 1, 1, 0, 0, 0,
  0, 0, 0, 0, 1, 1, 1, 1, 1, 0, 1, 1, 0, 0, 0, 0, 1, 1, 1, 1, 0, 1, 0, 0, 1, 1, 0, 0, 0, 0, 0, 0, 0, 1, 1, 1, 1, 1, 0, 1, 1, 0, 0, 0, 0, 0, 0, 0, 0, 1, 1, 1, 1, 0, 1, 0, 0, 0, 0, 0,
  1, 1, 1, 1, 0, 1, 0, 0, 0, 0, 0, 0, 0, 0, 0, 0, 0, 0, 0, 0, 0, 0, 0, 0, 0, 0, 1, 0, 0, 0, 0, 0, 0, 0, 0, 0, 0, 0, 0, 0, 0, 0, 0, 0, 1, 1, 16, 0, 1, 1, 1, 1, 1, 1, 1, 1, 1, 1, 1, 1,
  0, 0, 0, 1, 1, 0, 0, 1, 20, 0, 0, 0, 1, 20, 0, 0, 0, 0, 1]) (ks := []) (ps := []) ⟨by kernel_rfl, by kernel_rfl⟩ trivial

theorem bec_3 : Bec.ok ⟨[1, 2, 2], [.str [80, 73, 67, 75]], [1, 2, 2], -4⟩ := Bec.of (d := [1, 1, 0, 1, 1, 0, 1, 1, 0, 0, 1, 1, 0, 1, 1, 0, 1, 1, 0, 0, 0, 1, 1, 0, 1, 1, 1, 0, 1, 1, 1, 0, 0, 6, 0, 1, 2, 6, 7, 1, 1, 1, 0, 1, 1, 0, 0, 0, 0, 1, 1, 1, 1, 1, 0, 1, 1, 0, 0, 0,
  0, 0, 0, 0, 1, 1, 1, 1, 1, 0, 1, 1, 0, 0, 0, 0, 1, 1, 1, 1, 0, 1, 0, 0, 1, 1, 0, 0, 0, 0, 1, 1, 0, 1, 1, 1, 0, 1, 0, 0, 0, 0, 0, 0, 1, 1, 1, 0, 1, 0, 1, 1, 1, 1, 1, 1, 0, 0, 1, 1,
  1, 1, 1, 1, 1, 1, 1, 0, 0, 0, 1, 1, 0, 0, 1, 17, 0, 0, 0, 1, 17, 0, 0, 0, 1, 17, 0, 0, 0, 0, 1]) (ks := []) (ps := []) ⟨by kernel_rfl, by kernel_rfl⟩ trivial

theorem bec_4 : Bec.ok ⟨[3, 1, 5], [.str [87, 73, 84, 72, 73, 78]], [4294967295], 0⟩ := Bec.of (d := [1, 1, 0, 1, 1, 0, 1, 1, 0, 0, 1, 1, 0, 1, 1, 0, 1, 1, 0, 0, 0, 1, 1, 0, 1, 1, 1, 0, 1, 1, 1, 0, 0, 6, 0, 1, 2, 6, 7, 1, 1, 1, 0, 1, 1, 0, 0, 0, 0, 1, 1, 1, 1, 1, 0, 1, 1, 0, 0, 0,
  0, 0, 0, 0, 1, 1, 1, 1, 1, 0, 1, 1, 0, 0, 0, 0, 1, 1, 1, 1, 0, 1, 0, 0, 1, 1, 0, 0, 0, 0, 0, 0, 0, 1, 1, 1, 1, 1, 0, 1, 1, 0, 0, 0, 0, 0, 0, 0, 0, 1, 1, 1, 1, 0, 1, 0, 0, 0, 0, 0,
  1, 1, 1, 1, 0, 1, 0, 0, 0, 0, 0, 1, 1, 1, 1, 0, 1, 0, 0, 0, 0, 0, 0, 0, 0, 0, 0, 0, 0, 0, 0, 0, 0, 0, 0, 0, 0, 0, 0, 0, 0, 0, 0, 0, 0, 0, 0, 0, 0, 0, 0, 1, 16, 0, 1, 1, 0, 17, 1, 6,
  0, 1, 1, 1, 0, 1, 0, 1, 1, 0, 1, 1, 1, 1, 1, 0, 0, 0, 0, 0, 1, 1, 1, 0, 1, 0, 1, 1, 0, 1, 1, 1, 1, 1, 0, 0, 0, 0, 1, 1, 1, 1, 1, 0, 1, 1, 0, 0, 0, 0, 3, 0, 0, 0, 1, 1, 1, 1, 1, 1,
  0, 0, 0, 1, 1, 0, 0, 1, 19, 0, 0, 0, 0, 1]) (ks := []) (ps := []) ⟨by kernel_rfl, by kernel_rfl⟩ trivial

theorem bec_5 : Bec.ok ⟨[5, 1, 5], [.str [87, 73, 84, 72, 73, 78]], [0], 0⟩ := Bec.of (d := [1, 1, 0, 1, 1, 0, 1, 1, 0, 0, 1, 1, 0, 1, 1, 0, 1, 1, 0, 0, 0, 1, 1, 0, 1, 1, 1, 0, 1, 1, 1, 0, 0, 6, 0, 1, 2, 6, 7, 1, 1, 1, 0, 1, 1, 0, 0, 0, 0, 1, 1, 1, 1, 1, 0, 1, 1, 0, 0, 0,
  0, 0, 0, 0, 1, 1, 1, 1, 1, 0, 1, 1, 0, 0, 0, 0, 1, 1, 1, 1, 0, 1, 0, 0, 1, 1, 0, 0, 0, 0, 0, 0, 0, 1, 1, 1, 1, 1, 0, 1, 1, 0, 0, 0, 0, 0, 0, 0, 0, 1, 1, 1, 1, 0, 1, 0, 0, 0, 0, 0,
  1, 1, 1, 1, 0, 1, 0, 0, 0, 0, 0, 1, 1, 1, 1, 0, 1, 0, 0, 0, 0, 0, 0, 0, 0, 0, 0, 0, 0, 0, 0, 0, 0, 0, 0, 0, 0, 0, 0, 0, 0, 0, 0, 0, 0, 0, 0, 0, 0, 0, 0, 1, 16, 0, 0, 1, 0, 17, 1, 6,
  0, 1, 1, 1, 0, 1, 0, 1, 1, 0, 1, 1, 1, 1, 1, 0, 0, 0, 0, 0, 1, 1, 1, 0, 1, 0, 1, 1, 0, 1, 1, 1, 1, 1, 0, 0, 0, 0, 1, 1, 1, 1, 1, 0, 1, 1, 0, 0, 0, 0, 3, 0, 0, 0, 1, 1, 1, 1, 1, 1,
  0, 0, 0, 1, 1, 0, 0, 1, 19, 0, 0, 0, 0, 1]) (ks := []) (ps := []) ⟨by kernel_rfl, by kernel_rfl⟩ trivial

theorem bec_6 : Bec.ok ⟨[1048576, 258, 1048576], [.str [33], .str [67, 64]], [2], 0⟩ := Bec.of (d := [1, 1, 0, 1, 1, 0, 1, 1, 0, 0, 1, 1, 0, 1, 1, 0, 1, 1, 0, 0, 0, 1, 1, 0, 1, 1, 1, 0, 1, 1, 1, 0, 0, 6, 0, 1, 2, 6, 7, 1, 1, 1, 0, 1, 1, 0, 0, 0, 0, 1, 1, 1, 1, 1, 0, 1, 1, 0, 0, 0,
  0, 0, 0, 0, 1, 1, 1, 1, 1, 0, 1, 1, 0, 0, 0, 0, 1, 1, 1, 1, 0, 1, 0, 0, 1, 1, 0, 0, 0, 0, 0, 0, 0, 1, 1, 1, 1, 1, 0, 1, 1, 0, 0, 0, 0, 0, 0, 0, 0, 1, 1, 1, 1, 0, 1, 0, 0, 0, 0, 0,
  1, 1, 1, 1, 0, 1, 0, 0, 0, 0, 0, 0, 0, 0, 0, 0, 0, 0, 0, 0, 0, 0, 0, 0, 0, 0, 1, 0, 0, 0, 0, 0, 0, 0, 0, 0, 0, 0, 0, 0, 0, 0, 0, 0, 0, 0, 0, 0, 0, 0, 0, 0, 0, 0, 0, 0, 0, 0, 0, 0,
  0, 0, 0, 1, 17, 1, 6, 1, 1, 1, 1, 1, 0, 0, 0, 0, 1, 1, 1, 1, 1, 0, 1, 1, 1, 1, 1, 1, 0, 1, 0, 1, 1, 1, 1, 1, 0, 0, 0, 1, 0, 0, 0, 0, 0, 0, 1, 0, 1, 0, 1, 0, 1, 0, 0, 0, 17, 1, 6, 0,
  1, 1, 1, 0, 1, 0, 1, 1, 0, 1, 1, 1, 1, 1, 0, 0, 0, 0, 0, 1, 1, 1, 0, 1, 0, 1, 1, 0, 1, 1, 1, 1, 1, 0, 0, 0, 0, 1, 1, 1, 1, 1, 0, 1, 1, 0, 0, 0, 0, 1, 0, 0, 1, 0, 0, 1, 1, 0, 0, 0,
  0, 0, 0, 0, 1, 1, 1, 1, 1, 0, 1, 1, 0, 0, 0, 0, 0, 0, 0, 0, 1, 1, 1, 1, 0, 1, 0, 0, 0, 0, 0, 0, 0, 0, 0, 0, 0, 0, 0, 0, 0, 0, 0, 0, 0, 1, 0, 0, 0, 0, 0, 0, 0, 0, 0, 0, 0, 0, 0, 0,
  0, 0, 0, 0, 0, 0, 0, 0, 0, 0, 0, 0, 0, 0, 0, 0, 0, 1, 1, 1, 1, 1, 1, 0, 1, 1, 1, 1, 1, 1, 0, 1, 0, 1, 1, 1, 1, 1, 0, 0, 0, 1, 0, 0, 24, 1, 6, 0, 1, 1, 1, 0, 1, 0, 1, 1, 0, 1, 1, 1,
  1, 1, 0, 0, 0, 0, 0, 1, 1, 1, 0, 1, 0, 1, 1, 0, 1, 1, 1, 1, 1, 0, 0, 0, 0, 1, 1, 1, 1, 1, 0, 1, 1, 0, 0, 0, 0, 3, 0, 0, 0, 1, 1, 1, 1, 1, 1, 0, 0, 0, 1, 1, 0, 0, 1, 26, 0, 0, 0, 0,
  1]) (ks := []) (ps := []) ⟨by kernel_rfl, by kernel_rfl⟩ trivial

theorem bec_7 : Bec.ok ⟨[1048576, 258, 1048576], [.str [33], .str [67, 79, 85, 78, 84]], [1048577, 2], 0⟩ := Bec.of (d := [1, 1, 0, 1, 1, 0, 1, 1, 0, 0, 1, 1, 0, 1, 1, 0, 1, 1, 0, 0, 0, 1, 1, 0, 1, 1, 1, 0, 1, 1, 1, 0, 0, 6, 0, 1, 2, 6, 7, 1, 1, 1, 0, 1, 1, 0, 0, 0, 0, 1, 1, 1, 1, 1, 0, 1, 1, 0, 0, 0,
  0, 0, 0, 0, 1, 1, 1, 1, 1, 0, 1, 1, 0, 0, 0, 0, 1, 1, 1, 1, 0, 1, 0, 0, 1, 1, 0, 0, 0, 0, 0, 0, 0, 1, 1, 1, 1, 1, 0, 1, 1, 0, 0, 0, 0, 0, 0, 0, 0, 1, 1, 1, 1, 0, 1, 0, 0, 0, 0, 0,
  1, 1, 1, 1, 0, 1, 0, 0, 0, 0, 0, 0, 0, 0, 0, 0, 0, 0, 0, 0, 0, 0, 0, 0, 0, 0, 1, 0, 0, 0, 0, 0, 0, 0, 0, 0, 0, 0, 0, 0, 0, 0, 0, 0, 0, 0, 0, 0, 0, 0, 0, 0, 0, 0, 0, 0, 0, 0, 0, 0,
  0, 0, 0, 1, 17, 1, 6, 1, 1, 1, 1, 1, 0, 0, 0, 0, 1, 1, 1, 1, 1, 0, 1, 1, 1, 1, 1, 1, 0, 1, 0, 1, 1, 1, 1, 1, 0, 0, 0, 1, 0, 0, 0, 0, 0, 0, 1, 0, 1, 0, 1, 0, 1, 0, 0, 0, 17, 1, 6, 0,
  1, 1, 1, 0, 1, 0, 1, 1, 0, 1, 1, 1, 1, 1, 0, 0, 0, 0, 0, 1, 1, 1, 0, 1, 0, 1, 1, 0, 1, 1, 1, 1, 1, 0, 0, 0, 0, 1, 1, 1, 1, 1, 0, 1, 1, 0, 0, 0, 0, 1, 0, 0, 1, 0, 0, 1, 1, 0, 0, 0,
  0, 0, 0, 0, 1, 1, 1, 1, 1, 0, 1, 1, 0, 0, 0, 0, 0, 0, 0, 0, 1, 1, 1, 1, 0, 1, 0, 0, 0, 0, 0, 0, 0, 0, 0, 0, 0, 0, 0, 0, 0, 0, 0, 0, 0, 1, 0, 0, 0, 0, 0, 0, 0, 0, 0, 0, 0, 0, 0, 0,
  0, 0, 0, 0, 0, 0, 0, 0, 0, 0, 0, 0, 0, 0, 0, 0, 0, 0, 1, 1, 1, 1, 1, 1, 0, 1, 1, 1, 1, 1, 1, 0, 1, 0, 1, 1, 1, 1, 1, 0, 0, 0, 1, 0, 0, 24, 1, 6, 0, 1, 1, 1, 0, 1, 0, 1, 1, 0, 1, 1,
  1, 1, 1, 0, 0, 0, 0, 0, 1, 1, 1, 0, 1, 0, 1, 1, 0, 1, 1, 1, 1, 1, 0, 0, 0, 0, 1, 1, 1, 1, 1, 0, 1, 1, 0, 0, 0, 0, 3, 0, 0, 0, 1, 1, 1, 1, 1, 1, 0, 0, 0, 1, 1, 0, 0, 1, 26, 0, 0, 0,
  1, 26, 0, 0, 0, 0, 1]) (ks := []) (ps := []) ⟨by kernel_rfl, by kernel_rfl⟩ trivial

theorem bec_8 : Bec.ok ⟨[7], [.str [62, 82], .str [82, 64], .str [82, 62]], [7, 7], 0⟩ := Bec.of (d := [1, 1, 0, 1, 1, 0, 1, 1, 0, 0, 1, 1, 0, 1, 1, 0, 1, 1, 0, 0, 0, 1, 1, 0, 1, 1, 1, 0, 1, 1, 1, 0, 0, 6, 0, 1, 2, 6, 7, 1, 1, 1, 0, 1, 1, 0, 0, 0, 0, 1, 1, 1, 1, 1, 0, 1, 1, 0, 0, 0,
  0, 0, 0, 0, 1, 1, 1, 1, 1, 0, 1, 1, 0, 0, 0, 0, 1, 1, 1, 1, 0, 1, 0, 0, 1, 1, 0, 0, 0, 0, 0, 0, 0, 1, 1, 1, 1, 1, 0, 1, 1, 0, 0, 0, 0, 1, 1, 1, 1, 0, 1, 0, 0, 0, 0, 0, 0, 1, 1, 1,
  1, 1, 0, 1, 1, 0, 0, 0, 0, 0, 1, 1, 0, 0, 1, 1, 1, 0, 1, 0, 0, 0, 0, 1, 16, 1, 14, 0, 0, 0, 1, 0, 0, 1, 1, 0, 0, 0, 0, 0, 0, 0, 1, 1, 1, 1, 1, 0, 1, 1, 0, 0, 0, 0, 0, 0, 1, 1, 1, 1,
  0, 1, 0, 0, 0, 0, 0, 0, 1, 1, 1, 1, 1, 0, 1, 1, 0, 0, 0, 0, 3, 1, 1, 0, 1, 0, 0, 1, 0, 0, 1, 1, 0, 0, 0, 0, 0, 0, 0, 1, 1, 1, 1, 1, 0, 1, 1, 0, 0, 0, 0, 0, 1, 1, 1, 1, 1, 0, 1, 0,
  0, 0, 0, 0, 0, 1, 1, 1, 1, 1, 0, 1, 1, 0, 0, 0, 0, 2, 1, 1, 0, 0, 1, 1, 1, 0, 1, 0, 0, 0, 0, 1, 25, 1, 14, 0, 0, 0, 0, 1, 1, 1, 1, 1, 1, 0, 0, 0, 1, 1, 0, 0, 1, 27, 0, 0, 0, 1, 27, 0,
  0, 0, 0, 1]) (ks := []) (ps := []) ⟨by kernel_rfl, by kernel_rfl⟩ trivial

def awakeBecs : List Bec := [
  ⟨[1, 2, 3], [.str [82, 79, 84]], [2, 3, 1], 0⟩,
  ⟨[7, 4294967294], [.str [47, 77, 79, 68]], [4294967295, 4294967292], 0⟩,
  ⟨[5, 0], [.str [47]], [5, 0], -10⟩,
  ⟨[1, 2, 2], [.str [80, 73, 67, 75]], [1, 2, 2], -4⟩,
  ⟨[3, 1, 5], [.str [87, 73, 84, 72, 73, 78]], [4294967295], 0⟩,
  ⟨[5, 1, 5], [.str [87, 73, 84, 72, 73, 78]], [0], 0⟩,
  ⟨[1048576, 258, 1048576], [.str [33], .str [67, 64]], [2], 0⟩,
  ⟨[1048576, 258, 1048576], [.str [33], .str [67, 79, 85, 78, 84]], [1048577, 2], 0⟩,
  ⟨[7], [.str [62, 82], .str [82, 64], .str [82, 62]], [7, 7], 0⟩]

theorem awakeBecs_ok : ∀ c ∈ awakeBecs, c.ok := by
  simp only [awakeBecs, List.mem_cons, List.not_mem_nil, or_false, forall_eq_or_imp, forall_eq]
  exact ⟨bec_0, bec_1, bec_2, bec_3, bec_4, bec_5, bec_6, bec_7, bec_8⟩

end Go.Proofs.Ytnoonoghemgbbaa.Sx
