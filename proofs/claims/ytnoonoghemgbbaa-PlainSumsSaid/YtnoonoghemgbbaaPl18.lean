/-
  PlainSums holds: whatever two cells it is given, the law returns true, and what it was given reads as it did. Conditions: none.
-/
import Derived.Test.YtnoonoghemgbbaaPl14
import Derived.Test.YtnoonoghemgbbaaPl15
import Derived.Test.YtnoonoghemgbbaaPl16
import Derived.Test.YtnoonoghemgbbaaPl17
import Derived.Test.YtnoonoghemgbbaaPa2
set_option maxRecDepth 100000
namespace Go.Proofs.Ytnoonoghemgbbaa.Sx
open Go Go.ChangeShapes Go.WideShapes Go.ChangeAt Go.RowKit

theorem fact_flags (a b : Int) : (IntKind.u32.wrap ((if decide (IntKind.i32.wrap b > IntKind.i32.wrap a) = true then (4294967295 : Int) else (0 : Int)) - if decide (IntKind.i32.wrap a < IntKind.i32.wrap b) = true then (4294967295 : Int) else (0 : Int)) != (0 : Int)) = false := by
  by_cases h : IntKind.i32.wrap a < IntKind.i32.wrap b
  · simp only [gt_iff_lt, h, decide_true, if_true, Int.sub_self]; rfl
  · simp only [gt_iff_lt, h, decide_false, Bool.false_eq_true, if_false, Int.sub_self]; rfl

theorem flX_eq {a : Int} (ha : isU a) : flX a ((IntKind.i32.wrap a).fdiv 2147483648) = IntKind.i32.wrap a := sign_ext ha

theorem sums_can {a b : Int} (ha : isU a) (hb : isU b) : ∃ H' low, CanOk Try.prog 4 ([] : Heap Nob) [.cell (.int .u32 a), .cell (.int .u32 b)] (.cell (.bool true)) H' low := by
  have hv := E_valid s8_ok 4
  have hA := sgn_range a
  have hB := sgn_range b
  have hX0' : hX0 a = IntKind.i32.wrap a := flX_eq ha
  have hX2' : hX2 a = IntKind.i32.wrap a := flX_eq ha
  have hX3' : hX3 a = IntKind.i32.wrap a := flX_eq ha
  have hN : IntKind.i64.wrap (IntKind.i32.wrap b) = IntKind.i32.wrap b := i64_small (by omega) (by omega)
  by_cases c0 : IntKind.i32.wrap b = 0
  · have hb0 : b = 0 := by rcases sgn_eq hb with ⟨_, h⟩ | ⟨h1, h⟩ <;> rw [h] at c0 <;> obtain ⟨h3, h4⟩ := hb <;> omega
    exact (sums_1 a b).quiet hv ⟨ha, hb, ha, hb, ha, hb, ha, hb, ha, hb, ha, hb, ha, hb, fact_flags a b, by rw [hN]; exact c0, by simp [hb0], by simp [hb0], by simp [hb0], by simp [hb0], by simp [hb0], by simp [hb0], by simp [hb0], trivial⟩
  · have hd := tdiv_bound (B := IntKind.i32.wrap b) hA.1 hA.2
    have hw : IntKind.i64.wrap ((IntKind.i32.wrap a).tdiv (IntKind.i32.wrap b)) = (IntKind.i32.wrap a).tdiv (IntKind.i32.wrap b) := i64_small (by omega) (by omega)
    have hm := tmod_bound (A := IntKind.i32.wrap a) c0
    have he := Int.mul_tdiv_add_tmod (IntKind.i32.wrap a) (IntKind.i32.wrap b)
    by_cases ct : (IntKind.i32.wrap a).tdiv (IntKind.i32.wrap b) = 2147483648
    · obtain ⟨h1, h2⟩ := tdiv_top hA.1 hA.2 c0 ct
      have ha0 : a = 2147483648 := by rcases sgn_eq ha with ⟨h3, h⟩ | ⟨h3, h⟩ <;> rw [h] at h1 <;> obtain ⟨h4, h5⟩ := ha <;> omega
      have hb0 : b = 4294967295 := by rcases sgn_eq hb with ⟨h3, h⟩ | ⟨h3, h⟩ <;> rw [h] at h2 <;> obtain ⟨h4, h5⟩ := hb <;> omega
      refine (sums_2 a b).quiet hv ⟨ha, hb, ha, hb, ha, hb, ha, hb, ha, hb, ha, hb, ha, hb, fact_flags a b, ?_, by simp [ha0], by simp [ha0], by simp [ha0], by simp [hb0], by simp [hb0], trivial⟩
      rw [hN, hX2']
      refine ⟨h2, by omega, ?_, by omega, by omega⟩
      rw [h2]; simp
    · by_cases cr : (IntKind.i32.wrap a).tmod (IntKind.i32.wrap b) = 0 ∨ (IntKind.i32.wrap b ≠ -1 ∧ decide ((IntKind.i32.wrap a).tmod (IntKind.i32.wrap b) < 0) = decide (IntKind.i32.wrap b < 0))
      · refine (sums_0 a b).quiet hv ⟨ha, hb, ha, hb, ha, hb, ha, hb, ha, hb, ha, hb, ha, hb, fact_flags a b, ?_, ?_, trivial⟩
        · rw [hN, hX0', hw]
          exact ⟨c0, by omega, cr, by omega, by omega⟩
        · rw [hN, hX0']
          exact put_back ha hb (by omega) (by omega) he.symm
      · have c1 : (IntKind.i32.wrap a).tmod (IntKind.i32.wrap b) ≠ 0 := fun h => cr (.inl h)
        have c2 : IntKind.i32.wrap b ≠ -1 := fun h => c1 (by rw [h]; simp)
        have c3 : decide ((IntKind.i32.wrap a).tmod (IntKind.i32.wrap b) < 0) ≠ decide (IntKind.i32.wrap b < 0) := fun h => cr (.inr ⟨c2, h⟩)
        have c4 : (IntKind.i32.wrap a).tdiv (IntKind.i32.wrap b) ≠ -2147483648 := fun h => c1 (tdiv_low hA.1 hA.2 c0 h)
        have c5 : ((IntKind.i32.wrap a).tmod (IntKind.i32.wrap b) < 0) ≠ (IntKind.i32.wrap b < 0) := fun h => c3 (by simp only [h])
        have hw2 : IntKind.i64.wrap ((IntKind.i32.wrap a).tdiv (IntKind.i32.wrap b) - 1) = (IntKind.i32.wrap a).tdiv (IntKind.i32.wrap b) - 1 := i64_small (by omega) (by omega)
        have hs : -2147483648 ≤ (IntKind.i32.wrap a).tmod (IntKind.i32.wrap b) + IntKind.i32.wrap b ∧ (IntKind.i32.wrap a).tmod (IntKind.i32.wrap b) + IntKind.i32.wrap b ≤ 2147483647 := by
          by_cases h1 : (IntKind.i32.wrap a).tmod (IntKind.i32.wrap b) < 0
          · by_cases h2 : IntKind.i32.wrap b < 0
            · exact absurd (by simp only [h1, h2]) c5
            · omega
          · by_cases h2 : IntKind.i32.wrap b < 0
            · omega
            · exact absurd (by simp only [h1, h2]) c5
        have hw3 : IntKind.i64.wrap ((IntKind.i32.wrap a).tmod (IntKind.i32.wrap b) + IntKind.i32.wrap b) = (IntKind.i32.wrap a).tmod (IntKind.i32.wrap b) + IntKind.i32.wrap b := i64_small (by omega) (by omega)
        refine (sums_3 a b).quiet hv ⟨ha, hb, ha, hb, ha, hb, ha, hb, ha, hb, ha, hb, ha, hb, fact_flags a b, ?_, ?_, trivial⟩
        · rw [hN, hX3', hw, hw2]
          exact ⟨c0, c2, c1, c3, by omega, by omega⟩
        · rw [hN, hX3', hw, hw3]
          exact put_back ha hb hs (by omega) (by rw [Int.mul_sub, Int.mul_one]; omega)

theorem sums_lifted (os : Os) (started : os.Started) (H : Type) (enc : TypeId × Value → H) :
    ReturnsInHanded {} Try.checked os 4 .any (Rows.plainSumsSpec.pre6 enc Try.prog Try.f4 Rows.plainSumsRow.domain false) (Rows.plainSumsSpec.post enc Try.prog Try.f4 false true false false) := by
  refine returnsInHanded_of_change (C := Try.checked) own started (by kernel_rfl) Try.func4
    (ChangeSpec.witness6 (enc := enc) (C := Try.checked) false ⟨#[], #[.int .u32 0, .int .u32 0], []⟩ 8 (by kernel_rfl) (by kernel_rfl) (by kernel_rfl) (by kernel_rfl)) ?_
  intro W base args ds gs before hval0 hW hcnd _
  have hval : ∀ (j : Nat) t v, Try.f4.params[j]? = some t → args[j]? = some v → Value.okWide Try.prog W .any base t v := hval0
  have hW' := hW
  obtain ⟨p, q, hA0, hV, rfl, hfz, hnd⟩ := hW
  have hA : DataW.TrodAll enc Try.prog W 0 (fun _ => true) true Try.f4.params.toList args.toList ds p := hA0
  rw [Try.params4] at hA hval
  obtain ⟨v0, v1, d0, d1, p0, p1, rfl, rfl, rfl, h0, h1⟩ := trodAll_two hA
  obtain ⟨rfl, rfl⟩ := trodVars_none hV
  obtain ⟨a, rfl, rfl, rfl, wa⟩ := open_int Try.underlying23 (hval 0 23 v0 rfl rfl) h0
  obtain ⟨b, rfl, rfl, rfl, wb⟩ := open_int Try.underlying23 (hval 1 23 v1 rfl rfl) h1
  clear hA0 hval0
  simp only [List.append_nil] at hW'
  have ha : isU a := by
    simp only [Lit.wf, Bool.and_eq_true, decide_eq_true_eq] at wa
    exact wa
  have hb : isU b := by
    simp only [Lit.wf, Bool.and_eq_true, decide_eq_true_eq] at wb
    exact wb
  refine (law_of (vs := #[.int .u32 a, .int .u32 b]) (sums_can ha hb) ⟨int_arg, int_arg, trivial⟩ W).mono fun e W' ⟨he, hx⟩ => ?_
  subst he
  exact ⟨_, rfl, post_still (pa := []) (pv := []) hW' hx (fun _ _ _ => trodAll_mk1 (shut_bool Try.underlying4 true)) (fun sp _ => trodAll_mk2 (shut_int Try.underlying23 wa) (shut_int Try.underlying23 wb)) (fun _ _ => rfl) rfl
    (ok_one (by kernel_rfl) rfl (okWide_bool_mk Try.underlying4 true))⟩

theorem plainSums_holds : Rows.PlainSumsSaid :=
  OpenClaim.holds_of_wide 4 Try.f4 rfl rfl rfl rfl rfl rfl rfl ⟨rfl, rfl, rfl, rfl, rfl⟩ rfl rfl rfl rfl rfl (by kernel_rfl) Try.func4 (by kernel_rfl)
    (of_decide_eq_true (by kernel_rfl)) (by unfold Func.isWrapper; first | (rw [if_pos (by decide +kernel)]; kernel_rfl) | (rw [if_neg (by decide +kernel)]; exact ⟨rfl, rfl⟩))
    (fun os started H enc _ => sums_lifted os started H enc)

end Go.Proofs.Ytnoonoghemgbbaa.Sx

namespace Go.Proofs.Ytnoonoghemgbbaa
theorem plainSums_holds : Rows.PlainSumsSaid := Sx.plainSums_holds
end Go.Proofs.Ytnoonoghemgbbaa
