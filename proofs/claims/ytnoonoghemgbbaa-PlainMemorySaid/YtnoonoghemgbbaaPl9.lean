/-
  PlainNone holds: whatever number it is given, the law returns true, and what it was given reads as it did. Conditions: none.
-/
import Derived.Test.YtnoonoghemgbbaaPl8
import Derived.Test.YtnoonoghemgbbaaRows
set_option linter.unusedVariables false
set_option linter.unusedSimpArgs false
set_option maxRecDepth 100000
namespace Go.Proofs.Ytnoonoghemgbbaa.Sx
open Go Go.ChangeShapes Go.WideShapes Go.ChangeAt Go.RowKit

abbrev s6 : List (Nat × Sum Nob) := [(17, quietSum getG), (22, quietSum namedG), (8, canonSum (becG awakeBecs))]
theorem s6_ok : AllV Try.prog s6 := ⟨get_ok, named_ok, bec_valid awakeBecs_ok, trivial⟩

theorem awake_run : Good (quietE (E s6 9 [] [] [0, 1, 1, 1, 1, 1, 1, 1, 1, 1, 1, 1, 1, 1, 1, 1, 1, 2, 1, 1, 1, 1, 1, 3, 1, 1, 1, 1, 1, 1, 4, 1, 1, 1, 1, 1, 5, 1, 1, 1, 1, 1, 6, 1, 1, 1, 1, 1, 7, 1, 1, 1, 1, 1, 8, 1])) [] []
    (.cell (.bool true), []) := ⟨by kernel_rfl, by kernel_rfl⟩

def awakeG : List AV → Option (List QWay)
  | [] => some [⟨[], true, .cell (.bool true)⟩]
  | _ => none

theorem awake_ok : Valid Try.prog 9 (quietSum (D := Nob) awakeG) := quiet_of fun args l h => by
  unfold awakeG at h
  split at h
  · cases h
    exact ⟨rfl, fun _ => ⟨rfl, awake_run.quiet (E_valid s6_ok 9) trivial⟩, trivial⟩
  · cases h

/-- From a run over no heap to what a law says. -/
theorem law_of {f : FuncId} {args : List AV} {vs : Array Value} (h : ∃ H' low, CanOk Try.prog f ([] : Heap Nob) args (.cell (.bool true)) H' low) (ha : All2 (RV []) args vs.toList) (W : World) :
    Calls Try.prog f vs W fun e W' => e = .returned (.bool true) ∧ Ext W W' fun _ => False := by
  obtain ⟨H', low, h⟩ := h
  refine (h [] W vs (Rel.nil W) ha).mono fun e W' he => ?_
  obtain ⟨r, ρ', rfl, hs, hr⟩ := he
  have hr : r = .bool true := hr
  subst hr
  refine ⟨rfl, hs.ext.mono fun k hk o => ?_⟩
  obtain ⟨id, b, F, idx, _, hb, _⟩ := o
  simp at hb

theorem int_arg {k : IntKind} {n : Int} : RV [] (.cell (.int k n)) (.int k n) := rfl

theorem own : ownKnob Try.prog.godebug = none := by kernel_rfl

abbrev s7 : List (Nat × Sum Nob) := [(14, quietSum doNilG), (9, quietSum awakeG)]
theorem s7_ok : AllV Try.prog s7 := ⟨doNil_ok, awake_ok, trivial⟩

noncomputable abbrev none_run (n : Int) (d : Dec) := quietE (E s7 6 [.cell (.int .u32 n)] [] d)
theorem none_1 (n : Int) : Good (none_run n [1, 1, 1, 1, 1, 1, 0, 0, 1, 1, 1, 1, 1, 0, 1]) [0, 5, 0, 1] [n ≤ 4294967295 ∧ ¬(1 ≤ n ∧ n ≤ 73), (decide (n < 1) == false) = false, (decide (n < 1) == false) = false, decide (n < 1) = true]
    (.cell (.bool true), []) := ⟨by kernel_rfl, by kernel_rfl⟩
theorem none_2 (n : Int) : Good (none_run n [0, 1, 1, 1, 1, 1, 1, 1, 1, 0, 1, 1, 1, 0, 1]) [0, 5, 0, 1, 2, 0] [1 ≤ n ∧ n ≤ 73, (decide (n < 1) == false) = true, (decide (n < 1) == false) = true, decide (n < 1) = false,
    ((((-4 : Int) == -13) == decide (n > 73)) == true) = true, (((-4 : Int) == -13) == decide (n > 73)) = true]
    (.cell (.bool true), []) := ⟨by kernel_rfl, by kernel_rfl⟩
theorem none_3 (n : Int) : Good (none_run n [1, 1, 1, 1, 1, 1, 1, 1, 1, 0, 1, 1, 1, 0, 1]) [0, 5, 0, 1, 2, 0] [n ≤ 4294967295 ∧ ¬(1 ≤ n ∧ n ≤ 73), (decide (n < 1) == false) = true, (decide (n < 1) == false) = true, decide (n < 1) = false,
    ((((-13 : Int) == -13) == decide (n > 73)) == true) = true, (((-13 : Int) == -13) == decide (n > 73)) = true]
    (.cell (.bool true), []) := ⟨by kernel_rfl, by kernel_rfl⟩

theorem none_can (n : Int) (hn : n ≤ 4294967295) : ∃ H' low, CanOk Try.prog 6 ([] : Heap Nob) [.cell (.int .u32 n)] (.cell (.bool true)) H' low := by
  have hv := E_valid s7_ok 6
  by_cases h1 : n < 1
  · exact (none_1 n).quiet hv ⟨⟨hn, by omega⟩, by simp [h1], by simp [h1], by simp [h1], trivial⟩
  · by_cases h2 : n ≤ 73
    · have e : ((-4 : Int) == -13) = false := rfl
      exact (none_2 n).quiet hv ⟨⟨by omega, h2⟩, by simp [h1], by simp [h1], by simp [h1], by rw [e]; simp; omega, by rw [e]; simp; omega, trivial⟩
    · exact (none_3 n).quiet hv ⟨⟨hn, by omega⟩, by simp [h1], by simp [h1], by simp [h1], by simp; omega, by simp; omega, trivial⟩

theorem none_lifted (os : Os) (started : os.Started) (H : Type) (enc : TypeId × Value → H) :
    ReturnsInHanded {} Try.checked os 6 .any (Rows.plainNoneSpec.pre6 enc Try.prog Try.f6 Rows.plainNoneRow.domain false) (Rows.plainNoneSpec.post enc Try.prog Try.f6 false true false false) := by
  refine returnsInHanded_of_change (C := Try.checked) own started (by kernel_rfl) Try.func6
    (ChangeSpec.witness6 (enc := enc) (C := Try.checked) false ⟨#[], #[.int .u32 0], []⟩ 8 (by kernel_rfl) (by kernel_rfl) (by kernel_rfl) (by kernel_rfl)) ?_
  intro W base args ds gs before hval0 hW hcnd _
  have hval : ∀ (j : Nat) t v, Try.f6.params[j]? = some t → args[j]? = some v → Value.okWide Try.prog W .any base t v := hval0
  have hW' := hW
  obtain ⟨p, q, hA0, hV, rfl, hfz, hnd⟩ := hW
  have hA : DataW.TrodAll enc Try.prog W 0 (fun _ => true) true Try.f6.params.toList args.toList ds p := hA0
  rw [Try.params6] at hA hval
  obtain ⟨v0, d0, rfl, rfl, h0⟩ := trodAll_one hA
  obtain ⟨rfl, rfl⟩ := trodVars_none hV
  obtain ⟨a, rfl, rfl, rfl, wa⟩ := open_int Try.underlying23 (hval 0 23 v0 rfl rfl) h0
  clear hA0 hval0
  simp only [List.append_nil] at hW'
  have hn : a ≤ 4294967295 := by
    simp only [Lit.wf, Bool.and_eq_true, decide_eq_true_eq] at wa
    exact wa.2
  refine (law_of (vs := #[.int .u32 a]) (none_can a hn) ⟨int_arg, trivial⟩ W).mono fun e W' ⟨he, hx⟩ => ?_
  subst he
  exact ⟨_, rfl, post_still (pa := []) (pv := []) hW' hx (fun _ _ _ => trodAll_mk1 (shut_bool Try.underlying4 true)) (fun sp _ => trodAll_mk1 (shut_int Try.underlying23 wa)) (fun _ _ => rfl) rfl
    (ok_one (by kernel_rfl) rfl (okWide_bool_mk Try.underlying4 true))⟩

theorem plainNone_holds : Rows.PlainNoneSaid :=
  OpenClaim.holds_of_wide 6 Try.f6 rfl rfl rfl rfl rfl rfl rfl ⟨rfl, rfl, rfl, rfl, rfl⟩ rfl rfl rfl rfl rfl (by kernel_rfl) Try.func6 (by kernel_rfl)
    (of_decide_eq_true (by kernel_rfl)) (by unfold Func.isWrapper; first | (rw [if_pos (by decide +kernel)]; kernel_rfl) | (rw [if_neg (by decide +kernel)]; exact ⟨rfl, rfl⟩))
    (fun os started H enc _ => none_lifted os started H enc)

end Go.Proofs.Ytnoonoghemgbbaa.Sx

namespace Go.Proofs.Ytnoonoghemgbbaa
theorem plainNone_holds : Rows.PlainNoneSaid := Sx.plainNone_holds
end Go.Proofs.Ytnoonoghemgbbaa
