/-
  PlainMemory holds: whatever address and cells it is given, the law returns true, and what it was given reads as it did. Conditions: none.
-/
import Derived.Test.YtnoonoghemgbbaaPm8
set_option linter.unusedVariables false
set_option linter.unusedSimpArgs false
set_option maxRecDepth 100000
namespace Go.Proofs.Ytnoonoghemgbbaa.Sx
open Go Go.ChangeShapes Go.WideShapes Go.ChangeAt Go.RowKit

/-- The address, as the law reckons it. -/
def kx (i : Int) : Int := IntKind.u32.wrap (1048576 + IntKind.u32.wrap (IntKind.u32.wrap (i.tmod 6) * 4))

theorem kx_eq {i : Int} (h : 0 ≤ i) : kx i = kk i := by
  unfold kx kk
  rw [Int.tmod_eq_emod_of_nonneg h]
  simp only [IntKind.wrap_u32]
  omega

theorem kk_range (i : Int) : 1048576 ≤ kk i ∧ kk i ≤ 1048596 := by
  unfold kk
  omega

noncomputable abbrev memS (i a b : Int) : List (Nat × Sum Nob) := [(8, canonSum (becG (memL (kk i) a b))), (9, quietSum awakeG)]

theorem memS_ok {i a b : Int} (ha : isU a) (hb : isU b) : AllV Try.prog (memS i a b) := ⟨bec_valid (mem_all ha hb), awake_ok, trivial⟩

theorem memory_run (i a b : Int) : Good (quietE (E (memS i a b) 5 [.cell (.int .u8 i), .cell (.int .u32 a), .cell (.int .u32 b)] [] [0,1,0,0,0,1,1,0,0,1,2,0,0,1,3,0,0,1,4,0,0,1,5,0,0,1,6,0,0,1,7,0,0,0,0])) [43, 12, 12, 12, 12, 12, 12, 12]
    [(3, 3, 2, 2, 1, 1, 0, [kx i, a, kx i], [.str [33], .str [64]], [a]) = ((memC0 (kk i) a b).xs.length, (memC0 (kk i) a b).xs.length, (memC0 (kk i) a b).ns.length, (memC0 (kk i) a b).ns.length, (memC0 (kk i) a b).ys.length, (memC0 (kk i) a b).ys.length, (memC0 (kk i) a b).w, (memC0 (kk i) a b).xs, (memC0 (kk i) a b).ns, (memC0 (kk i) a b).ys),
    (5, 5, 3, 3, 1, 1, 0, [kx i, b, kx i, a, kx i], [.str [33], .str [43, 33], .str [64]], [IntKind.u32.wrap (a + b)]) = ((memC1 (kk i) a b).xs.length, (memC1 (kk i) a b).xs.length, (memC1 (kk i) a b).ns.length, (memC1 (kk i) a b).ns.length, (memC1 (kk i) a b).ys.length, (memC1 (kk i) a b).ys.length, (memC1 (kk i) a b).w, (memC1 (kk i) a b).xs, (memC1 (kk i) a b).ns, (memC1 (kk i) a b).ys),
    (4, 4, 2, 2, 2, 2, 0, [kx i, a, b, kx i], [.str [50, 33], .str [50, 64]], [a, b]) = ((memC2 (kk i) a b).xs.length, (memC2 (kk i) a b).xs.length, (memC2 (kk i) a b).ns.length, (memC2 (kk i) a b).ns.length, (memC2 (kk i) a b).ys.length, (memC2 (kk i) a b).ys.length, (memC2 (kk i) a b).w, (memC2 (kk i) a b).xs, (memC2 (kk i) a b).ns, (memC2 (kk i) a b).ys),
    (3, 3, 2, 2, 1, 1, 0, [kx i, a, kx i], [.str [67, 33], .str [67, 64]], [low8 a]) = ((memC3 (kk i) a b).xs.length, (memC3 (kk i) a b).xs.length, (memC3 (kk i) a b).ns.length, (memC3 (kk i) a b).ns.length, (memC3 (kk i) a b).ys.length, (memC3 (kk i) a b).ys.length, (memC3 (kk i) a b).w, (memC3 (kk i) a b).xs, (memC3 (kk i) a b).ns, (memC3 (kk i) a b).ys),
    (6, 6, 3, 3, 1, 1, 0, [IntKind.u32.wrap (kx i + 4), kx i, IntKind.u32.wrap (kx i + 4), 4, a, kx i], [.str [33], .str [77, 79, 86, 69], .str [64]], [a]) = ((memC4 (kk i) a b).xs.length, (memC4 (kk i) a b).xs.length, (memC4 (kk i) a b).ns.length, (memC4 (kk i) a b).ns.length, (memC4 (kk i) a b).ys.length, (memC4 (kk i) a b).ys.length, (memC4 (kk i) a b).w, (memC4 (kk i) a b).xs, (memC4 (kk i) a b).ns, (memC4 (kk i) a b).ys),
    (4, 4, 2, 2, 1, 1, 0, [kx i, kx i, 4, a], [.str [70, 73, 76, 76], .str [64]], [IntKind.u32.wrap (low8 a * 16843009)]) = ((memC5 (kk i) a b).xs.length, (memC5 (kk i) a b).xs.length, (memC5 (kk i) a b).ns.length, (memC5 (kk i) a b).ns.length, (memC5 (kk i) a b).ys.length, (memC5 (kk i) a b).ys.length, (memC5 (kk i) a b).w, (memC5 (kk i) a b).xs, (memC5 (kk i) a b).ns, (memC5 (kk i) a b).ys),
    (3, 3, 2, 2, 2, 2, 0, [kx i, a, kx i], [.str [33], .str [67, 79, 85, 78, 84]], [IntKind.u32.wrap (kx i + 1), low8 a]) = ((memC6 (kk i) a b).xs.length, (memC6 (kk i) a b).xs.length, (memC6 (kk i) a b).ns.length, (memC6 (kk i) a b).ns.length, (memC6 (kk i) a b).ys.length, (memC6 (kk i) a b).ys.length, (memC6 (kk i) a b).w, (memC6 (kk i) a b).xs, (memC6 (kk i) a b).ns, (memC6 (kk i) a b).ys),
    (1, 1, 1, 1, 1, 1, 0, [IntKind.u32.wrap (kx i + 3)], [.str [65, 76, 73, 71, 78, 69, 68]], [IntKind.u32.wrap (kx i + 4)]) = ((memC7 (kk i) a b).xs.length, (memC7 (kk i) a b).xs.length, (memC7 (kk i) a b).ns.length, (memC7 (kk i) a b).ns.length, (memC7 (kk i) a b).ys.length, (memC7 (kk i) a b).ys.length, (memC7 (kk i) a b).w, (memC7 (kk i) a b).xs, (memC7 (kk i) a b).ns, (memC7 (kk i) a b).ys)]
    (.cell (.bool true), []) := ⟨by kernel_rfl, by kernel_rfl⟩

theorem memory_can {i a b : Int} (hi : 0 ≤ i) (ha : isU a) (hb : isU b) : ∃ H' low, CanOk Try.prog 5 ([] : Heap Nob) [.cell (.int .u8 i), .cell (.int .u32 a), .cell (.int .u32 b)] (.cell (.bool true)) H' low := by
  have hk := kk_range i
  have e4 : IntKind.u32.wrap (kk i + 4) = kk i + 4 := by rw [IntKind.wrap_u32]; omega
  have e3 : IntKind.u32.wrap (kk i + 3) = kk i + 3 := by rw [IntKind.wrap_u32]; omega
  have e1 : IntKind.u32.wrap (kk i + 1) = kk i + 1 := by rw [IntKind.wrap_u32]; omega
  refine (memory_run i a b).quiet (E_valid (memS_ok ha hb) 5) ?_
  simp only [kx_eq hi, e4, e3, e1]
  exact ⟨rfl, rfl, rfl, rfl, rfl, rfl, rfl, rfl, trivial⟩

theorem memory_lifted (os : Os) (started : os.Started) (H : Type) (enc : TypeId × Value → H) :
    ReturnsInHanded {} Try.checked os 5 .any (Rows.plainMemorySpec.pre6 enc Try.prog Try.f5 Rows.plainMemoryRow.domain false) (Rows.plainMemorySpec.post enc Try.prog Try.f5 false true false false) := by
  refine returnsInHanded_of_change (C := Try.checked) own started (by kernel_rfl) Try.func5
    (ChangeSpec.witness6 (enc := enc) (C := Try.checked) false ⟨#[], #[.int .u8 0, .int .u32 0, .int .u32 0], []⟩ 8 (by kernel_rfl) (by kernel_rfl) (by kernel_rfl) (by kernel_rfl)) ?_
  intro W base args ds gs before hval0 hW hcnd _
  have hval : ∀ (j : Nat) t v, Try.f5.params[j]? = some t → args[j]? = some v → Value.okWide Try.prog W .any base t v := hval0
  have hW' := hW
  obtain ⟨p, q, hA0, hV, rfl, hfz, hnd⟩ := hW
  have hA : DataW.TrodAll enc Try.prog W 0 (fun _ => true) true Try.f5.params.toList args.toList ds p := hA0
  rw [Try.params5] at hA hval
  obtain ⟨v0, v1, v2, d0, d1, d2, p0, p1, p2, rfl, rfl, rfl, h0, h1, h2⟩ := trodAll_three hA
  obtain ⟨rfl, rfl⟩ := trodVars_none hV
  obtain ⟨i, rfl, rfl, rfl, wi⟩ := open_int Try.underlying5 (hval 0 5 v0 rfl rfl) h0
  obtain ⟨a, rfl, rfl, rfl, wa⟩ := open_int Try.underlying23 (hval 1 23 v1 rfl rfl) h1
  obtain ⟨b, rfl, rfl, rfl, wb⟩ := open_int Try.underlying23 (hval 2 23 v2 rfl rfl) h2
  clear hA0 hval0
  simp only [List.append_nil] at hW'
  have hi : 0 ≤ i := by
    simp only [Lit.wf, Bool.and_eq_true, decide_eq_true_eq] at wi
    exact wi.1
  have ha : isU a := by
    simp only [Lit.wf, Bool.and_eq_true, decide_eq_true_eq] at wa
    exact wa
  have hb : isU b := by
    simp only [Lit.wf, Bool.and_eq_true, decide_eq_true_eq] at wb
    exact wb
  refine (law_of (vs := #[.int .u8 i, .int .u32 a, .int .u32 b]) (memory_can hi ha hb) ⟨int_arg, int_arg, int_arg, trivial⟩ W).mono fun e W' ⟨he, hx⟩ => ?_
  subst he
  exact ⟨_, rfl, post_still (pa := []) (pv := []) hW' hx (fun _ _ _ => trodAll_mk1 (shut_bool Try.underlying4 true)) (fun sp _ => trodAll_mk3 (shut_int Try.underlying5 wi) (shut_int Try.underlying23 wa) (shut_int Try.underlying23 wb)) (fun _ _ => rfl) rfl
    (ok_one (by kernel_rfl) rfl (okWide_bool_mk Try.underlying4 true))⟩

theorem plainMemory_holds : Rows.PlainMemorySaid :=
  OpenClaim.holds_of_wide 5 Try.f5 rfl rfl rfl rfl rfl rfl rfl ⟨rfl, rfl, rfl, rfl, rfl⟩ rfl rfl rfl rfl rfl (by kernel_rfl) Try.func5 (by kernel_rfl)
    (of_decide_eq_true (by kernel_rfl)) (by unfold Func.isWrapper; first | (rw [if_pos (by decide +kernel)]; kernel_rfl) | (rw [if_neg (by decide +kernel)]; exact ⟨rfl, rfl⟩))
    (fun os started H enc _ => memory_lifted os started H enc)

end Go.Proofs.Ytnoonoghemgbbaa.Sx

namespace Go.Proofs.Ytnoonoghemgbbaa
theorem plainMemory_holds : Rows.PlainMemorySaid := Sx.plainMemory_holds
end Go.Proofs.Ytnoonoghemgbbaa
