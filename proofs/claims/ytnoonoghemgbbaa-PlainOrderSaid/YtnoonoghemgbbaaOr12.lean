import Derived.Test.YtnoonoghemgbbaaOr11
import Derived.Test.YtnoonoghemgbbaaRows
/-
  PlainNone holds: whatever number it is given, the law returns true, and what it was given reads as it did. Conditions: none.
-/
set_option linter.unusedVariables false
set_option linter.unusedSimpArgs false
set_option maxRecDepth 100000
namespace Go.Proofs.Ytnoonoghemgbbaa.Sx
open Go Go.ChangeShapes Go.WideShapes Go.ChangeAt Go.RowKit

abbrev s6 : List (Nat × Sum Nob) := [(17, quietSum getG), (22, quietSum namedG), (8, canonSum (becG awakeBecs))]
theorem s6_ok : AllV Try.prog s6 := ⟨get_ok, named_ok, bec_valid awakeBecs_ok, trivial⟩

theorem awake_run : Good (quietE (E s6 9 [] [] [0, 1, 1, 1, 1, 1, 1, 1, 1, 1, 1, 1, 1, 1, 1, 1, 1, 2, 1, 1, 1, 1, 1, 3, 1, 1, 1, 1, 1, 1, 4, 1, 1, 1, 1, 1, 5, 1, 1, 1, 1, 1, 6, 1, 1, 1, 1, 1, 7, 1, 1, 1, 1, 1, 8, 1])) [] []
    (.cell (.bool true), []) := ⟨by kernel_rfl, by kernel_rfl⟩

def awakeG : List AV → Option (List QWay)
  | [] => some [⟨[], true, .cell (.bool true)⟩]
  | _ => none

theorem awake_ok : Valid Try.prog 9 (quietSum (D := Nob) awakeG) := quiet_of fun args l h => by
  unfold awakeG at h
  split at h
  · cases h
    exact ⟨rfl, fun _ => ⟨rfl, awake_run.quiet (E_valid s6_ok 9) trivial⟩, trivial⟩
  · cases h

/-- From a run over no heap to what a law says. -/
theorem law_of {f : FuncId} {args : List AV} {vs : Array Value} (h : ∃ H' low, CanOk Try.prog f ([] : Heap Nob) args (.cell (.bool true)) H' low) (ha : All2 (RV []) args vs.toList) (W : World) :
    Calls Try.prog f vs W fun e W' => e = .returned (.bool true) ∧ Ext W W' fun _ => False := by
  obtain ⟨H', low, h⟩ := h
  refine (h [] W vs (Rel.nil W) ha).mono fun e W' he => ?_
  obtain ⟨r, ρ', rfl, hs, hr⟩ := he
  have hr : r = .bool true := hr
  subst hr
  refine ⟨rfl, hs.ext.mono fun k hk o => ?_⟩
  obtain ⟨id, b, F, idx, _, hb, _⟩ := o
  simp at hb

theorem int_arg {k : IntKind} {n : Int} : RV [] (.cell (.int k n)) (.int k n) := rfl

theorem own : ownKnob Try.prog.godebug = none := by kernel_rfl

abbrev s7 : List (Nat × Sum Nob) := [(14, quietSum doNilG), (9, quietSum awakeG)]
theorem s7_ok : AllV Try.prog s7 := ⟨doNil_ok, awake_ok, trivial⟩

noncomputable abbrev none_run (n : Int) (d : Dec) := quietE (E s7 6 [.cell (.int .u32 n)] [] d)
theorem none_1 (n : Int) : Good (none_run n [1, 1, 1, 1, 1, 1, 0, 0, 1, 1, 1, 1, 1, 0, 1]) [0, 5, 0, 1] [n ≤ 4294967295 ∧ ¬(1 ≤ n ∧ n ≤ 73), (decide (n < 1) == false) = false, (decide (n < 1) == false) = false, decide (n < 1) = true]
    (.cell (.bool true), []) := ⟨by kernel_rfl, by kernel_rfl⟩
theorem none_2 (n : Int) : Good (none_run n [0, 1, 1, 1, 1, 1, 1, 1, 1, 0, 1, 1, 1, 0, 1]) [0, 5, 0, 1, 2, 0] [1 ≤ n ∧ n ≤ 73, (decide (n < 1) == false) = true, (decide (n < 1) == false) = true, decide (n < 1) = false,
    ((((-4 : Int) == -13) == decide (n > 73)) == true) = true, (((-4 : Int) == -13) == decide (n > 73)) = true]
    (.cell (.bool true), []) := ⟨by kernel_rfl, by kernel_rfl⟩
theorem none_3 (n : Int) : Good (none_run n [1, 1, 1, 1, 1, 1, 1, 1, 1, 0, 1, 1, 1, 0, 1]) [0, 5, 0, 1, 2, 0] [n ≤ 4294967295 ∧ ¬(1 ≤ n ∧ n ≤ 73), (decide (n < 1) == false) = true, (decide (n < 1) == false) = true, decide (n < 1) = false,
    ((((-13 : Int) == -13) == decide (n > 73)) == true) = true, (((-13 : Int) == -13) == decide (n > 73)) = true]
    (.cell (.bool true), []) := ⟨by kernel_rfl, by kernel_rfl⟩

theorem none_can (n : Int) (hn : n ≤ 4294967295) : ∃ H' low, CanOk Try.prog 6 ([] : Heap Nob) [.cell (.int .u32 n)] (.cell (.bool true)) H' low := by
  have hv := E_valid s7_ok 6
  by_cases h1 : n < 1
  · exact (none_1 n).quiet hv ⟨⟨hn, by omega⟩, by simp [h1], by simp [h1], by simp [h1], trivial⟩
  · by_cases h2 : n ≤ 73
    · have e : ((-4 : Int) == -13) = false := rfl
      exact (none_2 n).quiet hv ⟨⟨by omega, h2⟩, by simp [h1], by simp [h1], by simp [h1], by rw [e]; simp; omega, by rw [e]; simp; omega, trivial⟩
    · exact (none_3 n).quiet hv ⟨⟨hn, by omega⟩, by simp [h1], by simp [h1], by simp [h1], by simp; omega, by simp; omega, trivial⟩

theorem none_lifted (os : Os) (started : os.Started) (H : Type) (enc : TypeId × Value → H) :
    ReturnsInHanded {} Try.checked os 6 .any (Rows.plainNoneSpec.pre6 enc Try.prog Try.f6 Rows.plainNoneRow.domain false) (Rows.plainNoneSpec.post enc Try.prog Try.f6 false true false false) := by
  refine returnsInHanded_of_change (C := Try.checked) own started (by kernel_rfl) Try.func6
    (ChangeSpec.witness6 (enc := enc) (C := Try.checked) false ⟨#[], #[.int .u32 0], []⟩ 8 (by kernel_rfl) (by kernel_rfl) (by kernel_rfl) (by kernel_rfl)) ?_
  intro W base args ds gs before hval0 hW hcnd _
  have hval : ∀ (j : Nat) t v, Try.f6.params[j]? = some t → args[j]? = some v → Value.okWide Try.prog W .any base t v := hval0
  have hW' := hW
  obtain ⟨p, q, hA0, hV, rfl, hfz, hnd⟩ := hW
  have hA : DataW.TrodAll enc Try.prog W 0 (fun _ => true) true Try.f6.params.toList args.toList ds p := hA0
  rw [Try.params6] at hA hval
  obtain ⟨v0, d0, rfl, rfl, h0⟩ := trodAll_one hA
  obtain ⟨rfl, rfl⟩ := trodVars_none hV
  obtain ⟨a, rfl, rfl, rfl, wa⟩ := open_int Try.underlying23 (hval 0 23 v0 rfl rfl) h0
  clear hA0 hval0
  simp only [List.append_nil] at hW'
  have hn : a ≤ 4294967295 := by
    simp only [Lit.wf, Bool.and_eq_true, decide_eq_true_eq] at wa
    exact wa.2
  refine (law_of (vs := #[.int .u32 a]) (none_can a hn) ⟨int_arg, trivial⟩ W).mono fun e W' ⟨he, hx⟩ => ?_
  subst he
  exact ⟨_, rfl, post_still (pa := []) (pv := []) hW' hx (fun _ _ _ => trodAll_mk1 (shut_bool Try.underlying4 true)) (fun sp _ => trodAll_mk1 (shut_int Try.underlying23 wa)) (fun _ _ => rfl) rfl
    (ok_one (by kernel_rfl) rfl (okWide_bool_mk Try.underlying4 true))⟩

theorem plainNone_holds : Rows.PlainNoneSaid :=
  OpenClaim.holds_of_wide 6 Try.f6 rfl rfl rfl rfl rfl rfl rfl ⟨rfl, rfl, rfl, rfl, rfl⟩ rfl rfl rfl rfl rfl (by kernel_rfl) Try.func6 (by kernel_rfl)
    (of_decide_eq_true (by kernel_rfl)) (by unfold Func.isWrapper; first | (rw [if_pos (by decide +kernel)]; kernel_rfl) | (rw [if_neg (by decide +kernel)]; exact ⟨rfl, rfl⟩))
    (fun os started H enc _ => none_lifted os started H enc)

end Go.Proofs.Ytnoonoghemgbbaa.Sx

namespace Go.Proofs.Ytnoonoghemgbbaa
theorem plainNone_holds : Rows.PlainNoneSaid := Sx.plainNone_holds
end Go.Proofs.Ytnoonoghemgbbaa

/-
  PlainOrder: part 3: the summary of 'becomes'.
-/
set_option maxRecDepth 100000
set_option linter.unusedVariables false
set_option linter.unusedSimpArgs false
namespace Go.Proofs.Ytnoonoghemgbbaa.Sx
open Go

def ordT : List (List Cell) := [ord0N, ord1N, ord2N, ord3N, ord4N, ord5N, ord6N, ord7N, ord8N, ord9N, ord10N, ord11N, ord12N]

theorem ordT_ok {xs : List Int} {k : Nat} (hk : k = xs.length) (h1 : 4 ≤ k) (h2 : k ≤ 14) (hc : cellsOk xs) : ∀ N ∈ ordT, CanOk Try.prog 8 (ordH xs N) (ordA N.length k) (.cell (.bool true)) (ordH xs N) 0 := by
  simp only [ordT, List.mem_cons, List.not_mem_nil, or_false, forall_eq_or_imp, forall_eq]
  exact ⟨ord0_ok hk h1 h2 hc, ord1_ok hk h1 h2 hc, ord2_ok hk h1 h2 hc, ord3_ok hk h1 h2 hc, ord4_ok hk h1 h2 hc, ord5_ok hk h1 h2 hc, ord6_ok hk h1 h2 hc, ord7_ok hk h1 h2 hc, ord8_ok hk h1 h2 hc, ord9_ok hk h1 h2 hc, ord10_ok hk h1 h2 hc, ord11_ok hk h1 h2 hc, ord12_ok hk h1 h2 hc⟩

def ordWay (k n n' k2 : Nat) (xs : List Int) (ns N : List Cell) : Way Nob :=
  ⟨[cq (n, n', ns) (N.length, N.length, N), cd (k = xs.length ∧ k2 = k ∧ 4 ≤ k ∧ k ≤ 14 ∧ cellsOk xs)], nameB ns N, .cell (.bool true), ordH xs N, 0⟩

def ordWay2 (f : List Int → List Int) (k n n' k2 : Nat) (xs : List Int) (ys : List Int) (ns N : List Cell) : Way Nob :=
  ⟨[cq (n, n', ns) (N.length, N.length, N), cd (k = xs.length ∧ k2 = ys.length ∧ 4 ≤ k ∧ k ≤ 14 ∧ cellsOk xs ∧ ys = xs ++ f xs)], nameB ns N, .cell (.bool true), ordH2 xs N ys, 0⟩

def ordG : List AV → View → Option (List (Way Nob))
  | [.cell (.slice false 0 0 0 k none 1), .cell (.slice false 1 0 0 n (some n') 1), .cell (.slice false 0 0 0 k2 none 1), .cell (.int .i32 0)], [(true, .ints .u32 xs), (true, .raw ns)] =>
    some (ordT.map (ordWay k n n' k2 xs ns))
  | [.cell (.slice false 0 0 0 k none 1), .cell (.slice false 1 0 0 n (some n') 1), .cell (.slice false 2 0 0 k2 none 1), .cell (.int .i32 0)], [(true, .ints .u32 xs), (true, .raw ns), (true, .ints .u32 ys)] =>
    some [ordWay2 (fun l => [top l 0, top l 1]) k n n' k2 xs ys ns ord13N, ordWay2 (fun l => [top l 1, top l 0]) k n n' k2 xs ys ns ord14N]
  | _, _ => none

theorem ordG_ok : Valid Try.prog 8 (canonSum ordG) := canon_of fun args Hc ws h => by
  unfold ordG at h
  split at h
  · cases h
    refine WaysOk.of_all fun y hy hc => ?_
    obtain ⟨N, hm, rfl⟩ := List.mem_map.1 hy
    obtain ⟨e, ⟨h1, h2, h3, h4, h5⟩, _⟩ := hc
    simp only [ordWay, Prod.mk.injEq] at e
    obtain ⟨rfl, rfl, rfl⟩ := e
    subst h2
    exact ordT_ok h1 h3 h4 h5 _ hm
  · cases h
    refine ⟨fun hc => ?_, fun hc => ?_, trivial⟩
    · obtain ⟨e, ⟨h1, h2, h3, h4, h5, h6⟩, _⟩ := hc
      simp only [ordWay2, Prod.mk.injEq] at e
      obtain ⟨rfl, rfl, rfl⟩ := e
      exact ord13_ok h2 h6 h1 h3 h4 h5
    · obtain ⟨e, ⟨h1, h2, h3, h4, h5, h6⟩, _⟩ := hc
      simp only [ordWay2, Prod.mk.injEq] at e
      obtain ⟨rfl, rfl, rfl⟩ := e
      exact ord14_ok h2 h6 h1 h3 h4 h5
  · cases h

noncomputable abbrev sP : List (Nat × Sum Nob) := [(8, canonSum ordG), (9, quietSum awakeG)]
theorem sP_ok : AllV Try.prog sP := ⟨ordG_ok, awake_ok, trivial⟩

end Go.Proofs.Ytnoonoghemgbbaa.Sx

/-
  From a run over what a call was given to what a law says.
-/
set_option maxRecDepth 100000
set_option linter.unusedVariables false
set_option linter.unusedSimpArgs false
namespace Go.Proofs.Ytnoonoghemgbbaa.Sx
open Go Go.ChangeShapes Go.WideShapes Go.ChangeAt Go.RowKit

/-- What was given reads as it did. -/
theorem trodAll_stays {Hh : Type} {enc : TypeId × Value → Hh} {P : Program} (hl : laidOutB P = true) {W W' : World} (hx : Ext W W' fun _ => False) {sp : Nat → Bool} :
    ∀ {ts : List TypeId} {vs : List Value} {ds : List (DataW Hh)} {ps : List MemPlace}, (ts.all fun t => P.readableRec t && decide (t < P.types.size)) = true → DataW.TrodAll enc P W 0 (fun _ => true) true ts vs ds ps →
      (∀ p ∈ ps, p.block < W.heap.size) → (∀ p ∈ ps, sp p.block = true) → DataW.TrodAll enc P W' 0 sp true ts vs ds ps
  | [], vs, ds, ps, _, h, _, _ => by
    obtain ⟨rfl, rfl, rfl⟩ := trodAll_nil h
    exact rfl
  | t :: ts, vs, ds, ps, ht, h, hlt, hsp => by
    obtain ⟨v, vs', d, ds', p, q, rfl, rfl, rfl, hd, hrest⟩ := trodAll_cons h
    simp only [List.all_cons, Bool.and_eq_true, decide_eq_true_eq] at ht
    obtain ⟨⟨h1, h2⟩, h3⟩ := ht
    have hb : Below W.heap.size W W' := ⟨hx.os, hx.tape, hx.output, hx.size, fun k hk => hx.block k hk id⟩
    refine ⟨p, q, WideElems.Trod_stays hl h1 h2 hd (fun x hx' => hb.same (hlt x (List.mem_append_left _ hx'))) (fun x hx' => hsp x (List.mem_append_left _ hx')), ?_, rfl⟩
    exact trodAll_stays hl hx (by rw [List.all_eq_true]; simpa using h3) hrest (fun x hx' => hlt x (List.mem_append_right _ hx')) fun x hx' => hsp x (List.mem_append_right _ hx')

/-- From a run over blocks that are only read to what a law says. -/
theorem law_ofH {f : FuncId} {args : List AV} {vs : Array Value} {H : Heap Nob} {ρ : Map} (hno : ∀ (id : Nat) (b : Blk Nob), H[id]? = some (some b) → b.own = false)
    (h : ∃ H' low, CanOk Try.prog f H args (.cell (.bool true)) H' low) (W : World) (r : Rel ρ H W) (ha : All2 (RV ρ) args vs.toList) :
    Calls Try.prog f vs W fun e W' => e = .returned (.bool true) ∧ Ext W W' fun _ => False := by
  obtain ⟨H', low, h⟩ := h
  refine (h ρ W vs r ha).mono fun e W' he => ?_
  obtain ⟨rv, ρ', rfl, hs, hr⟩ := he
  have hr : rv = .bool true := hr
  subst hr
  refine ⟨rfl, hs.ext.mono fun k hk o => ?_⟩
  obtain ⟨id, b, F, idx, _, hb, ho, _⟩ := o
  rw [hno id b hb] at ho
  cases ho

theorem int_argH {ρ : Map} {k : IntKind} {n : Int} : RV ρ (.cell (.int k n)) (.int k n) := rfl

/-- Where a slice's numbers lie. -/
def sliceLoc (blk off cap : Nat) : Loc := { blk := blk, sh := off, fin := off + cap, foot := fun k => k = blk, aux := default }

/-- A slice of numbers that came in: either it is empty, or its numbers lie in a block. -/
inductive Came (W : World) (k : IntKind) (v : Value) (xs : List Int) : Prop
  | empty : xs = [] → (∀ ρ, RV ρ (.cell .empty) v) → Came W k v xs
  | full (zs : List Int) (L : Loc) : 0 < xs.length → xs = zs.take xs.length → (∀ n ∈ zs, k.min ≤ n ∧ n ≤ k.max) → (∀ ρ, CellsAt ρ W L false (.ints k zs)) → (∀ (ρ : Map) (id : Nat), ρ[id]? = some (fun _ => L) → RV ρ (.cell (.slice false id 0 0 xs.length none 1)) v) → Came W k v xs

theorem came_ints {Hh : Type} {enc : TypeId × Value → Hh} {t e : TypeId} {k : IntKind} {W : World} {base : Nat} {v : Value} {d : DataW Hh} {ps : List MemPlace} (ht : Try.prog.underlying t = some (.slice e)) (he : Try.prog.underlying e = some (.int k)) (hc : Try.prog.cellsOf e = 1)
    (hval : Value.okWide Try.prog W .any base t v) (h : DataW.Trod enc Try.prog W 0 (fun _ => true) true t v d ps) : ∃ xs, Came W k v xs := by
  obtain ⟨a0, len, cap, rfl⟩ := okWide_slice ht hval
  obtain ⟨fuel, hf⟩ := h
  rcases open_ints ht he hc hf with ⟨hcs, hx⟩ | ⟨a, len', cap', zs, hcs, _, hl, hm, hz, hx, hcell, hwz⟩
  · simp [Value.cells] at hcs
    obtain ⟨rfl, rfl, rfl⟩ := hcs
    exact ⟨[], .empty rfl fun ρ => .inl rfl⟩
  · simp [Value.cells] at hcs
    obtain ⟨rfl, rfl, rfl⟩ := hcs
    simp only [if_true] at hz
    rcases Nat.eq_zero_or_pos len with h0 | h0
    · subst h0
      exact ⟨[], .empty rfl fun ρ => .inr ⟨_, _, rfl⟩⟩
    · obtain ⟨b, off, spot⟩ := a
      have hspot : spot = none := by simpa [Addr.add] using World.cell?_spot (hcell 0 (by omega))
      subst hspot
      have cj : ∀ j, j < zs.length → W.cell? ⟨b, off + j, none⟩ = some (.int k (zs.getD j 0)) := fun j hj => by rw [← add_plain]; exact hcell j hj
      have hb : b < W.heap.size := by
        have := cj 0 (by omega)
        rcases Nat.lt_or_ge b W.heap.size with h | h
        · exact h
        · have e : W.heap[b]? = none := by simp; omega
          simp [World.cell?, e] at this
      have hlen : (zs.take len).length = len := by simp; omega
      refine ⟨zs.take len, .full zs (sliceLoc b off cap) (by omega) (by rw [hlen]) (fun n hn => ?_) (fun ρ => ⟨?_, fun _ => rfl, fun k hk => by cases hk; exact hb, ?_, fun h => by cases h⟩) fun ρ id hF => ?_⟩
      · have := hwz n hn
        simpa [Lit.wf] using this
      · trivial
      · intro j x hj
        obtain ⟨n, hn, rfl⟩ := hj
        have hlt := (List.getElem?_eq_some_iff.1 hn).1
        exact ⟨_, cj j hlt, by rw [List.getD_eq_getElem?_getD, hn]; rfl⟩
      · rw [hlen]
        exact .inr ⟨rfl, _, cap, hF, by simp [sliceLoc], hl, by simp [sliceLoc]⟩

/-- One block that is only read. -/
theorem Rel.readOnly {W : World} {L : Loc} {c : Cont} (h : ∀ ρ, CellsAt ρ W L false c) : Rel [fun _ => L] ([some (.cells false 1 fun _ => c)] : Heap Nob) W := by
  refine ⟨rfl, ?_, ?_⟩
  · intro id b F idx hb hF
    have hi : id = 0 := by have := (List.getElem?_eq_some_iff.1 hb).1; simp at this; omega
    subst hi
    simp only [List.getElem?_cons_zero, Option.some.injEq] at hb hF
    subst hb hF
    exact fun _ => h _
  · intro id b F idx id' b' F' idx' hb hF hl ho
    have hi : id = 0 := by have := (List.getElem?_eq_some_iff.1 hb).1; simp at this; omega
    subst hi
    simp only [List.getElem?_cons_zero, Option.some.injEq] at hb
    subst hb
    cases ho

theorem readOnly_no {c : Cont} : ∀ (id : Nat) (b : Blk Nob), ([some (.cells false 1 fun _ => c)] : Heap Nob)[id]? = some (some b) → b.own = false := by
  intro id b hb
  have hi : id = 0 := by have := (List.getElem?_eq_some_iff.1 hb).1; simp at this; omega
  subst hi
  simp only [List.getElem?_cons_zero, Option.some.injEq] at hb
  subst hb
  rfl

end Go.Proofs.Ytnoonoghemgbbaa.Sx

/-
  PlainOrder holds.
-/
set_option maxRecDepth 100000
set_option linter.unusedVariables false
set_option linter.unusedSimpArgs false
namespace Go.Proofs.Ytnoonoghemgbbaa.Sx
open Go Go.ChangeShapes Go.WideShapes Go.ChangeAt Go.RowKit

noncomputable abbrev evP (f : FuncId) (a : List AV) (H : Heap Nob) (d : Dec) := trimF 1 (E sP f a H d)
noncomputable abbrev evP0 (f : FuncId) (a : List AV) (H : Heap Nob) (d : Dec) := trimF 0 (E sP f a H d)
abbrev u32 (n : Int) : AV := .cell (.int .u32 n)
def pqArgs (k : Nat) (a b c d : Int) : List AV := [SLc 0 k none, u32 a, u32 b, u32 c, u32 d]
def pqArgs0 (a b c d : Int) : List AV := [.cell .empty, u32 a, u32 b, u32 c, u32 d]
def pqH (zs : List Int) : Heap Nob := [some (.cells false 1 fun _ => .ints .u32 zs)]
abbrev q10 (k : Nat) : Nat := (if (10 : Int) < (k : Int) then (10 : Int) else (k : Int)).toNat

theorem pq_1 (zs : List Int) (k : Nat) (a : Int) (b : Int) (c : Int) (d : Int) : Good (evP 3 (pqArgs k a b c d) (pqH zs) [0, 0, 2, 0, 1, 0, 0, 0, 1, 1, 0, 0, 1, 2, 0, 0, 1, 3, 0, 0, 1, 4, 0, 0, 1, 5, 0, 0, 1, 6, 0, 0, 1, 7, 0, 0, 1, 8, 0, 0, 1, 9, 0, 0, 1, 10, 0, 0, 1, 11, 0, 0, 1, 12, 0, 0, 0, 0, 2, 0, 1, 1, 1, 1, 1, 0, 1, 1, 1, 1, 2, 1, 1, 1, 1, 0, 1]) [2, 0, 1, 18, 6, 6, 6, 6, 6, 6, 6, 6, 6, 6, 6, 6, 5, 1, 1, 7, 5, 2] [(cd True).p ∧ (cand (cd ((0 : Int) ≤ if (10 : Int) < (↑k : Int) then (10 : Int) else (↑k : Int))) (cand (cd True) (cand (cd ((none : Option Operand).isSome = true → (some (Operand.tmp (18 : Nat))).isSome = true)) (cd ((1 : Nat) = 1 ∧ (0 : Nat) ≤ q10 k ∧ q10 k ≤ k ∧ ((0 : Nat) = (0 : Nat) ∨ (0 : Nat) < k)))))).p, (cand (cd (false = true ∨ (1 : Nat) = 1)) (cand (cd ((0 : Nat) < (1 : Nat))) (cd ((0 : Nat) + (0 : Nat) * 1 + (q10 k) * 1 ≤ zs.length)))).p ∧ (cand (cand (cd (false = true ∨ 1 = 1)) (cand (cd ((0 : Nat) < (1 : Nat))) (cd True))) (cd ([Cell.int IntKind.u32 (0 : Int)].length = 1 ∧ (0 : Nat) < 1 ∧ ((0 : Nat) + (q10 k)) * 4 ≤ (140737488355328 : Nat) ∧ (0 : Nat) + (q10 k) ≤ (9223372036854775807 : Nat) ∧ (false = true ∧ (0 : Nat) < q10 k ∨ false = false ∧ match some (0 : Nat) with | some c => c < (0 : Nat) + (q10 k) | none => False)))).p, (cand (cd (false = true ∨ 1 = 1)) (cand (cd ((0 : Nat) < (1 : Nat))) (cd True))).p ∧ (cand (cd ((0 : Nat) + ((0 : Nat) + (q10 k)) * 1 ≤ (List.take ((q10 k) * 1) (List.drop ((0 : Nat) + (0 : Nat) * 1) zs)).length)) (cd (false = false ∧ 1 = 1 ∧ [Cell.int IntKind.u32 (0 : Int)].length = 1 ∧ (0 : Nat) < 1 ∧ ((0 : Nat) + (q10 k) + (4 : Nat)) * 4 ≤ (140737488355328 : Nat) ∧ (0 : Nat) + (q10 k) + (4 : Nat) ≤ (9223372036854775807 : Nat)))).p, (0 : Nat) + (q10 k) + (4 : Nat) = (List.take (((0 : Nat) + (q10 k)) * 1) (List.drop (0 : Nat) (List.take ((q10 k) * 1) (List.drop ((0 : Nat) + (0 : Nat) * 1) zs))) ++ [a, b, c, d]).length ∧ (0 : Nat) + (q10 k) + (4 : Nat) = (0 : Nat) + (q10 k) + (4 : Nat) ∧ (4 : Nat) ≤ (0 : Nat) + (q10 k) + (4 : Nat) ∧ (0 : Nat) + (q10 k) + (4 : Nat) ≤ (14 : Nat) ∧ cellsOk (List.take (((0 : Nat) + (q10 k)) * 1) (List.drop (0 : Nat) (List.take ((q10 k) * 1) (List.drop ((0 : Nat) + (0 : Nat) * 1) zs))) ++ [a, b, c, d]), (0 : Nat) + (q10 k) + (4 : Nat) = (List.take (((0 : Nat) + (q10 k)) * 1) (List.drop (0 : Nat) (List.take ((q10 k) * 1) (List.drop ((0 : Nat) + (0 : Nat) * 1) zs))) ++ [a, b, c, d]).length ∧ (0 : Nat) + (q10 k) + (4 : Nat) = (0 : Nat) + (q10 k) + (4 : Nat) ∧ (4 : Nat) ≤ (0 : Nat) + (q10 k) + (4 : Nat) ∧ (0 : Nat) + (q10 k) + (4 : Nat) ≤ (14 : Nat) ∧ cellsOk (List.take (((0 : Nat) + (q10 k)) * 1) (List.drop (0 : Nat) (List.take ((q10 k) * 1) (List.drop ((0 : Nat) + (0 : Nat) * 1) zs))) ++ [a, b, c, d]), (0 : Nat) + (q10 k) + (4 : Nat) = (List.take (((0 : Nat) + (q10 k)) * 1) (List.drop (0 : Nat) (List.take ((q10 k) * 1) (List.drop ((0 : Nat) + (0 : Nat) * 1) zs))) ++ [a, b, c, d]).length ∧ (0 : Nat) + (q10 k) + (4 : Nat) = (0 : Nat) + (q10 k) + (4 : Nat) ∧ (4 : Nat) ≤ (0 : Nat) + (q10 k) + (4 : Nat) ∧ (0 : Nat) + (q10 k) + (4 : Nat) ≤ (14 : Nat) ∧ cellsOk (List.take (((0 : Nat) + (q10 k)) * 1) (List.drop (0 : Nat) (List.take ((q10 k) * 1) (List.drop ((0 : Nat) + (0 : Nat) * 1) zs))) ++ [a, b, c, d]), (0 : Nat) + (q10 k) + (4 : Nat) = (List.take (((0 : Nat) + (q10 k)) * 1) (List.drop (0 : Nat) (List.take ((q10 k) * 1) (List.drop ((0 : Nat) + (0 : Nat) * 1) zs))) ++ [a, b, c, d]).length ∧ (0 : Nat) + (q10 k) + (4 : Nat) = (0 : Nat) + (q10 k) + (4 : Nat) ∧ (4 : Nat) ≤ (0 : Nat) + (q10 k) + (4 : Nat) ∧ (0 : Nat) + (q10 k) + (4 : Nat) ≤ (14 : Nat) ∧ cellsOk (List.take (((0 : Nat) + (q10 k)) * 1) (List.drop (0 : Nat) (List.take ((q10 k) * 1) (List.drop ((0 : Nat) + (0 : Nat) * 1) zs))) ++ [a, b, c, d]), (0 : Nat) + (q10 k) + (4 : Nat) = (List.take (((0 : Nat) + (q10 k)) * 1) (List.drop (0 : Nat) (List.take ((q10 k) * 1) (List.drop ((0 : Nat) + (0 : Nat) * 1) zs))) ++ [a, b, c, d]).length ∧ (0 : Nat) + (q10 k) + (4 : Nat) = (0 : Nat) + (q10 k) + (4 : Nat) ∧ (4 : Nat) ≤ (0 : Nat) + (q10 k) + (4 : Nat) ∧ (0 : Nat) + (q10 k) + (4 : Nat) ≤ (14 : Nat) ∧ cellsOk (List.take (((0 : Nat) + (q10 k)) * 1) (List.drop (0 : Nat) (List.take ((q10 k) * 1) (List.drop ((0 : Nat) + (0 : Nat) * 1) zs))) ++ [a, b, c, d]), (0 : Nat) + (q10 k) + (4 : Nat) = (List.take (((0 : Nat) + (q10 k)) * 1) (List.drop (0 : Nat) (List.take ((q10 k) * 1) (List.drop ((0 : Nat) + (0 : Nat) * 1) zs))) ++ [a, b, c, d]).length ∧ (0 : Nat) + (q10 k) + (4 : Nat) = (0 : Nat) + (q10 k) + (4 : Nat) ∧ (4 : Nat) ≤ (0 : Nat) + (q10 k) + (4 : Nat) ∧ (0 : Nat) + (q10 k) + (4 : Nat) ≤ (14 : Nat) ∧ cellsOk (List.take (((0 : Nat) + (q10 k)) * 1) (List.drop (0 : Nat) (List.take ((q10 k) * 1) (List.drop ((0 : Nat) + (0 : Nat) * 1) zs))) ++ [a, b, c, d]), (0 : Nat) + (q10 k) + (4 : Nat) = (List.take (((0 : Nat) + (q10 k)) * 1) (List.drop (0 : Nat) (List.take ((q10 k) * 1) (List.drop ((0 : Nat) + (0 : Nat) * 1) zs))) ++ [a, b, c, d]).length ∧ (0 : Nat) + (q10 k) + (4 : Nat) = (0 : Nat) + (q10 k) + (4 : Nat) ∧ (4 : Nat) ≤ (0 : Nat) + (q10 k) + (4 : Nat) ∧ (0 : Nat) + (q10 k) + (4 : Nat) ≤ (14 : Nat) ∧ cellsOk (List.take (((0 : Nat) + (q10 k)) * 1) (List.drop (0 : Nat) (List.take ((q10 k) * 1) (List.drop ((0 : Nat) + (0 : Nat) * 1) zs))) ++ [a, b, c, d]), (0 : Nat) + (q10 k) + (4 : Nat) = (List.take (((0 : Nat) + (q10 k)) * 1) (List.drop (0 : Nat) (List.take ((q10 k) * 1) (List.drop ((0 : Nat) + (0 : Nat) * 1) zs))) ++ [a, b, c, d]).length ∧ (0 : Nat) + (q10 k) + (4 : Nat) = (0 : Nat) + (q10 k) + (4 : Nat) ∧ (4 : Nat) ≤ (0 : Nat) + (q10 k) + (4 : Nat) ∧ (0 : Nat) + (q10 k) + (4 : Nat) ≤ (14 : Nat) ∧ cellsOk (List.take (((0 : Nat) + (q10 k)) * 1) (List.drop (0 : Nat) (List.take ((q10 k) * 1) (List.drop ((0 : Nat) + (0 : Nat) * 1) zs))) ++ [a, b, c, d]), (0 : Nat) + (q10 k) + (4 : Nat) = (List.take (((0 : Nat) + (q10 k)) * 1) (List.drop (0 : Nat) (List.take ((q10 k) * 1) (List.drop ((0 : Nat) + (0 : Nat) * 1) zs))) ++ [a, b, c, d]).length ∧ (0 : Nat) + (q10 k) + (4 : Nat) = (0 : Nat) + (q10 k) + (4 : Nat) ∧ (4 : Nat) ≤ (0 : Nat) + (q10 k) + (4 : Nat) ∧ (0 : Nat) + (q10 k) + (4 : Nat) ≤ (14 : Nat) ∧ cellsOk (List.take (((0 : Nat) + (q10 k)) * 1) (List.drop (0 : Nat) (List.take ((q10 k) * 1) (List.drop ((0 : Nat) + (0 : Nat) * 1) zs))) ++ [a, b, c, d]), (0 : Nat) + (q10 k) + (4 : Nat) = (List.take (((0 : Nat) + (q10 k)) * 1) (List.drop (0 : Nat) (List.take ((q10 k) * 1) (List.drop ((0 : Nat) + (0 : Nat) * 1) zs))) ++ [a, b, c, d]).length ∧ (0 : Nat) + (q10 k) + (4 : Nat) = (0 : Nat) + (q10 k) + (4 : Nat) ∧ (4 : Nat) ≤ (0 : Nat) + (q10 k) + (4 : Nat) ∧ (0 : Nat) + (q10 k) + (4 : Nat) ≤ (14 : Nat) ∧ cellsOk (List.take (((0 : Nat) + (q10 k)) * 1) (List.drop (0 : Nat) (List.take ((q10 k) * 1) (List.drop ((0 : Nat) + (0 : Nat) * 1) zs))) ++ [a, b, c, d]), (0 : Nat) + (q10 k) + (4 : Nat) = (List.take (((0 : Nat) + (q10 k)) * 1) (List.drop (0 : Nat) (List.take ((q10 k) * 1) (List.drop ((0 : Nat) + (0 : Nat) * 1) zs))) ++ [a, b, c, d]).length ∧ (0 : Nat) + (q10 k) + (4 : Nat) = (0 : Nat) + (q10 k) + (4 : Nat) ∧ (4 : Nat) ≤ (0 : Nat) + (q10 k) + (4 : Nat) ∧ (0 : Nat) + (q10 k) + (4 : Nat) ≤ (14 : Nat) ∧ cellsOk (List.take (((0 : Nat) + (q10 k)) * 1) (List.drop (0 : Nat) (List.take ((q10 k) * 1) (List.drop ((0 : Nat) + (0 : Nat) * 1) zs))) ++ [a, b, c, d]), (0 : Nat) + (q10 k) + (4 : Nat) = (List.take (((0 : Nat) + (q10 k)) * 1) (List.drop (0 : Nat) (List.take ((q10 k) * 1) (List.drop ((0 : Nat) + (0 : Nat) * 1) zs))) ++ [a, b, c, d]).length ∧ (0 : Nat) + (q10 k) + (4 : Nat) = (0 : Nat) + (q10 k) + (4 : Nat) ∧ (4 : Nat) ≤ (0 : Nat) + (q10 k) + (4 : Nat) ∧ (0 : Nat) + (q10 k) + (4 : Nat) ≤ (14 : Nat) ∧ cellsOk (List.take (((0 : Nat) + (q10 k)) * 1) (List.drop (0 : Nat) (List.take ((q10 k) * 1) (List.drop ((0 : Nat) + (0 : Nat) * 1) zs))) ++ [a, b, c, d]), (0 : Nat) + (q10 k) + (4 : Nat) = (List.take (((0 : Nat) + (q10 k)) * 1) (List.drop (0 : Nat) (List.take ((q10 k) * 1) (List.drop ((0 : Nat) + (0 : Nat) * 1) zs))) ++ [a, b, c, d]).length ∧ (0 : Nat) + (q10 k) + (4 : Nat) = (0 : Nat) + (q10 k) + (4 : Nat) ∧ (4 : Nat) ≤ (0 : Nat) + (q10 k) + (4 : Nat) ∧ (0 : Nat) + (q10 k) + (4 : Nat) ≤ (14 : Nat) ∧ cellsOk (List.take (((0 : Nat) + (q10 k)) * 1) (List.drop (0 : Nat) (List.take ((q10 k) * 1) (List.drop ((0 : Nat) + (0 : Nat) * 1) zs))) ++ [a, b, c, d]), (cand (cd (false = true ∨ 1 = 1)) (cand (cd ((0 : Nat) < (1 : Nat))) (cd ((0 : Nat) + ((0 : Nat) + (q10 k) + (4 : Nat)) * 1 ≤ (List.take (((0 : Nat) + (q10 k)) * 1) (List.drop (0 : Nat) (List.take ((q10 k) * 1) (List.drop ((0 : Nat) + (0 : Nat) * 1) zs))) ++ [a, b, c, d]).length)))).p ∧ (cand (cand (cd (false = true ∨ 1 = 1)) (cand (cd ((0 : Nat) < (1 : Nat))) (cd True))) (cd ([Cell.int IntKind.u32 (0 : Int)].length = 1 ∧ (0 : Nat) < 1 ∧ ((0 : Nat) + ((0 : Nat) + (q10 k) + (4 : Nat))) * 4 ≤ (140737488355328 : Nat) ∧ (0 : Nat) + ((0 : Nat) + (q10 k) + (4 : Nat)) ≤ (9223372036854775807 : Nat) ∧ (false = true ∧ (0 : Nat) < (0 : Nat) + (q10 k) + (4 : Nat) ∨ false = false ∧ match some (0 : Nat) with | some c => c < (0 : Nat) + ((0 : Nat) + (q10 k) + (4 : Nat)) | none => False)))).p, (cand (cd (false = true ∨ 1 = 1)) (cand (cd ((0 : Nat) < (1 : Nat))) (cd True))).p ∧ (cand (cd ((0 : Nat) + ((0 : Nat) + ((0 : Nat) + (q10 k) + (4 : Nat))) * 1 ≤ (List.take (((0 : Nat) + (q10 k) + (4 : Nat)) * 1) (List.drop (0 : Nat) (List.take (((0 : Nat) + (q10 k)) * 1) (List.drop (0 : Nat) (List.take ((q10 k) * 1) (List.drop ((0 : Nat) + (0 : Nat) * 1) zs))) ++ [a, b, c, d]))).length)) (cd (false = false ∧ 1 = 1 ∧ [Cell.int IntKind.u32 (0 : Int)].length = 1 ∧ (0 : Nat) < 1 ∧ ((0 : Nat) + ((0 : Nat) + (q10 k) + (4 : Nat)) + (2 : Nat)) * 4 ≤ (140737488355328 : Nat) ∧ (0 : Nat) + ((0 : Nat) + (q10 k) + (4 : Nat)) + (2 : Nat) ≤ (9223372036854775807 : Nat)))).p, (0 : Nat) + (q10 k) + (4 : Nat) = (List.take (((0 : Nat) + (q10 k)) * 1) (List.drop (0 : Nat) (List.take ((q10 k) * 1) (List.drop ((0 : Nat) + (0 : Nat) * 1) zs))) ++ [a, b, c, d]).length ∧ (0 : Nat) + ((0 : Nat) + (q10 k) + (4 : Nat)) + (2 : Nat) = (List.take (((0 : Nat) + ((0 : Nat) + (q10 k) + (4 : Nat))) * 1) (List.drop (0 : Nat) (List.take (((0 : Nat) + (q10 k) + (4 : Nat)) * 1) (List.drop (0 : Nat) (List.take (((0 : Nat) + (q10 k)) * 1) (List.drop (0 : Nat) (List.take ((q10 k) * 1) (List.drop ((0 : Nat) + (0 : Nat) * 1) zs))) ++ [a, b, c, d])))) ++ [d, c]).length ∧ (4 : Nat) ≤ (0 : Nat) + (q10 k) + (4 : Nat) ∧ (0 : Nat) + (q10 k) + (4 : Nat) ≤ (14 : Nat) ∧ cellsOk (List.take (((0 : Nat) + (q10 k)) * 1) (List.drop (0 : Nat) (List.take ((q10 k) * 1) (List.drop ((0 : Nat) + (0 : Nat) * 1) zs))) ++ [a, b, c, d]) ∧ List.take (((0 : Nat) + ((0 : Nat) + (q10 k) + (4 : Nat))) * 1) (List.drop (0 : Nat) (List.take (((0 : Nat) + (q10 k) + (4 : Nat)) * 1) (List.drop (0 : Nat) (List.take (((0 : Nat) + (q10 k)) * 1) (List.drop (0 : Nat) (List.take ((q10 k) * 1) (List.drop ((0 : Nat) + (0 : Nat) * 1) zs))) ++ [a, b, c, d])))) ++ [d, c] = List.take (((0 : Nat) + (q10 k)) * 1) (List.drop (0 : Nat) (List.take ((q10 k) * 1) (List.drop ((0 : Nat) + (0 : Nat) * 1) zs))) ++ [a, b, c, d] ++ [top (List.take (((0 : Nat) + (q10 k)) * 1) (List.drop (0 : Nat) (List.take ((q10 k) * 1) (List.drop ((0 : Nat) + (0 : Nat) * 1) zs))) ++ [a, b, c, d]) (0 : Nat), top (List.take (((0 : Nat) + (q10 k)) * 1) (List.drop (0 : Nat) (List.take ((q10 k) * 1) (List.drop ((0 : Nat) + (0 : Nat) * 1) zs))) ++ [a, b, c, d]) (1 : Nat)], (cand (cd (false = true ∨ 1 = 1)) (cand (cd ((0 : Nat) < (1 : Nat))) (cd ((0 : Nat) + ((0 : Nat) + (q10 k) + (4 : Nat)) * 1 ≤ (List.take (((0 : Nat) + (q10 k)) * 1) (List.drop (0 : Nat) (List.take ((q10 k) * 1) (List.drop ((0 : Nat) + (0 : Nat) * 1) zs))) ++ [a, b, c, d]).length)))).p ∧ (cand (cand (cd (false = true ∨ 1 = 1)) (cand (cd ((0 : Nat) < (1 : Nat))) (cd True))) (cd ([Cell.int IntKind.u32 (0 : Int)].length = 1 ∧ (0 : Nat) < 1 ∧ ((0 : Nat) + ((0 : Nat) + (q10 k) + (4 : Nat))) * 4 ≤ (140737488355328 : Nat) ∧ (0 : Nat) + ((0 : Nat) + (q10 k) + (4 : Nat)) ≤ (9223372036854775807 : Nat) ∧ (false = true ∧ (0 : Nat) < (0 : Nat) + (q10 k) + (4 : Nat) ∨ false = false ∧ match some (0 : Nat) with | some c => c < (0 : Nat) + ((0 : Nat) + (q10 k) + (4 : Nat)) | none => False)))).p, (cand (cd (false = true ∨ 1 = 1)) (cand (cd ((0 : Nat) < (1 : Nat))) (cd True))).p ∧ (cand (cd ((0 : Nat) + ((0 : Nat) + ((0 : Nat) + (q10 k) + (4 : Nat))) * 1 ≤ (List.take (((0 : Nat) + (q10 k) + (4 : Nat)) * 1) (List.drop (0 : Nat) (List.take (((0 : Nat) + (q10 k)) * 1) (List.drop (0 : Nat) (List.take ((q10 k) * 1) (List.drop ((0 : Nat) + (0 : Nat) * 1) zs))) ++ [a, b, c, d]))).length)) (cd (false = false ∧ 1 = 1 ∧ [Cell.int IntKind.u32 (0 : Int)].length = 1 ∧ (0 : Nat) < 1 ∧ ((0 : Nat) + ((0 : Nat) + (q10 k) + (4 : Nat)) + (2 : Nat)) * 4 ≤ (140737488355328 : Nat) ∧ (0 : Nat) + ((0 : Nat) + (q10 k) + (4 : Nat)) + (2 : Nat) ≤ (9223372036854775807 : Nat)))).p, (0 : Nat) + (q10 k) + (4 : Nat) = (List.take (((0 : Nat) + (q10 k)) * 1) (List.drop (0 : Nat) (List.take ((q10 k) * 1) (List.drop ((0 : Nat) + (0 : Nat) * 1) zs))) ++ [a, b, c, d]).length ∧ (0 : Nat) + ((0 : Nat) + (q10 k) + (4 : Nat)) + (2 : Nat) = (List.take (((0 : Nat) + ((0 : Nat) + (q10 k) + (4 : Nat))) * 1) (List.drop (0 : Nat) (List.take (((0 : Nat) + (q10 k) + (4 : Nat)) * 1) (List.drop (0 : Nat) (List.take (((0 : Nat) + (q10 k)) * 1) (List.drop (0 : Nat) (List.take ((q10 k) * 1) (List.drop ((0 : Nat) + (0 : Nat) * 1) zs))) ++ [a, b, c, d])))) ++ [c, d]).length ∧ (4 : Nat) ≤ (0 : Nat) + (q10 k) + (4 : Nat) ∧ (0 : Nat) + (q10 k) + (4 : Nat) ≤ (14 : Nat) ∧ cellsOk (List.take (((0 : Nat) + (q10 k)) * 1) (List.drop (0 : Nat) (List.take ((q10 k) * 1) (List.drop ((0 : Nat) + (0 : Nat) * 1) zs))) ++ [a, b, c, d]) ∧ List.take (((0 : Nat) + ((0 : Nat) + (q10 k) + (4 : Nat))) * 1) (List.drop (0 : Nat) (List.take (((0 : Nat) + (q10 k) + (4 : Nat)) * 1) (List.drop (0 : Nat) (List.take (((0 : Nat) + (q10 k)) * 1) (List.drop (0 : Nat) (List.take ((q10 k) * 1) (List.drop ((0 : Nat) + (0 : Nat) * 1) zs))) ++ [a, b, c, d])))) ++ [c, d] = List.take (((0 : Nat) + (q10 k)) * 1) (List.drop (0 : Nat) (List.take ((q10 k) * 1) (List.drop ((0 : Nat) + (0 : Nat) * 1) zs))) ++ [a, b, c, d] ++ [top (List.take (((0 : Nat) + (q10 k)) * 1) (List.drop (0 : Nat) (List.take ((q10 k) * 1) (List.drop ((0 : Nat) + (0 : Nat) * 1) zs))) ++ [a, b, c, d]) (1 : Nat), top (List.take (((0 : Nat) + (q10 k)) * 1) (List.drop (0 : Nat) (List.take ((q10 k) * 1) (List.drop ((0 : Nat) + (0 : Nat) * 1) zs))) ++ [a, b, c, d]) (0 : Nat)]] (AV.cell (Cell.bool true), [some (Blk.cells false (1 : Nat) fun (x : Nat) => Cont.ints IntKind.u32 zs)], (1 : Nat), []) := ⟨by kernel_rfl, by kernel_rfl⟩

theorem pq0_1 (a : Int) (b : Int) (c : Int) (d : Int) : Good (evP0 3 (pqArgs0 a b c d) [] [1, 0, 0, 1, 0, 0, 0, 1, 1, 0, 0, 1, 2, 0, 0, 1, 3, 0, 0, 1, 4, 0, 0, 1, 5, 0, 0, 1, 6, 0, 0, 1, 7, 0, 0, 1, 8, 0, 0, 1, 9, 0, 0, 1, 10, 0, 0, 1, 11, 0, 0, 1, 12, 0, 0, 0, 0, 2, 0, 1, 1, 1, 1, 1, 0, 1, 1, 1, 1, 2, 1, 1, 1, 1, 0, 1]) [24, 6, 6, 6, 6, 6, 6, 6, 6, 6, 6, 6, 6, 9, 16] [(4 : Nat) = (4 : Nat) ∧ (4 : Nat) = (4 : Nat) ∧ (4 : Nat) ≤ (4 : Nat) ∧ (4 : Nat) ≤ (14 : Nat) ∧ cellsOk [a, b, c, d], (4 : Nat) = (4 : Nat) ∧ (4 : Nat) = (4 : Nat) ∧ (4 : Nat) ≤ (4 : Nat) ∧ (4 : Nat) ≤ (14 : Nat) ∧ cellsOk [a, b, c, d], (4 : Nat) = (4 : Nat) ∧ (4 : Nat) = (4 : Nat) ∧ (4 : Nat) ≤ (4 : Nat) ∧ (4 : Nat) ≤ (14 : Nat) ∧ cellsOk [a, b, c, d], (4 : Nat) = (4 : Nat) ∧ (4 : Nat) = (4 : Nat) ∧ (4 : Nat) ≤ (4 : Nat) ∧ (4 : Nat) ≤ (14 : Nat) ∧ cellsOk [a, b, c, d], (4 : Nat) = (4 : Nat) ∧ (4 : Nat) = (4 : Nat) ∧ (4 : Nat) ≤ (4 : Nat) ∧ (4 : Nat) ≤ (14 : Nat) ∧ cellsOk [a, b, c, d], (4 : Nat) = (4 : Nat) ∧ (4 : Nat) = (4 : Nat) ∧ (4 : Nat) ≤ (4 : Nat) ∧ (4 : Nat) ≤ (14 : Nat) ∧ cellsOk [a, b, c, d], (4 : Nat) = (4 : Nat) ∧ (4 : Nat) = (4 : Nat) ∧ (4 : Nat) ≤ (4 : Nat) ∧ (4 : Nat) ≤ (14 : Nat) ∧ cellsOk [a, b, c, d], (4 : Nat) = (4 : Nat) ∧ (4 : Nat) = (4 : Nat) ∧ (4 : Nat) ≤ (4 : Nat) ∧ (4 : Nat) ≤ (14 : Nat) ∧ cellsOk [a, b, c, d], (4 : Nat) = (4 : Nat) ∧ (4 : Nat) = (4 : Nat) ∧ (4 : Nat) ≤ (4 : Nat) ∧ (4 : Nat) ≤ (14 : Nat) ∧ cellsOk [a, b, c, d], (4 : Nat) = (4 : Nat) ∧ (4 : Nat) = (4 : Nat) ∧ (4 : Nat) ≤ (4 : Nat) ∧ (4 : Nat) ≤ (14 : Nat) ∧ cellsOk [a, b, c, d], (4 : Nat) = (4 : Nat) ∧ (4 : Nat) = (4 : Nat) ∧ (4 : Nat) ≤ (4 : Nat) ∧ (4 : Nat) ≤ (14 : Nat) ∧ cellsOk [a, b, c, d], (4 : Nat) = (4 : Nat) ∧ (4 : Nat) = (4 : Nat) ∧ (4 : Nat) ≤ (4 : Nat) ∧ (4 : Nat) ≤ (14 : Nat) ∧ cellsOk [a, b, c, d], (4 : Nat) = (4 : Nat) ∧ (4 : Nat) = (4 : Nat) ∧ (4 : Nat) ≤ (4 : Nat) ∧ (4 : Nat) ≤ (14 : Nat) ∧ cellsOk [a, b, c, d], (4 : Nat) = (4 : Nat) ∧ (6 : Nat) = (6 : Nat) ∧ (4 : Nat) ≤ (4 : Nat) ∧ (4 : Nat) ≤ (14 : Nat) ∧ cellsOk [a, b, c, d] ∧ List.take (((0 : Nat) + ((0 : Nat) + (4 : Nat))) * 1) (List.drop (0 : Nat) (List.take (((0 : Nat) + (4 : Nat)) * 1) (List.drop (0 : Nat) [a, b, c, d]))) ++ [d, c] = [a, b, c, d] ++ [top [a, b, c, d] (0 : Nat), top [a, b, c, d] (1 : Nat)], (4 : Nat) = (4 : Nat) ∧ (6 : Nat) = (6 : Nat) ∧ (4 : Nat) ≤ (4 : Nat) ∧ (4 : Nat) ≤ (14 : Nat) ∧ cellsOk [a, b, c, d] ∧ List.take (((0 : Nat) + ((0 : Nat) + (4 : Nat))) * 1) (List.drop (0 : Nat) (List.take (((0 : Nat) + (4 : Nat)) * 1) (List.drop (0 : Nat) [a, b, c, d]))) ++ [c, d] = [a, b, c, d] ++ [top [a, b, c, d] (1 : Nat), top [a, b, c, d] (0 : Nat)]] (AV.cell (Cell.bool true), [], (0 : Nat), []) := ⟨by kernel_rfl, by kernel_rfl⟩

theorem isU_ok {a : Int} (h : 0 ≤ a ∧ a ≤ 4294967295) : 0 ≤ a ∧ a < 4294967296 := by omega

theorem order_empty {a b c d : Int} (ha : 0 ≤ a ∧ a ≤ 4294967295) (hb : 0 ≤ b ∧ b ≤ 4294967295) (hc : 0 ≤ c ∧ c ≤ 4294967295) (hd : 0 ≤ d ∧ d ≤ 4294967295) : ∃ H' low, CanOk Try.prog 3 ([] : Heap Nob) (pqArgs0 a b c d) (.cell (.bool true)) H' low := by
  refine ⟨_, _, (pq0_1 a b c d).canT (E_valid sP_ok 3) (Nat.le_refl 0) ?_⟩
  have hk : cellsOk [a, b, c, d] := by simp only [cellsOk_cons, cellsOk_nil, and_true]; omega
  simp only [AllP, hk, and_true, true_and]
  simp [top]

theorem order_full {zs : List Int} {k : Nat} {a b c d : Int} (h0 : 0 < k) (hk : k ≤ zs.length) (hz : ∀ n ∈ zs, 0 ≤ n ∧ n ≤ 4294967295) (ha : 0 ≤ a ∧ a ≤ 4294967295) (hb : 0 ≤ b ∧ b ≤ 4294967295) (hc : 0 ≤ c ∧ c ≤ 4294967295) (hd : 0 ≤ d ∧ d ≤ 4294967295) :
    ∃ H' low, CanOk Try.prog 3 (pqH zs) (pqArgs k a b c d) (.cell (.bool true)) H' low := by
  obtain ⟨K, hK⟩ : ∃ K, K = min k 10 := ⟨_, rfl⟩
  have hq : q10 k = K := by
    unfold q10
    split <;> omega
  have hq0 : (if (10 : Int) < (k : Int) then (10 : Int) else (k : Int)) = (K : Int) := by split <;> omega
  have e1 : List.take K (List.take K zs) = List.take K zs := by rw [List.take_take, Nat.min_self]
  have hl : (List.take K zs).length = K := by simp; omega
  obtain ⟨bel, hbel⟩ : ∃ bel, bel = List.take K zs := ⟨_, rfl⟩
  have hbk : cellsOk bel := by
    intro x hx
    rw [hbel] at hx
    have := hz x (List.mem_of_mem_take hx)
    omega
  rw [← hbel] at hl
  have hall : cellsOk (bel ++ [a, b, c, d]) := by
    rw [cellsOk_app]
    refine ⟨hbk, ?_⟩
    simp only [cellsOk_cons, cellsOk_nil, and_true]
    omega
  have hln : (bel ++ [a, b, c, d]).length = K + 4 := by simp [hl]
  have e2 : List.take (K + 4) (bel ++ [a, b, c, d]) = bel ++ [a, b, c, d] := List.take_of_length_le (by omega)
  have e3 : List.take K bel = bel := List.take_of_length_le (by omega)
  have g := pq_1 zs k a b c d
  simp only [hq, hq0, Nat.zero_add, Nat.add_zero, Nat.mul_one, Nat.mul_zero, Nat.zero_mul, List.drop_zero, ← hbel, e3, e2, hln] at g
  refine ⟨_, _, g.canT (E_valid sP_ok 3) (Nat.le_refl 1) ?_⟩
  simp only [AllP, hall, and_true, true_and]
  have t0 : top (bel ++ [a, b, c, d]) 0 = d := top_app bel _ 0 (by simp)
  have t1 : top (bel ++ [a, b, c, d]) 1 = c := top_app bel _ 1 (by simp)
  simp [hl, t0, t1]
  omega

theorem laidOut : laidOutB Try.prog = true := by kernel_rfl

theorem order_lifted (os : Os) (started : os.Started) (H : Type) (enc : TypeId × Value → H) :
    ReturnsInHanded {} Try.checked os 3 .any (Rows.plainOrderSpec.pre6 enc Try.prog Try.f3 Rows.plainOrderRow.domain false) (Rows.plainOrderSpec.post enc Try.prog Try.f3 false true false false) := by
  refine returnsInHanded_of_change (C := Try.checked) own started (by kernel_rfl) Try.func3
    (ChangeSpec.witness6 (enc := enc) (C := Try.checked) false ⟨#[], #[.slice none 0 0, .int .u32 0, .int .u32 0, .int .u32 0, .int .u32 0], []⟩ 8 (by kernel_rfl) (by kernel_rfl) (by kernel_rfl) (by kernel_rfl)) ?_
  intro W base args ds gs before hval0 hW hcnd _
  have hval : ∀ (j : Nat) t v, Try.f3.params[j]? = some t → args[j]? = some v → Value.okWide Try.prog W .any base t v := hval0
  have hW' := hW
  obtain ⟨p, q, hA0, hV, rfl, hfz, hnd⟩ := hW
  have hA : DataW.TrodAll enc Try.prog W 0 (fun _ => true) true Try.f3.params.toList args.toList ds p := hA0
  have hAll := hA
  obtain ⟨rfl, rfl⟩ := trodVars_none hV
  rw [Try.params3] at hA hval
  obtain ⟨v0, vs0, d0, ds0, p0, q0, hargs, rfl, hp0, h0, hA⟩ := trodAll_cons hA
  obtain ⟨v1, vs1, d1, ds1, p1, q1, rfl, rfl, rfl, h1, hA⟩ := trodAll_cons hA
  obtain ⟨v2, vs2, d2, ds2, p2, q2, rfl, rfl, rfl, h2, hA⟩ := trodAll_cons hA
  obtain ⟨v3, vs3, d3, ds3, p3, q3, rfl, rfl, rfl, h3, hA⟩ := trodAll_cons hA
  obtain ⟨v4, vs4, d4, ds4, p4, q4, rfl, rfl, rfl, h4, hA⟩ := trodAll_cons hA
  obtain ⟨rfl, rfl, rfl⟩ := trodAll_nil hA
  obtain ⟨rfl⟩ : args = #[v0, v1, v2, v3, v4] := by cases args; simp_all
  obtain ⟨a, rfl, rfl, -, wa⟩ := open_int Try.underlying23 (hval 1 23 v1 rfl rfl) h1
  obtain ⟨b, rfl, rfl, -, wb⟩ := open_int Try.underlying23 (hval 2 23 v2 rfl rfl) h2
  obtain ⟨c, rfl, rfl, -, wc⟩ := open_int Try.underlying23 (hval 3 23 v3 rfl rfl) h3
  obtain ⟨d, rfl, rfl, -, wd⟩ := open_int Try.underlying23 (hval 4 23 v4 rfl rfl) h4
  simp only [Lit.wf, Bool.and_eq_true, decide_eq_true_eq] at wa wb wc wd
  obtain ⟨xs, hx0⟩ := came_ints Try.underlying22 Try.underlying23 (by kernel_rfl) (hval 0 22 v0 rfl rfl) h0
  simp only [List.append_nil] at hW' 
  have hlt : ∀ x ∈ p, x.block < W.heap.size := fun x hx => by simpa using hW'.lt x hx
  have key : Calls Try.prog 3 #[v0, .int .u32 a, .int .u32 b, .int .u32 c, .int .u32 d] W fun e W' => e = .returned (.bool true) ∧ Ext W W' fun _ => False := by
    cases hx0 with
    | empty _ hv => exact law_of (vs := #[v0, .int .u32 a, .int .u32 b, .int .u32 c, .int .u32 d]) (order_empty wa wb wc wd) ⟨hv [], int_arg, int_arg, int_arg, int_arg, trivial⟩ W
    | full zs L hpos htk hz hc hv =>
      have hk : xs.length ≤ zs.length := by
        have := congrArg List.length htk
        simp at this
        omega
      exact law_ofH (vs := #[v0, .int .u32 a, .int .u32 b, .int .u32 c, .int .u32 d]) readOnly_no (order_full hpos hk hz wa wb wc wd) W (Rel.readOnly hc) ⟨hv _ 0 rfl, int_argH, int_argH, int_argH, int_argH, trivial⟩
  refine key.mono fun e W' ⟨he, hx⟩ => ?_
  subst he
  refine ⟨_, rfl, post_still (pa := p) (pv := []) hW' hx (fun _ _ _ => trodAll_mk1 (shut_bool Try.underlying4 true)) (fun sp hsp => ?_) (fun _ _ => rfl) (by simp)
    (ok_one (by kernel_rfl) rfl (okWide_bool_mk Try.underlying4 true))⟩
  exact trodAll_stays laidOut hx (by kernel_rfl) hAll hlt (fun x hx' => hsp x (by simpa using hx'))

theorem plainOrder_holds : Rows.PlainOrderSaid :=
  OpenClaim.holds_of_wide 3 Try.f3 rfl rfl rfl rfl rfl rfl rfl ⟨rfl, rfl, rfl, rfl, rfl⟩ rfl rfl rfl rfl rfl (by kernel_rfl) Try.func3 (by kernel_rfl)
    (of_decide_eq_true (by kernel_rfl)) (by unfold Func.isWrapper; first | (rw [if_pos (by decide +kernel)]; kernel_rfl) | (rw [if_neg (by decide +kernel)]; exact ⟨rfl, rfl⟩))
    (fun os started H enc _ => order_lifted os started H enc)

end Go.Proofs.Ytnoonoghemgbbaa.Sx

namespace Go.Proofs.Ytnoonoghemgbbaa
theorem plainOrder_holds : Rows.PlainOrderSaid := Sx.plainOrder_holds
end Go.Proofs.Ytnoonoghemgbbaa


