/-
  A symbolic evaluator over the model's code: part 20: regions that draw their order: what the evaluator says the model does.
-/
import Derived.Test.YtnoonoghemgbbaaSx19
set_option linter.unusedVariables false
set_option linter.unusedSimpArgs false
namespace Go.Proofs.Ytnoonoghemgbbaa.Sx
open Go
noncomputable section

section
variable {P : Program} {ops : Array Oper} {Q : Exit → Act → World → Prop} {W : Nat → Bool} {S : World → Prop}

/-- What yields the same in every world may be taken first. -/
theorem wpH_firstY {i : Nat} {oi : Oper} {v : Value} (hi : ops[i]? = some oi) (hsel : ∀ (j : Nat) (o : Oper) cs b, ops[j]? = some o → o.op ≠ .select cs b)
    (hQ : ∀ c a w, ¬ Q (.panic c) a w) :
    ∀ (n : Nat) (l : Array Bool) (a : Act) (w : World),
      (∀ j oj, ops[j]? = some oj → j ≠ i → l.getD j true = false → (∀ e ∈ oj.after, Region.binds .any e = true → e.on ≠ i) → oi.apart ops oj = true) →
      i ∈ Region.ready .any ops l → Yields P ops oi v a → S w →
      wpH P ops Q W S n (l.setIfInBounds i true) (a.put oi.dst v) w → wpH P ops Q W S (n + 1) l a w := by
  have hit : ∀ {n : Nat} {l : Array Bool} {a : Act} {w : World}, Yields P ops oi v a → S w → wpH P ops Q W S n (l.setIfInBounds i true) (a.put oi.dst v) w →
      wpOp P ops Q i (fun a' w' => (W i = true → wpAny P .any ops Q n (l.setIfInBounds i true) a' w') ∧ (W i = false → S w' ∧ wpH P ops Q W S n (l.setIfInBounds i true) a' w')) a w :=
    fun hy hS H => hy.wpOp hi ⟨fun _ => wpH_any _ _ _ _ H, fun _ => ⟨hS, H⟩⟩
  have hQ' : ∀ c a w, Q (.panic c) (a.put oi.dst v) w → Q (.panic c) a w := fun c a w h => (hQ _ _ _ h).elim
  intro n
  induction n with
  | zero =>
    intro l a w _ hr hy hS H
    refine ⟨fun h => (by rw [h] at hr; cases hr), fun j hj => ?_⟩
    by_cases hji : j = i
    · subst hji; exact hit hy hS H
    · have := ready_mono hj hji
      rw [H.1] at this
      cases this
  | succ n ih =>
    intro l a w hfree hr hy hS H
    refine ⟨fun h => (by rw [h] at hr; cases hr), fun j hj => ?_⟩
    by_cases hji : j = i
    · subst hji; exact hit hy hS H
    · have h1 := H.2 j (ready_mono hj hji)
      obtain ⟨hjun, oj, hoj, hall⟩ := mem_ready.1 hj
      have hnot : ∀ e ∈ oj.after, Region.binds .any e = true → e.on ≠ i := fun e he hb heq => by
        have h1 := hall e he hb
        have h0 := (mem_ready.1 hr).1
        rw [heq] at h1
        rcases Nat.lt_or_ge i l.size with h' | h'
        · simp [h'] at h0 h1; rw [h0] at h1; cases h1
        · simp [Array.getElem?_eq_none h'] at h1
      have h2 := wpOp_put hoj (hfree j oj hoj hji hjun hnot) (fun cs b => hsel i oi cs b hi) (fun cs b => hsel j oj cs b hoj) hQ' hy h1
      have hfree' : ∀ k ok, ops[k]? = some ok → k ≠ i → (l.setIfInBounds j true).getD k true = false →
          (∀ e ∈ ok.after, Region.binds .any e = true → e.on ≠ i) → oi.apart ops ok = true := fun k ok hk hki hun hno => by
        refine hfree k ok hk hki ?_ hno
        by_cases hjk : j = k
        · subst hjk; exact hjun
        · rw [getD_set_ne true hjk] at hun; exact hun
      refine wpOp_mono (fun a' w' h3 => ⟨fun hW => ?_, fun hW => ?_⟩) h2
      · refine wpAny_first hi hsel hQ' n (l.setIfInBounds j true) a' w' hfree' (ready_mono hr (Ne.symm hji)) h3.1 ?_
        rw [Array.setIfInBounds_comm _ _ hji]
        exact h3.2.1 hW
      · obtain ⟨h4, h5⟩ := h3.2.2 hW
        refine ⟨h4, ih (l.setIfInBounds j true) a' w' hfree' (ready_mono hr (Ne.symm hji)) h3.1 h4 ?_⟩
        rw [Array.setIfInBounds_comm _ _ hji]
        exact h5
end

/-! ### What is not written stays -/

theorem renC_fix {f : Nat → Nat} {c : Cell} (h : (idsC c).all (fun i => Nat.beq (f i) i) = true) : renC f c = c := by
  cases c with
  | ptr nl id idx off => simp only [idsC, List.all_cons, List.all_nil, Bool.and_true] at h; simp only [renC, Nat.eq_of_beq_eq_true h]
  | slice nl id idx off len cap sz => simp only [idsC, List.all_cons, List.all_nil, Bool.and_true] at h; simp only [renC, Nat.eq_of_beq_eq_true h]
  | map nl id idx => simp only [idsC, List.all_cons, List.all_nil, Bool.and_true] at h; simp only [renC, Nat.eq_of_beq_eq_true h]
  | yld id => simp only [idsC, List.all_cons, List.all_nil, Bool.and_true] at h; simp only [renC, Nat.eq_of_beq_eq_true h]
  | func g caps =>
    simp only [renC, Cell.func.injEq, true_and]
    simp only [idsC] at h
    induction caps with
    | nil => rfl
    | cons p l ih =>
      simp only [List.map_cons, List.all_cons, Bool.and_eq_true] at h
      rw [List.map_cons, ih h.2, Nat.eq_of_beq_eq_true h.1]
  | bool b => rfl
  | int k n => rfl
  | str l => rfl
  | empty => rfl
  | nilFunc => rfl
  | anyp => rfl

theorem map_fix {α : Type} {g : α → α} {ids : α → List Nat} {q : Nat → Bool} (hg : ∀ a, (ids a).all q = true → g a = a) : ∀ {l : List α}, (l.flatMap ids).all q = true → l.map g = l
  | [], _ => rfl
  | a :: l, h => by
    simp only [List.flatMap_cons, List.all_append, Bool.and_eq_true] at h
    rw [List.map_cons, hg a h.1, map_fix hg h.2]

theorem ren1_fix {f : Nat → Nat} {c : AV1} (h : (ids1 c).all (fun i => Nat.beq (f i) i) = true) : ren1 f c = c := by
  cases c with
  | cell c => simp only [ren1, renC_fix h]
  | agg cs => simp only [ren1, map_fix (fun _ => renC_fix) h]

theorem renV_fix {f : Nat → Nat} {c : AV} (h : (idsV c).all (fun i => Nat.beq (f i) i) = true) : renV f c = c := by
  cases c with
  | cell c => simp only [renV, renC_fix h]
  | agg cs => simp only [renV, map_fix (fun _ => renC_fix) h]
  | tup l => simp only [renV, map_fix (fun _ => ren1_fix) h]
  | junk => rfl

theorem dstsA_mem : ∀ {l : List Oper} {ls : List Bool} {i : Nat} {o : Oper} {d : Nat}, l[i]? = some o → ls[i]? = some false → o.dst = some d → d ∈ dstsA l ls
  | [], _, i, o, d, h, _, _ => by simp at h
  | _ :: _, [], i, o, d, _, h, _ => by simp at h
  | x :: l, b :: ls, 0, o, d, h, h1, h2 => by
    simp only [List.getElem?_cons_zero, Option.some.injEq] at h h1
    subst h h1
    simp only [dstsA, h2]
    exact List.mem_cons_self
  | x :: l, b :: ls, i + 1, o, d, h, h1, h2 => by
    have := dstsA_mem (l := l) (ls := ls) (i := i) (by simpa using h) (by simpa using h1) h2
    cases b with
    | true => exact this
    | false =>
      simp only [dstsA]
      split
      · exact List.mem_cons_of_mem _ this
      · exact this

theorem dstsA_set : ∀ {l : List Oper} {ls : List Bool} {i d : Nat}, d ∈ dstsA l (ls.set i true) → d ∈ dstsA l ls
  | [], ls, i, d, h => by cases hq : ls.set i true <;> rw [hq] at h <;> simp [dstsA] at h
  | _ :: _, [], i, d, h => by simpa using h
  | x :: l, b :: ls, 0, d, h => by
    simp only [List.set_cons_zero, dstsA] at h
    cases b with
    | true => exact h
    | false =>
      simp only [dstsA]
      split
      · exact List.mem_cons_of_mem _ h
      · exact h
  | x :: l, b :: ls, i + 1, d, h => by
    simp only [List.set_cons_succ] at h
    cases b with
    | true => exact dstsA_set (l := l) (ls := ls) (i := i) h
    | false =>
      simp only [dstsA] at h ⊢
      split
      · rename_i e he
        simp only [he] at h
        rcases List.mem_cons.1 h with h | h
        · rw [h]; exact List.mem_cons_self
        · exact List.mem_cons_of_mem _ (dstsA_set h)
      · rename_i he
        simp only [he] at h
        exact dstsA_set h

theorem readyL_at {ops : List Oper} {ls : List Bool} {i : Nat} (h : i ∈ readyL ops ls) : ls[i]? = some false ∧ ∃ o, ops[i]? = some o := by
  unfold readyL at h
  have := (List.mem_filter.1 h).2
  unfold readyAt at this
  split at this
  · rename_i h1 h2; exact ⟨h1, _, h2⟩
  · cases this

theorem putA_other {t : List AV} {dst : Option Tmp} {v : AV} {d : Nat} (h : dst ≠ some d) : (putA t dst v)[d]? = t[d]? := by
  cases dst with
  | none => rfl
  | some e =>
    show (setL t e v)[d]? = _
    rw [setL_eq, List.getElem?_set_ne (fun he => h (by rw [he]))]

section
variable {D : Type}

theorem joinA_ok {br : Nat → Dec → RR D} {n : Nat} {t : List AV} {ds : List Nat} : ∀ {l : List Nat} {p0 : VC} {t0 : List AV} {H0 : Heap D} {l0 : Nat} {d0 : Dec} {p : VC} {t1 : List AV} {H1 : Heap D} {low : Nat} {d : Dec},
    joinA br n t ds l (p0, t0, H0, l0, d0) = some (p, t1, H1, low, d) → t1 = t0 ∧ H1 = H0 ∧ low ≤ l0 ∧ (VC.ok p → VC.ok p0 ∧ ∀ i ∈ l, ∃ dec q t2 H2 l2 d2 s, br i dec = some (q, t2, H2, l2, d2) ∧ VC.ok q ∧ low ≤ l2 ∧
      permOk n s H2.length = true ∧ fixT (pf n s) t = true ∧ (ds.map fun j => t1[j]?) = (ds.map fun j => (t2[j]?).map (renV (pf n s))) ∧ H1 = permH (pf n s) (pinv n s) H2.length H2)
  | [], p0, t0, H0, l0, d0, p, t1, H1, low, d, h => by
    simp only [joinA, Option.some.injEq, Prod.mk.injEq] at h
    obtain ⟨rfl, rfl, rfl, rfl, rfl⟩ := h
    exact ⟨rfl, rfl, Nat.le_refl _, fun hp => ⟨hp, fun i hi => by cases hi⟩⟩
  | i :: rest, p0, t0, H0, l0, d0, p, t1, H1, low, d, h => by
    unfold joinA at h
    split at h
    · cases h
    · rename_i k dd
      split at h
      · cases h
      · rename_i q t2 H2 l2 d2 hb
        split at h
        · cases h
        · rename_i hc
          rw [Bool.and_eq_true] at hc
          obtain ⟨rfl, rfl, hl, hv⟩ := joinA_ok h
          refine ⟨rfl, rfl, by omega, fun hp => ?_⟩
          obtain ⟨hp1, hr⟩ := hv hp
          have hp2 := ok_app.1 hp1
          have hp3 := ok_app.1 hp2.2
          refine ⟨hp2.1, fun j hj => ?_⟩
          rcases List.mem_cons.1 hj with rfl | hj
          · exact ⟨_, q, t2, H2, l2, d2, dd.take k, hb, hp3.1, by omega, hc.1, hc.2, hp3.2.1, hp3.2.2.1⟩
          · exact hr j hj

theorem drawA_frame {P : Program} {E : FuncId → Sum D} {ops : Array Oper} {H0 : Heap D} {m : Nat} {Wl : List Nat} : ∀ (k : Nat) {clean : Bool} {ls : List Bool} {t t' : List AV} {H H' : Heap D} {dec d : Dec} {p : VC} {low : Nat},
    drawA P E ops H0 m Wl k clean ls t H dec = some (p, t', H', low, d) → ∀ j, j ∉ dstsA ops.toList ls → t'[j]? = t[j]? := by
  intro k
  induction k with
  | zero =>
    intro clean ls t t' H H' dec d p low h j hj
    unfold drawA at h
    split at h
    · cases h; rfl
    · cases h
  | succ k ih =>
    intro clean ls t t' H H' dec d p low h j hj
    unfold drawA at h
    split at h
    · cases h; rfl
    · rename_i r rs hr
      simp only at h
      have one : ∀ (i : Nat) (o : Oper) (v : AV), i ∈ readyL ops.toList ls → ops[i]? = some o → ∀ {t1 : List AV}, (∀ j, j ∉ dstsA ops.toList (ls.set i true) → t1[j]? = (putA t o.dst v)[j]?) → t1[j]? = t[j]? := by
        intro i o v hi ho t1 h1
        rw [h1 j fun hx => hj (dstsA_set hx)]
        refine putA_other fun he => hj (dstsA_mem (i := i) (o := o) (by rw [Array.getElem?_toList]; exact ho) (readyL_at hi).1 he)
      split at h
      · rename_i i o q v d1 hp
        split at h
        · rename_i q2 res hd
          cases h
          obtain ⟨hi, ho, _⟩ := pickA_ok hp
          rw [← hr] at hi
          exact one i o v hi ho (ih hd)
        · cases h
      · split at h
        · rename_i acc hb
          obtain ⟨p0, t0, H0', l0, d0⟩ := acc
          obtain ⟨rfl, _⟩ := joinA_ok h
          split at hb
          · cases hb
          · rename_i o ho
            split at hb
            · split at hb
              · rename_i q v H1 l1 d1 hop
                split at hb
                · split at hb
                  · rename_i s t2 H2 l2 d2 hd
                    cases hb
                    exact one r o v (by rw [hr]; exact List.mem_cons_self) ho (ih hd)
                  · cases hb
                · cases hb
              · cases hb
            · cases hb
        · cases h
end
end
end Go.Proofs.Ytnoonoghemgbbaa.Sx
