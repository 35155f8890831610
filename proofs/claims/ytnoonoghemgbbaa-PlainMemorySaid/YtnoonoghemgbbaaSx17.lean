/-
  A symbolic evaluator over the model's code: part 17: regions that draw their order: what may be taken first.
-/
import Derived.Test.YtnoonoghemgbbaaSx16
import Derived.OrdersHeld
set_option linter.unusedVariables false
set_option linter.unusedSimpArgs false
namespace Go.Proofs.Ytnoonoghemgbbaa.Sx
open Go
noncomputable section

section
variable {P : Program} {ops : Array Oper} {Q : Exit → Act → World → Prop} {W : Nat → Bool} {S : World → Prop}

/-- Any order; S is kept by every operation but W's; behind one of these nothing is asked. -/
def wpH (P : Program) (ops : Array Oper) (Q : Exit → Act → World → Prop) (W : Nat → Bool) (S : World → Prop) : Nat → Array Bool → Act → World → Prop
  | 0, l, a, w => Region.ready .any ops l = [] ∧ Q .normal a w
  | n + 1, l, a, w => (Region.ready .any ops l = [] → Q .normal a w) ∧ ∀ i, i ∈ Region.ready .any ops l →
      wpOp P ops Q i (fun a' w' => (W i = true → wpAny P .any ops Q n (l.setIfInBounds i true) a' w') ∧ (W i = false → S w' ∧ wpH P ops Q W S n (l.setIfInBounds i true) a' w')) a w

theorem wpH_any : ∀ (n : Nat) (l : Array Bool) (a : Act) (w : World), wpH P ops Q W S n l a w → wpAny P .any ops Q n l a w
  | 0, _, _, _, h => h
  | n + 1, l, a, w, h => ⟨h.1, fun i hi => wpOp_mono (fun a' w' h' => by
      cases hw : W i with
      | true => exact h'.1 hw
      | false => exact wpH_any n _ _ _ (h'.2 hw).2) (h.2 i hi)⟩

/-- What yields the same wherever S holds may be taken first, if no writer comes before it. -/
theorem wpH_first {i : Nat} {oi : Oper} {v : Value} (hi : ops[i]? = some oi) (hsel : ∀ (j : Nat) (o : Oper) cs b, ops[j]? = some o → o.op ≠ .select cs b)
    (hQ : ∀ c a w, ¬ Q (.panic c) a w) (hWi : W i = false) :
    ∀ (n : Nat) (l : Array Bool) (a : Act) (w : World),
      (∀ j oj, ops[j]? = some oj → j ≠ i → l.getD j true = false → (∀ e ∈ oj.after, Region.binds .any e = true → e.on ≠ i) → oi.apart ops oj = true ∧ W j = false) →
      i ∈ Region.ready .any ops l → YieldsIf P ops S oi v a → S w →
      wpH P ops Q W S n (l.setIfInBounds i true) (a.put oi.dst v) w → wpH P ops Q W S (n + 1) l a w := by
  have hit : ∀ {n : Nat} {l : Array Bool} {a : Act} {w : World}, YieldsIf P ops S oi v a → S w → wpH P ops Q W S n (l.setIfInBounds i true) (a.put oi.dst v) w →
      wpOp P ops Q i (fun a' w' => (W i = true → wpAny P .any ops Q n (l.setIfInBounds i true) a' w') ∧ (W i = false → S w' ∧ wpH P ops Q W S n (l.setIfInBounds i true) a' w')) a w :=
    fun hy hS H => hy.wpOp hi hS ⟨fun h => by rw [hWi] at h; exact Bool.noConfusion h, fun _ => ⟨hS, H⟩⟩
  intro n
  induction n with
  | zero =>
    intro l a w _ hr hy hS H
    refine ⟨fun h => (by rw [h] at hr; cases hr), fun j hj => ?_⟩
    by_cases hji : j = i
    · subst hji; exact hit hy hS H
    · have := ready_mono hj hji
      rw [H.1] at this
      cases this
  | succ n ih =>
    intro l a w hfree hr hy hS H
    refine ⟨fun h => (by rw [h] at hr; cases hr), fun j hj => ?_⟩
    by_cases hji : j = i
    · subst hji; exact hit hy hS H
    · have h1 := H.2 j (ready_mono hj hji)
      obtain ⟨hjun, oj, hoj, hall⟩ := mem_ready.1 hj
      have hnot : ∀ e ∈ oj.after, Region.binds .any e = true → e.on ≠ i := fun e he hb heq => by
        have h1 := hall e he hb
        have h0 := (mem_ready.1 hr).1
        rw [heq] at h1
        rcases Nat.lt_or_ge i l.size with h' | h'
        · simp [h'] at h0 h1; rw [h0] at h1; cases h1
        · simp [Array.getElem?_eq_none h'] at h1
      obtain ⟨hap, hWj⟩ := hfree j oj hoj hji hjun hnot
      have h2 := wpOp_putIf hoj hap (fun cs b => hsel i oi cs b hi) (fun cs b => hsel j oj cs b hoj) (fun c a w h => (hQ _ _ _ h).elim) hy h1
      have hfree' : ∀ k ok, ops[k]? = some ok → k ≠ i → (l.setIfInBounds j true).getD k true = false →
          (∀ e ∈ ok.after, Region.binds .any e = true → e.on ≠ i) → oi.apart ops ok = true ∧ W k = false := fun k ok hk hki hun hno => by
        refine hfree k ok hk hki ?_ hno
        by_cases hjk : j = k
        · subst hjk; exact hjun
        · rw [getD_set_ne true hjk] at hun; exact hun
      refine wpOp_mono (fun a' w' h3 => ⟨fun h => by rw [hWj] at h; exact Bool.noConfusion h, fun _ => ?_⟩) h2
      obtain ⟨h4, h5⟩ := h3.2.2 hWj
      refine ⟨h4, ih (l.setIfInBounds j true) a' w' hfree' (ready_mono hr (Ne.symm hji)) h3.1 h4 ?_⟩
      rw [Array.setIfInBounds_comm _ _ hji]
      exact h5
end

/-! ### Lists in the place of arrays -/

def readyAt (ops : List Oper) (ls : List Bool) (i : Nat) : Bool :=
  match ls[i]?, ops[i]? with
  | some false, some o => o.after.toList.all fun e => !Region.binds .any e || ls.getD e.on false
  | _, _ => false

def readyL (ops : List Oper) (ls : List Bool) : List Nat := (List.range ops.length).filter (readyAt ops ls)

theorem readyL_eq (ops : Array Oper) (ls : List Bool) : Region.ready .any ops ls.toArray = readyL ops.toList ls := by
  unfold Region.ready readyL
  rw [Array.length_toList]
  congr 1
  funext i
  unfold readyAt
  simp only [Array.getElem?_toList, Array.getD_eq_getD_getElem?, List.getElem?_toArray]
  cases h : ls[i]? with
  | none => simp
  | some b => cases b <;> cases ho : ops[i]? <;> simp [Array.all_toList]

/-- Every other operation that has not come up waits for i, or is apart from it (and no writer). -/
def freeAt (ops : Array Oper) (ls : List Bool) (Wl : List Nat) (keep : Bool) (i : Nat) (oi : Oper) : Nat → List Oper → Bool
  | _, [] => true
  | j, oj :: rest => (Nat.beq j i || (ls.getD j true || (oj.after.toList.any (fun e => Region.binds .any e && Nat.beq e.on i) || (oi.apart ops oj && !(keep && Wl.any (Nat.beq j)))))) && freeAt ops ls Wl keep i oi (j + 1) rest

theorem freeAt_ok {ops : Array Oper} {ls : List Bool} {Wl : List Nat} {keep : Bool} {i : Nat} {oi : Oper} : ∀ {k : Nat} {l : List Oper}, freeAt ops ls Wl keep i oi k l = true → ∀ (j : Nat) (oj : Oper), l[j]? = some oj →
    k + j ≠ i → ls.toArray.getD (k + j) true = false → (∀ e ∈ oj.after, Region.binds .any e = true → e.on ≠ i) → oi.apart ops oj = true ∧ (keep = true → Wl.any (Nat.beq (k + j)) = false)
  | k, [], _, j, oj, h, _, _, _ => by simp at h
  | k, o :: l, h, 0, oj, ho, hne, hun, hno => by
    simp only [List.getElem?_cons_zero, Option.some.injEq] at ho
    subst ho
    simp only [freeAt, Bool.and_eq_true, Bool.or_eq_true] at h
    obtain ⟨h, _⟩ := h
    rcases h with h | h | h | h
    · exact absurd (Nat.eq_of_beq_eq_true h) hne
    · rw [Array.getD_eq_getD_getElem?, List.getElem?_toArray, Nat.add_zero] at hun
      rw [List.getD_eq_getElem?_getD, hun] at h
      cases h
    · rw [Array.any_toList] at h
      obtain ⟨e, he, hb⟩ := Array.any_eq_true'.1 h
      rw [Bool.and_eq_true] at hb
      exact absurd (Nat.eq_of_beq_eq_true hb.2) (hno e he hb.1)
    · refine ⟨h.1, fun hk => ?_⟩
      have := h.2
      rw [hk] at this
      simpa using this
  | k, o :: l, h, j + 1, oj, ho, hne, hun, hno => by
    simp only [freeAt, Bool.and_eq_true] at h
    have := freeAt_ok h.2 j oj (by simpa using ho) (by omega) (by rw [show k + 1 + j = k + (j + 1) by omega]; exact hun) hno
    rw [show k + 1 + j = k + (j + 1) by omega] at this
    exact this

def noSelectL (ops : List Oper) : Bool := ops.all fun o => match o.op with | .select .. => false | .defer _ => false | _ => true

theorem noSelectL_ok {ops : Array Oper} (h : noSelectL ops.toList = true) (j : Nat) (o : Oper) (cs : Array SelectCase) (b : Bool) (ho : ops[j]? = some o) : o.op ≠ .select cs b := by
  intro heq
  have := List.all_eq_true.1 h o (by rw [Array.mem_toList_iff]; exact Array.mem_of_getElem? ho)
  simp [heq] at this

theorem noDeferL_ok {ops : Array Oper} (h : noSelectL ops.toList = true) (j : Nat) (o : Oper) (c : Call) (ho : ops[j]? = some o) : o.op ≠ .defer c := by
  intro heq
  have := List.all_eq_true.1 h o (by rw [Array.mem_toList_iff]; exact Array.mem_of_getElem? ho)
  simp [heq] at this

theorem opIn_of_op {q : Option Nat} {P : Program} {ops : Array Oper} {Q : Exit → Act → World → Prop} (hno : ¬ LetsOut Q) (hnd : ∀ (j : Nat) (o : Oper) (c : Call), ops[j]? = some o → o.op ≠ .defer c) {i : Nat} {K K' : Act → World → Prop} (hK : ∀ a w, K a w → K' a w) {a : Act} {w : World}
    (h : wpOp P ops Q i K a w) : wpOpIn (Fr q) 0 P ops Q i K' a w := by
  unfold wpOp at h
  unfold wpOpIn
  cases ho : ops[i]? with
  | none => rw [ho] at h; exact hK _ _ h
  | some o =>
    rw [ho] at h
    simp only at h ⊢
    split
    · rename_i hw
      rw [if_pos hw] at h
      rcases h with h | ⟨_, h⟩
      · exact Oper.wpIn_mono hK (wp_in (fun c => hnd i o c ho) h)
      · exact absurd h hno
    · rename_i hw
      rw [if_neg hw] at h
      exact ⟨fun _ _ => trivial, hK _ _ h⟩

/-- Any order, within a round, too. -/
theorem anyIn_of_any {q : Option Nat} {P : Program} {ops : Array Oper} {Q : Exit → Act → World → Prop} {md : Region.Mode} (hno : ¬ LetsOut Q) (hnd : ∀ (j : Nat) (o : Oper) (c : Call), ops[j]? = some o → o.op ≠ .defer c) : ∀ (n : Nat) (l : Array Bool) (a : Act) (w : World),
    wpAny P md ops Q n l a w → wpAnyIn (Fr q) 0 P md ops Q n l a w
  | 0, _, _, _, h => h
  | n + 1, l, a, w, h => ⟨h.1, fun i hi => opIn_of_op hno hnd (anyIn_of_any hno hnd n _) (h.2 i hi)⟩
end
end Go.Proofs.Ytnoonoghemgbbaa.Sx
