import Derived.Test.YtnoonoghemgbbaaOr4
import Derived.OrdersHeld
/-
  A symbolic evaluator over the model's code: part 17: regions that draw their order: what may be taken first.
-/
set_option linter.unusedVariables false
set_option linter.unusedSimpArgs false
namespace Go.Proofs.Ytnoonoghemgbbaa.Sx
open Go
noncomputable section

section
variable {P : Program} {ops : Array Oper} {Q : Exit → Act → World → Prop} {W : Nat → Bool} {S : World → Prop}

/-- Any order; S is kept by every operation but W's; behind one of these nothing is asked. -/
def wpH (P : Program) (ops : Array Oper) (Q : Exit → Act → World → Prop) (W : Nat → Bool) (S : World → Prop) : Nat → Array Bool → Act → World → Prop
  | 0, l, a, w => Region.ready .any ops l = [] ∧ Q .normal a w
  | n + 1, l, a, w => (Region.ready .any ops l = [] → Q .normal a w) ∧ ∀ i, i ∈ Region.ready .any ops l →
      wpOp P ops Q i (fun a' w' => (W i = true → wpAny P .any ops Q n (l.setIfInBounds i true) a' w') ∧ (W i = false → S w' ∧ wpH P ops Q W S n (l.setIfInBounds i true) a' w')) a w

theorem wpH_any : ∀ (n : Nat) (l : Array Bool) (a : Act) (w : World), wpH P ops Q W S n l a w → wpAny P .any ops Q n l a w
  | 0, _, _, _, h => h
  | n + 1, l, a, w, h => ⟨h.1, fun i hi => wpOp_mono (fun a' w' h' => by
      cases hw : W i with
      | true => exact h'.1 hw
      | false => exact wpH_any n _ _ _ (h'.2 hw).2) (h.2 i hi)⟩

/-- What yields the same wherever S holds may be taken first, if no writer comes before it. -/
theorem wpH_first {i : Nat} {oi : Oper} {v : Value} (hi : ops[i]? = some oi) (hsel : ∀ (j : Nat) (o : Oper) cs b, ops[j]? = some o → o.op ≠ .select cs b)
    (hQ : ∀ c a w, ¬ Q (.panic c) a w) (hWi : W i = false) :
    ∀ (n : Nat) (l : Array Bool) (a : Act) (w : World),
      (∀ j oj, ops[j]? = some oj → j ≠ i → l.getD j true = false → (∀ e ∈ oj.after, Region.binds .any e = true → e.on ≠ i) → oi.apart ops oj = true ∧ W j = false) →
      i ∈ Region.ready .any ops l → YieldsIf P ops S oi v a → S w →
      wpH P ops Q W S n (l.setIfInBounds i true) (a.put oi.dst v) w → wpH P ops Q W S (n + 1) l a w := by
  have hit : ∀ {n : Nat} {l : Array Bool} {a : Act} {w : World}, YieldsIf P ops S oi v a → S w → wpH P ops Q W S n (l.setIfInBounds i true) (a.put oi.dst v) w →
      wpOp P ops Q i (fun a' w' => (W i = true → wpAny P .any ops Q n (l.setIfInBounds i true) a' w') ∧ (W i = false → S w' ∧ wpH P ops Q W S n (l.setIfInBounds i true) a' w')) a w :=
    fun hy hS H => hy.wpOp hi hS ⟨fun h => by rw [hWi] at h; exact Bool.noConfusion h, fun _ => ⟨hS, H⟩⟩
  intro n
  induction n with
  | zero =>
    intro l a w _ hr hy hS H
    refine ⟨fun h => (by rw [h] at hr; cases hr), fun j hj => ?_⟩
    by_cases hji : j = i
    · subst hji; exact hit hy hS H
    · have := ready_mono hj hji
      rw [H.1] at this
      cases this
  | succ n ih =>
    intro l a w hfree hr hy hS H
    refine ⟨fun h => (by rw [h] at hr; cases hr), fun j hj => ?_⟩
    by_cases hji : j = i
    · subst hji; exact hit hy hS H
    · have h1 := H.2 j (ready_mono hj hji)
      obtain ⟨hjun, oj, hoj, hall⟩ := mem_ready.1 hj
      have hnot : ∀ e ∈ oj.after, Region.binds .any e = true → e.on ≠ i := fun e he hb heq => by
        have h1 := hall e he hb
        have h0 := (mem_ready.1 hr).1
        rw [heq] at h1
        rcases Nat.lt_or_ge i l.size with h' | h'
        · simp [h'] at h0 h1; rw [h0] at h1; cases h1
        · simp [Array.getElem?_eq_none h'] at h1
      obtain ⟨hap, hWj⟩ := hfree j oj hoj hji hjun hnot
      have h2 := wpOp_putIf hoj hap (fun cs b => hsel i oi cs b hi) (fun cs b => hsel j oj cs b hoj) (fun c a w h => (hQ _ _ _ h).elim) hy h1
      have hfree' : ∀ k ok, ops[k]? = some ok → k ≠ i → (l.setIfInBounds j true).getD k true = false →
          (∀ e ∈ ok.after, Region.binds .any e = true → e.on ≠ i) → oi.apart ops ok = true ∧ W k = false := fun k ok hk hki hun hno => by
        refine hfree k ok hk hki ?_ hno
        by_cases hjk : j = k
        · subst hjk; exact hjun
        · rw [getD_set_ne true hjk] at hun; exact hun
      refine wpOp_mono (fun a' w' h3 => ⟨fun h => by rw [hWj] at h; exact Bool.noConfusion h, fun _ => ?_⟩) h2
      obtain ⟨h4, h5⟩ := h3.2.2 hWj
      refine ⟨h4, ih (l.setIfInBounds j true) a' w' hfree' (ready_mono hr (Ne.symm hji)) h3.1 h4 ?_⟩
      rw [Array.setIfInBounds_comm _ _ hji]
      exact h5
end

/-! ### Lists in the place of arrays -/

def readyAt (ops : List Oper) (ls : List Bool) (i : Nat) : Bool :=
  match ls[i]?, ops[i]? with
  | some false, some o => o.after.toList.all fun e => !Region.binds .any e || ls.getD e.on false
  | _, _ => false

def readyL (ops : List Oper) (ls : List Bool) : List Nat := (List.range ops.length).filter (readyAt ops ls)

theorem readyL_eq (ops : Array Oper) (ls : List Bool) : Region.ready .any ops ls.toArray = readyL ops.toList ls := by
  unfold Region.ready readyL
  rw [Array.length_toList]
  congr 1
  funext i
  unfold readyAt
  simp only [Array.getElem?_toList, Array.getD_eq_getD_getElem?, List.getElem?_toArray]
  cases h : ls[i]? with
  | none => simp
  | some b => cases b <;> cases ho : ops[i]? <;> simp [Array.all_toList]

/-- Every other operation that has not come up waits for i, or is apart from it (and no writer). -/
def freeAt (ops : Array Oper) (ls : List Bool) (Wl : List Nat) (keep : Bool) (i : Nat) (oi : Oper) : Nat → List Oper → Bool
  | _, [] => true
  | j, oj :: rest => (Nat.beq j i || (ls.getD j true || (oj.after.toList.any (fun e => Region.binds .any e && Nat.beq e.on i) || (oi.apart ops oj && !(keep && Wl.any (Nat.beq j)))))) && freeAt ops ls Wl keep i oi (j + 1) rest

theorem freeAt_ok {ops : Array Oper} {ls : List Bool} {Wl : List Nat} {keep : Bool} {i : Nat} {oi : Oper} : ∀ {k : Nat} {l : List Oper}, freeAt ops ls Wl keep i oi k l = true → ∀ (j : Nat) (oj : Oper), l[j]? = some oj →
    k + j ≠ i → ls.toArray.getD (k + j) true = false → (∀ e ∈ oj.after, Region.binds .any e = true → e.on ≠ i) → oi.apart ops oj = true ∧ (keep = true → Wl.any (Nat.beq (k + j)) = false)
  | k, [], _, j, oj, h, _, _, _ => by simp at h
  | k, o :: l, h, 0, oj, ho, hne, hun, hno => by
    simp only [List.getElem?_cons_zero, Option.some.injEq] at ho
    subst ho
    simp only [freeAt, Bool.and_eq_true, Bool.or_eq_true] at h
    obtain ⟨h, _⟩ := h
    rcases h with h | h | h | h
    · exact absurd (Nat.eq_of_beq_eq_true h) hne
    · rw [Array.getD_eq_getD_getElem?, List.getElem?_toArray, Nat.add_zero] at hun
      rw [List.getD_eq_getElem?_getD, hun] at h
      cases h
    · rw [Array.any_toList] at h
      obtain ⟨e, he, hb⟩ := Array.any_eq_true'.1 h
      rw [Bool.and_eq_true] at hb
      exact absurd (Nat.eq_of_beq_eq_true hb.2) (hno e he hb.1)
    · refine ⟨h.1, fun hk => ?_⟩
      have := h.2
      rw [hk] at this
      simpa using this
  | k, o :: l, h, j + 1, oj, ho, hne, hun, hno => by
    simp only [freeAt, Bool.and_eq_true] at h
    have := freeAt_ok h.2 j oj (by simpa using ho) (by omega) (by rw [show k + 1 + j = k + (j + 1) by omega]; exact hun) hno
    rw [show k + 1 + j = k + (j + 1) by omega] at this
    exact this

def noSelectL (ops : List Oper) : Bool := ops.all fun o => match o.op with | .select .. => false | .defer _ => false | _ => true

theorem noSelectL_ok {ops : Array Oper} (h : noSelectL ops.toList = true) (j : Nat) (o : Oper) (cs : Array SelectCase) (b : Bool) (ho : ops[j]? = some o) : o.op ≠ .select cs b := by
  intro heq
  have := List.all_eq_true.1 h o (by rw [Array.mem_toList_iff]; exact Array.mem_of_getElem? ho)
  simp [heq] at this

theorem noDeferL_ok {ops : Array Oper} (h : noSelectL ops.toList = true) (j : Nat) (o : Oper) (c : Call) (ho : ops[j]? = some o) : o.op ≠ .defer c := by
  intro heq
  have := List.all_eq_true.1 h o (by rw [Array.mem_toList_iff]; exact Array.mem_of_getElem? ho)
  simp [heq] at this

theorem opIn_of_op {q : Option Nat} {P : Program} {ops : Array Oper} {Q : Exit → Act → World → Prop} (hno : ¬ LetsOut Q) (hnd : ∀ (j : Nat) (o : Oper) (c : Call), ops[j]? = some o → o.op ≠ .defer c) {i : Nat} {K K' : Act → World → Prop} (hK : ∀ a w, K a w → K' a w) {a : Act} {w : World}
    (h : wpOp P ops Q i K a w) : wpOpIn (Fr q) 0 P ops Q i K' a w := by
  unfold wpOp at h
  unfold wpOpIn
  cases ho : ops[i]? with
  | none => rw [ho] at h; exact hK _ _ h
  | some o =>
    rw [ho] at h
    simp only at h ⊢
    split
    · rename_i hw
      rw [if_pos hw] at h
      rcases h with h | ⟨_, h⟩
      · exact Oper.wpIn_mono hK (wp_in (fun c => hnd i o c ho) h)
      · exact absurd h hno
    · rename_i hw
      rw [if_neg hw] at h
      exact ⟨fun _ _ => trivial, hK _ _ h⟩

/-- Any order, within a round, too. -/
theorem anyIn_of_any {q : Option Nat} {P : Program} {ops : Array Oper} {Q : Exit → Act → World → Prop} {md : Region.Mode} (hno : ¬ LetsOut Q) (hnd : ∀ (j : Nat) (o : Oper) (c : Call), ops[j]? = some o → o.op ≠ .defer c) : ∀ (n : Nat) (l : Array Bool) (a : Act) (w : World),
    wpAny P md ops Q n l a w → wpAnyIn (Fr q) 0 P md ops Q n l a w
  | 0, _, _, _, h => h
  | n + 1, l, a, w, h => ⟨h.1, fun i hi => opIn_of_op hno hnd (anyIn_of_any hno hnd n _) (h.2 i hi)⟩
end
end Go.Proofs.Ytnoonoghemgbbaa.Sx

/-
  A symbolic evaluator over the model's code: part 18: other orders of new blocks; operations that yield the same in many worlds.
-/
set_option linter.unusedVariables false
set_option linter.unusedSimpArgs false
namespace Go.Proofs.Ytnoonoghemgbbaa.Sx
open Go
noncomputable section

/-! ### New blocks in another order -/

def pf (n : Nat) (s : List Nat) (i : Nat) : Nat := match Nat.blt i n with
  | true => i
  | false => match s[i - n]? with
    | some j => j
    | none => i

def posOf (j : Nat) : List Nat → Nat → Nat
  | [], k => k
  | x :: l, k => match Nat.beq x j with
    | true => k
    | false => posOf j l (k + 1)

def pinv (n : Nat) (s : List Nat) (j : Nat) : Nat := match Nat.blt j n with
  | true => j
  | false => posOf j s n

def permOk (n : Nat) (s : List Nat) (N : Nat) : Bool :=
  Nat.beq N (n + s.length) && (List.range s.length).all fun i =>
    Nat.beq (pinv n s (pf n s (n + i))) (n + i) && Nat.beq (pf n s (pinv n s (n + i))) (n + i) &&
    (Nat.ble n (pf n s (n + i)) && Nat.blt (pf n s (n + i)) N) && (Nat.ble n (pinv n s (n + i)) && Nat.blt (pinv n s (n + i)) N)

structure Perm (n N : Nat) (f g : Nat → Nat) : Prop where
  le : n ≤ N
  fix : ∀ i, i < n → f i = i ∧ g i = i
  gf : ∀ i, n ≤ i → i < N → g (f i) = i ∧ n ≤ f i ∧ f i < N
  fg : ∀ i, n ≤ i → i < N → f (g i) = i ∧ n ≤ g i ∧ g i < N

theorem permOk_ok {n : Nat} {s : List Nat} {N : Nat} (h : permOk n s N = true) : Perm n N (pf n s) (pinv n s) := by
  unfold permOk at h
  rw [Bool.and_eq_true] at h
  obtain ⟨h1, h2⟩ := h
  have hN := Nat.eq_of_beq_eq_true h1
  have key : ∀ i, n ≤ i → i < N → (pinv n s (pf n s i) = i ∧ pf n s (pinv n s i) = i) ∧ (n ≤ pf n s i ∧ pf n s i < N) ∧ (n ≤ pinv n s i ∧ pinv n s i < N) := by
    intro i hi hlt
    have := List.all_eq_true.1 h2 (i - n) (List.mem_range.2 (by omega))
    rw [show n + (i - n) = i by omega] at this
    simp only [Bool.and_eq_true] at this
    obtain ⟨⟨⟨a, b⟩, c, d⟩, e, g⟩ := this
    exact ⟨⟨Nat.eq_of_beq_eq_true a, Nat.eq_of_beq_eq_true b⟩, ⟨Nat.le_of_ble_eq_true c, by simpa [Nat.blt_eq] using d⟩, Nat.le_of_ble_eq_true e, by simpa [Nat.blt_eq] using g⟩
  refine ⟨by omega, fun i hi => ?_, fun i h1 h2 => ⟨(key i h1 h2).1.1, (key i h1 h2).2.1⟩, fun i h1 h2 => ⟨(key i h1 h2).1.2, (key i h1 h2).2.2⟩⟩
  have : Nat.blt i n = true := by simpa [Nat.blt_eq] using hi
  unfold pf pinv
  rw [this]
  exact ⟨rfl, rfl⟩

section
variable {D : Type}

def permH (f g : Nat → Nat) (N : Nat) (H : Heap D) : Heap D := (List.range N).map fun j => match H[g j]? with
  | some (some b) => some (renB f b)
  | _ => none

theorem permH_get {f g : Nat → Nat} {N : Nat} {H : Heap D} {j : Nat} {b : Blk D} (h : (permH f g N H)[j]? = some (some b)) : j < N ∧ ∃ b', H[g j]? = some (some b') ∧ b = renB f b' := by
  unfold permH at h
  rw [List.getElem?_map] at h
  rcases Nat.lt_or_ge j N with hj | hj
  · rw [List.getElem?_range hj] at h
    simp only [Option.map_some, Option.some.injEq] at h
    refine ⟨hj, ?_⟩
    split at h
    · rename_i b' hb
      exact ⟨b', hb, by simpa using h.symm⟩
    · cases h
  · rw [List.getElem?_eq_none (by simpa using hj)] at h
    cases h

theorem Step.perm {n N : Nat} {f g : Nat → Nat} (hp : Perm n N f g) {ρ ρ' : Map} {H H' : Heap D} {w w' : World} {low : Nat} (hn : H.length = n) (hN : H'.length = N) (r : Rel ρ H w) (h : Step ρ H w low ρ' H' w') :
    ∃ ρ'', Step ρ H w low ρ'' (permH f g N H') w' ∧ GoesBy f ρ' ρ'' := by
  have gN : ∀ j, j < N → g j < N := fun j hj => by
    rcases Nat.lt_or_ge j n with h1 | h1
    · rw [(hp.fix j h1).2]; omega
    · exact (hp.fg j h1 hj).2.2
  have fN : ∀ j, j < N → f j < N := fun j hj => by
    rcases Nat.lt_or_ge j n with h1 | h1
    · rw [(hp.fix j h1).1]; omega
    · exact (hp.gf j h1 hj).2.2
  have gf : ∀ j, j < N → g (f j) = j := fun j hj => by
    rcases Nat.lt_or_ge j n with h1 | h1
    · rw [(hp.fix j h1).1, (hp.fix j h1).2]
    · exact (hp.gf j h1 hj).1
  have fg : ∀ j, j < N → f (g j) = j := fun j hj => by
    rcases Nat.lt_or_ge j n with h1 | h1
    · rw [(hp.fix j h1).2, (hp.fix j h1).1]
    · exact (hp.fg j h1 hj).1
  have hl : ρ'.length = N := by rw [h.rel.len, hN]
  let ρ'' : Map := (List.range N).map fun j => ρ'.getD (g j) fun _ => ⟨0, 0, 0, fun _ => False, default⟩
  have get : ∀ j, j < N → ρ''[j]? = ρ'[g j]? := fun j hj => by
    have : g j < ρ'.length := by rw [hl]; exact gN j hj
    simp only [ρ'']
    rw [List.getElem?_map, List.getElem?_range hj, Option.map_some, List.getD_eq_getElem?_getD, List.getElem?_eq_getElem this]
    rfl
  have lt' : ∀ (i : Nat) (F : Nat → Loc), ρ'[i]? = some F → i < N := fun i F e => by rw [← hl]; exact (List.getElem?_eq_some_iff.1 e).1
  have lt'' : ∀ (i : Nat) (F : Nat → Loc), ρ''[i]? = some F → i < N := fun i F e => by
    have := (List.getElem?_eq_some_iff.1 e).1
    simpa [ρ''] using this
  have gb : GoesBy f ρ' ρ'' := fun i F e => by
    have hi := lt' i F e
    exact ⟨F, by rw [get _ (fN i hi), gf i hi]; exact e, Lo.refl F⟩
  have own : ∀ id k, ownAt ρ'' (permH f g N H') id k → ownAt ρ' H' (g id) k := by
    rintro id k ⟨b, F, idx, h1, h2, h3, h4, h5⟩
    obtain ⟨hid, b', hb, rfl⟩ := permH_get h1
    rw [get id hid] at h4
    exact ⟨b', F, idx, hb, by rw [← renB_own f]; exact h2, (renB_live f b' idx).1 h3, h4, h5⟩
  refine ⟨ρ'', ⟨?_, ⟨by simp [ρ'', permH], ?_, ?_⟩, h.ext, ?_, ?_, ?_⟩, gb⟩
  · intro i F e
    have hi : i < n := by rw [← hn, ← r.len]; exact (List.getElem?_eq_some_iff.1 e).1
    obtain ⟨F', e', l⟩ := h.goes i F e
    have hle := hp.le
    exact ⟨F', by rw [get i (by omega), (hp.fix i hi).2]; exact e', l⟩
  · intro id b F idx h1 h2
    obtain ⟨hid, b', hb, rfl⟩ := permH_get h1
    rw [get id hid] at h2
    exact BlkAt.ren gb (h.rel.at_ _ _ _ idx hb h2)
  · intro id b F idx id' b' F' idx' h1 h2 h3 h4 h5 h6 h7 h8
    obtain ⟨hid, c, hc, rfl⟩ := permH_get h1
    obtain ⟨hid', c', hc', rfl⟩ := permH_get h5
    rw [get _ hid] at h2
    rw [get _ hid'] at h6
    refine h.rel.apart _ c F idx _ c' F' idx' hc h2 ((renB_live f c idx).1 h3) (by rw [← renB_own f]; exact h4) hc' h6 ((renB_live f c' idx').1 h7) fun e => h8 ?_
    simp only [Prod.mk.injEq] at e ⊢
    exact ⟨by rw [← fg id hid, e.1, fg id' hid'], e.2⟩
  · intro id k o
    have hid : id < N := by
      obtain ⟨b, F, idx, h1, h2, h3, h4, h5⟩ := o
      exact lt'' _ _ h4
    rcases h.each _ _ (own id k o) with a | a | a
    · exact .inl a
    · exact .inr (.inl a)
    · refine .inr (.inr ?_)
      rcases Nat.lt_or_ge id n with h1 | h1
      · rw [(hp.fix id h1).2] at a; exact a
      · obtain ⟨b, F, idx, h2, _⟩ := a
        have := (List.getElem?_eq_some_iff.1 h2).1
        have := (hp.fg id h1 hid).2.1
        omega
  · intro id b' hid hb
    obtain ⟨hidN, b2, hb2, rfl⟩ := permH_get hb
    rw [(hp.fix id (by omega)).2] at hb2
    obtain ⟨b, e, o, l, k⟩ := h.old id b2 hid hb2
    refine ⟨b, e, by rw [renB_own]; exact o, fun idx hx => l idx ((renB_live f b2 idx).1 hx), fun ho F F' hF hF' => ?_⟩
    rw [get id hidN, (hp.fix id (by omega)).2] at hF'
    exact k (by rw [← renB_own f]; exact ho) F F' hF hF'
  · intro id b' hid hb
    obtain ⟨hidN, b2, hb2, rfl⟩ := permH_get hb
    rw [renB_own]
    exact h.mine _ b2 (by rw [hn]; exact (hp.fg id (by omega) hidN).2.1) hb2
end

/-! ### Values that are one -/

def sureC : Cell → Bool
  | .empty => false
  | .anyp => false
  | _ => true
def sure1 : AV1 → Bool
  | .cell c => sureC c
  | .agg cs => cs.all sureC
def sureV : AV → Bool
  | .cell c => sureC c
  | .agg cs => cs.all sureC
  | .tup l => l.all sure1
  | .junk => false

theorem All2.fun_ {α β : Type} {R : α → β → Prop} {q : α → Bool} (h : ∀ a b c, q a = true → R a b → R a c → b = c) : ∀ {l : List α} {m k : List β}, l.all q = true → All2 R l m → All2 R l k → m = k
  | [], [], [], _, _, _ => rfl
  | a :: l, b :: m, c :: k, hq, ⟨h1, h2⟩, ⟨h3, h4⟩ => by
    simp only [List.all_cons, Bool.and_eq_true] at hq
    rw [h a b c hq.1 h1 h3, All2.fun_ h hq.2 h2 h4]
  | [], _ :: _, _, _, h, _ => h.elim
  | [], [], _ :: _, _, _, h => h.elim
  | _ :: _, [], _, _, h, _ => h.elim
  | _ :: _, _ :: _, [], _, _, h => h.elim

theorem RC.sure {ρ : Map} {c : Cell} {v u : Value} (hs : sureC c = true) (h : RC ρ c v) (k : RC ρ c u) : v = u := by
  cases c with
  | yld id =>
    obtain ⟨F, h2, rfl⟩ := h
    obtain ⟨G, k2, rfl⟩ := k
    rw [h2] at k2; cases k2; rfl
  | ptr nl id idx off =>
    rcases h with ⟨h1, rfl⟩ | ⟨h1, F, h2, rfl⟩ <;> rcases k with ⟨k1, rfl⟩ | ⟨k1, G, k2, rfl⟩
    · rfl
    · rw [h1] at k1; cases k1
    · rw [h1] at k1; cases k1
    · rw [h2] at k2; cases k2; rfl
  | slice nl id idx off len cap sz =>
    rcases h with ⟨h1, h2, rfl⟩ | ⟨h1, F, r, h2, rfl, h3, h4⟩ <;> rcases k with ⟨k1, k2, rfl⟩ | ⟨k1, G, q, k2, rfl, k3, k4⟩
    · rfl
    · rw [h1] at k1; cases k1
    · rw [h1] at k1; cases k1
    · rw [h2] at k2; cases k2
      cases cap with
      | some c => simp only at h4 k4; rw [h4, k4]
      | none => simp only at h4 k4; rw [h4, k4]
  | func f caps =>
    obtain ⟨vs, rfl, h1⟩ := h
    obtain ⟨us, rfl, k1⟩ := k
    have : vs = us := All2.fun_ (q := fun _ => true) (fun p b c _ hb hc => by
      obtain ⟨F, e1, rfl⟩ := hb
      obtain ⟨G, e2, rfl⟩ := hc
      rw [e1] at e2; cases e2; rfl) (by simp) h1 k1
    rw [this]
  | map nl id idx =>
    rcases h with ⟨h1, rfl⟩ | ⟨h1, F, h2, rfl⟩ <;> rcases k with ⟨k1, rfl⟩ | ⟨k1, G, k2, rfl⟩
    · rfl
    · rw [h1] at k1; cases k1
    · rw [h1] at k1; cases k1
    · rw [h2] at k2; cases k2; rfl
  | bool b => cases h; cases k; rfl
  | int a b => cases h; cases k; rfl
  | str l => cases h; cases k; rfl
  | empty => cases hs
  | nilFunc => cases h; cases k; rfl
  | anyp => cases hs

theorem R1.sure {ρ : Map} {c : AV1} {v u : Value} (hs : sure1 c = true) (h : R1 ρ c v) (k : R1 ρ c u) : v = u := by
  cases c with
  | cell c => exact RC.sure hs h k
  | agg cs =>
    obtain ⟨vs, rfl, h1⟩ := h
    obtain ⟨us, rfl, k1⟩ := k
    rw [All2.fun_ (fun _ _ _ => RC.sure) hs h1 k1]

theorem RV.sure {ρ : Map} {c : AV} {v u : Value} (hs : sureV c = true) (h : RV ρ c v) (k : RV ρ c u) : v = u := by
  cases c with
  | cell c => exact RC.sure hs h k
  | agg cs =>
    obtain ⟨vs, rfl, h1⟩ := h
    obtain ⟨us, rfl, k1⟩ := k
    rw [All2.fun_ (fun _ _ _ => RC.sure) hs h1 k1]
  | tup l =>
    obtain ⟨vs, rfl, h1⟩ := h
    obtain ⟨us, rfl, k1⟩ := k
    rw [All2.fun_ (fun _ _ _ => R1.sure) hs h1 k1]
  | junk => cases hs

def isMove : Op → Bool
  | .move _ => true
  | .assign _ => true
  | _ => false

section
variable {D : Type}

/-- What an operation yields that turns nothing. -/
def calmA (P : Program) (Hx : Heap D) (ops : Array Oper) (t : List AV) (dec : Dec) (o : Oper) : Option (VC × AV × Dec) :=
  match guardA ops t o dec with
  | some (p, false, d) => some (p, undefA, d)
  | some (p, true, d) => match pureA P Hx t d o.op with
    | some (q, v, d') => match isMove o.op || sureV v with
      | true => some (p ++ vcOf o.op q, v, d')
      | false => none
    | none => none
  | none => none

theorem calmA_ok {P : Program} {ops : Array Oper} {S : World → Prop} {ρ ρx : Map} {Hx : Heap D} {t : List AV} {a : Act} {dec d : Dec} {o : Oper} {p : VC} {v : AV} {w : World}
    (hx : ∀ w', S w' → Rel ρx Hx w') (g1 : Goes ρ ρx) (g2 : Goes ρx ρ) (hS : S w) (ht : TR ρ t a) (h : calmA P Hx ops t dec o = some (p, v, d)) (hp : VC.ok p) :
    ∃ r, YieldsIf P ops S o r a ∧ RV ρ v r := by
  have htx : TR ρx t a := ht.goes g1
  unfold calmA at h
  split at h
  · rename_i q d1 hg
    cases h
    exact ⟨undef, .inr ⟨guardA_ok ht hg hp, rfl⟩, undef_ok⟩
  · rename_i q d1 hg
    split at h
    · rename_i q2 v2 d2 hpu
      split at h
      · rename_i hs
        cases h
        have hp := ok_app.1 hp
        have hw := guardA_ok ht hg hp.1
        have hok : ∀ w', S w' → PureOk P ρx w' a o v := fun w' h' => pureA_ok (hx w' h') htx hpu (easy_ok hpu hp.2)
        obtain ⟨r, hr, hv⟩ := hok w hS
        refine ⟨r, .inl ⟨hw, fun w' h' => ?_⟩, hv.goes g2⟩
        rw [Bool.or_eq_true] at hs
        rcases hs with hs | hs
        · obtain ⟨dst, op, type, pos, after, guard⟩ := o
          cases op with
          | move x =>
            have e : ∀ w, (execOp a.eval ⟨dst, .move x, type, pos, after, guard⟩).run P w = .ok (.value (a.eval x)) w := fun _ => rfl
            rw [e] at hr ⊢
            simpa using hr
          | assign x =>
            have e : ∀ w, (execOp a.eval ⟨dst, .assign x, type, pos, after, guard⟩).run P w = .ok (.value (a.eval x)) w := fun _ => rfl
            rw [e] at hr ⊢
            simpa using hr
          | _ => simp only [isMove, Bool.false_eq_true] at hs
        · obtain ⟨r', hr', hv'⟩ := hok w' h'
          rw [hr', RV.sure hs hv' hv]
      · cases h
    · cases h
  · cases h
end
end
end Go.Proofs.Ytnoonoghemgbbaa.Sx

/-
  A symbolic evaluator over the model's code: part 19: regions that draw their order.
-/
set_option linter.unusedVariables false
set_option linter.unusedSimpArgs false
namespace Go.Proofs.Ytnoonoghemgbbaa.Sx
open Go
noncomputable section

section
variable {D : Type}

/-- The blocks of H below m, as they stand; those above are not known. -/
def coldH (m n : Nat) (H : Heap D) : Heap D := H.take m ++ List.replicate (n - m) none

/-- The first one of those ready that may be taken ahead. -/
def pickA (P : Program) (H0 : Heap D) (m : Nat) (Wl : List Nat) (ops : Array Oper) (clean : Bool) (ls : List Bool) (t : List AV) (n : Nat) (dec : Dec) : List Nat → Option (Nat × Oper × VC × AV × Dec)
  | [] => none
  | i :: rest => match ops[i]? with
    | none => none
    | some o => match freeAt ops ls Wl false i o 0 ops.toList with
      | false => pickA P H0 m Wl ops clean ls t n dec rest
      | true => match calmA P (List.replicate n (none : Option (Blk D))) ops t dec o with
        | some (p, v, d) => some (i, o, p, v, d)
        | none => match clean && (!(Wl.any (Nat.beq i)) && freeAt ops ls Wl true i o 0 ops.toList) with
          | false => pickA P H0 m Wl ops clean ls t n dec rest
          | true => match calmA P (coldH m n H0) ops t dec o with
            | some (p, v, d) => some (i, o, p, v, d)
            | none => pickA P H0 m Wl ops clean ls t n dec rest

def idsC : Cell → List Nat
  | .ptr _ id _ _ => [id]
  | .slice _ id _ _ _ _ _ => [id]
  | .func _ caps => caps.map (·.1)
  | .map _ id _ => [id]
  | .yld id => [id]
  | _ => []
def ids1 : AV1 → List Nat
  | .cell c => idsC c
  | .agg cs => cs.flatMap idsC
def idsV : AV → List Nat
  | .cell c => idsC c
  | .agg cs => cs.flatMap idsC
  | .tup l => l.flatMap ids1
  | .junk => []

def fixT (f : Nat → Nat) (t : List AV) : Bool := t.all fun v => (idsV v).all fun i => Nat.beq (f i) i

def dstsA : List Oper → List Bool → List Nat
  | o :: l, false :: ls => match o.dst with
    | some d => d :: dstsA l ls
    | none => dstsA l ls
  | _ :: l, _ :: ls => dstsA l ls
  | _, _ => []

/-- The other orders end as the first one does. -/
def joinA (br : Nat → Dec → RR D) (n : Nat) (t : List AV) (ds : List Nat) : List Nat → (VC × List AV × Heap D × Nat × Dec) → RR D
  | [], acc => some acc
  | i :: rest, (p, t1, H1, l1, dec) => match dec with
    | [] => none
    | k :: d => match br i (d.drop k) with
      | none => none
      | some (q, t2, H2, l2, d2) => match permOk n (d.take k) H2.length && fixT (pf n (d.take k)) t with
        | false => none
        | true => joinA br n t ds rest (p ++ (q ++ [cq (ds.map fun j => t1[j]?) (ds.map fun j => (t2[j]?).map (renV (pf n (d.take k)))), cq H1 (permH (pf n (d.take k)) (pinv n (d.take k)) H2.length H2)]), t1, H1, min l1 l2, d2)

def drawA (P : Program) (E : FuncId → Sum D) (ops : Array Oper) (H0 : Heap D) (m : Nat) (Wl : List Nat) : Nat → Bool → List Bool → List AV → Heap D → Dec → RR D
  | k, clean, ls, t, H, dec => match readyL ops.toList ls with
    | [] => some ([], t, H, H.length, dec)
    | r :: rs => match k with
      | 0 => none
      | k + 1 => match pickA P H0 m Wl ops clean ls t H.length dec (r :: rs) with
        | some (i, o, p, v, d) => match drawA P E ops H0 m Wl k clean (ls.set i true) (putA t o.dst v) H d with
          | some (q, res) => some (p ++ q, res)
          | none => none
        | none =>
          let br : Nat → Dec → RR D := fun i dec => match ops[i]? with
            | none => none
            | some o => match guardA ops t o dec with
              | some (p, true, d) => match opD P E t H d o.op with
                | some (q, v, H', l, d') => match !clean || (Wl.any (Nat.beq i) || Nat.ble m l) with
                  | true => match drawA P E ops H0 m Wl k (clean && !(Wl.any (Nat.beq i))) (ls.set i true) (putA t o.dst v) H' d' with
                    | some (s, t', H'', l', d'') => some (p ++ (q ++ s), t', H'', min l l', d'')
                    | none => none
                  | false => none
                | none => none
              | _ => none
          match br r dec with
          | some acc => joinA br H.length t (dstsA ops.toList ls) rs acc
          | none => none

/-- A region that draws its order. Decisions: how much of the heap nobody but the writers turns; how many writers, and which. -/
def drawR (P : Program) (E : FuncId → Sum D) : Array Oper → List AV → Heap D → Dec → RR D := fun ops t H dec => match dec with
  | m :: k :: d => match noSelectL ops.toList && Nat.ble m H.length with
    | true => drawA P E ops H m (d.take k) ops.size true (List.replicate ops.size false) t H (d.drop k)
    | false => none
  | _ => none

end

section
variable {D : Type}

theorem coldH_get {m n : Nat} {H : Heap D} {i : Nat} {b : Blk D} (h : (coldH m n H)[i]? = some (some b)) : i < m ∧ H[i]? = some (some b) := by
  unfold coldH at h
  rcases Nat.lt_or_ge i (H.take m).length with h1 | h1
  · rw [List.getElem?_append_left h1] at h
    have h2 : i < m := by simp at h1; omega
    rw [List.getElem?_take_of_lt h2] at h
    exact ⟨h2, h⟩
  · rw [List.getElem?_append_right h1] at h
    have := List.mem_replicate.1 (List.mem_of_getElem? h)
    cases this.2

theorem nones_rel {ρ : Map} {n : Nat} (hn : ρ.length = n) (w : World) : Rel ρ (List.replicate n (none : Option (Blk D))) w := by
  refine ⟨by simpa using hn, ?_, ?_⟩
  · intro id b F idx hb
    have := List.mem_replicate.1 (List.mem_of_getElem? hb)
    cases this.2
  · intro id b F idx id' b' F' idx' hb
    have := List.mem_replicate.1 (List.mem_of_getElem? hb)
    cases this.2

/-- What is not ours from block m on is as it was. -/
def Same (ρ : Map) (H : Heap D) (w : World) (m : Nat) (w' : World) : Prop :=
  w.heap.size ≤ w'.heap.size ∧ ∀ k, k < w.heap.size → ¬ ownR ρ H m k → w'.heap[k]? = w.heap[k]?

theorem cold_rel {ρ0 ρ : Map} {H0 H : Heap D} {w0 : World} {m : Nat} (r0 : Rel ρ0 H0 w0) (hm : m ≤ H0.length) (g : Goes ρ0 ρ) (hl : ρ.length = H.length) :
    ∃ ρx, (∀ w', Same ρ0 H0 w0 m w' → Rel ρx (coldH m H.length H0) w') ∧ Goes ρ ρx ∧ Goes ρx ρ := by
  have hml : m ≤ ρ0.length := by rw [r0.len]; exact hm
  have hge : ρ0.length ≤ ρ.length := by
    rcases Nat.lt_or_ge ρ.length ρ0.length with hlt | hge
    · obtain ⟨F', this, _⟩ := g _ _ (List.getElem?_eq_getElem hlt)
      rw [List.getElem?_eq_none (Nat.le_refl _)] at this
      cases this
    · exact hge
  let ρx : Map := ρ0.take m ++ ρ.drop m
  have tl : (ρ0.take m).length = m := by simp; omega
  have lo : ∀ i, i < m → ρx[i]? = ρ0[i]? := fun i hi => by
    simp only [ρx]
    rw [List.getElem?_append_left (by omega), List.getElem?_take_of_lt hi]
  have hi' : ∀ i, m ≤ i → ρx[i]? = ρ[i]? := fun i hi => by
    simp only [ρx]
    rw [List.getElem?_append_right (by omega), tl, List.getElem?_drop, show m + (i - m) = i by omega]
  have sym : ∀ {F G : Nat → Loc}, Lo F G → Lo G F := fun h i => ⟨(h i).1.symm, (h i).2.1.symm, (h i).2.2.1.symm, (h i).2.2.2.symm⟩
  have gx : Goes ρ0 ρx := fun i F e => by
    rcases Nat.lt_or_ge i m with h | h
    · exact ⟨F, by rw [lo i h]; exact e, Lo.refl F⟩
    · obtain ⟨F', e', l⟩ := g i F e
      exact ⟨F', by rw [hi' i h]; exact e', l⟩
  refine ⟨ρx, fun w' hS => ⟨?_, ?_, ?_⟩, ?_, ?_⟩
  · simp only [ρx, coldH, List.length_append, List.length_take, List.length_drop, List.length_replicate]
    omega
  · intro id b F idx hb hF
    obtain ⟨him, hb⟩ := coldH_get hb
    rw [lo id him] at hF
    refine (r0.at_ id b F idx hb hF).keep gx hS.1 fun hlv k hk => ?_
    refine hS.2 k (r0.lt hb hF hlv hk) fun ho => ?_
    obtain ⟨id2, b2, F2, idx2, h1, h2, h3, h4, h5, h6⟩ := ho
    exact r0.apart id2 b2 F2 idx2 id b F idx h2 h5 h4 h3 hb hF hlv (fun e => by simp only [Prod.mk.injEq] at e; omega) k h6 hk
  · intro id b F idx id' b' F' idx' hb hF hlv ho hb' hF' hlv' hne
    obtain ⟨him, hb⟩ := coldH_get hb
    obtain ⟨him', hb'⟩ := coldH_get hb'
    rw [lo id him] at hF
    rw [lo id' him'] at hF'
    exact r0.apart id b F idx id' b' F' idx' hb hF hlv ho hb' hF' hlv' hne
  · intro i F e
    rcases Nat.lt_or_ge i m with h | h
    · have hlt : i < ρ0.length := by omega
      obtain ⟨F', e', l⟩ := g i _ (List.getElem?_eq_getElem hlt)
      rw [e] at e'
      cases e'
      exact ⟨_, by rw [lo i h]; exact List.getElem?_eq_getElem hlt, sym l⟩
    · exact ⟨F, by rw [hi' i h]; exact e, Lo.refl F⟩
  · intro i F e
    rcases Nat.lt_or_ge i m with h | h
    · rw [lo i h] at e
      exact g i F e
    · exact ⟨F, by rw [← hi' i h]; exact e, Lo.refl F⟩

def Fin (B : Nat) (ρ : Map) (H : Heap D) (w : World) (t : List AV) (H' : Heap D) (low : Nat) (a' : Act) (w' : World) : Prop :=
  DefOk B w' a'.defers ∧ ∃ ρ', Step ρ H w low ρ' H' w' ∧ TR ρ' t a'

/-- The state of a walk through a region that draws its order. -/
def wpX (P : Program) (ops : Array Oper) (Q : Exit → Act → World → Prop) (Wl : List Nat) (S : World → Prop) (clean : Bool) (k : Nat) (ls : List Bool) (a : Act) (w : World) : Prop :=
  match clean with
  | true => wpH P ops Q (fun i => Wl.any (Nat.beq i)) S k ls.toArray a w
  | false => wpAny P .any ops Q k ls.toArray a w

theorem pickA_ok {P : Program} {H0 : Heap D} {m : Nat} {Wl : List Nat} {ops : Array Oper} {clean : Bool} {ls : List Bool} {t : List AV} {n : Nat} {dec d : Dec} {p : VC} {v : AV} {i : Nat} {o : Oper} : ∀ {l : List Nat},
    pickA P H0 m Wl ops clean ls t n dec l = some (i, o, p, v, d) → i ∈ l ∧ ops[i]? = some o ∧
      ((freeAt ops ls Wl false i o 0 ops.toList = true ∧ calmA P (List.replicate n (none : Option (Blk D))) ops t dec o = some (p, v, d)) ∨
       (clean = true ∧ Wl.any (Nat.beq i) = false ∧ freeAt ops ls Wl true i o 0 ops.toList = true ∧ calmA P (coldH m n H0) ops t dec o = some (p, v, d)))
  | [], h => by simp [pickA] at h
  | j :: l, h => by
    have up : pickA P H0 m Wl ops clean ls t n dec l = some (i, o, p, v, d) → _ := fun h => pickA_ok (l := l) h
    unfold pickA at h
    split at h
    · cases h
    · rename_i oj hj
      split at h
      · obtain ⟨a, b⟩ := up h; exact ⟨List.mem_cons_of_mem _ a, b⟩
      · rename_i hf
        split at h
        · rename_i q u d' hc
          simp only [Option.some.injEq, Prod.mk.injEq] at h
          obtain ⟨rfl, rfl, rfl, rfl, rfl⟩ := h
          exact ⟨List.mem_cons_self, hj, .inl ⟨hf, hc⟩⟩
        · split at h
          · obtain ⟨a, b⟩ := up h; exact ⟨List.mem_cons_of_mem _ a, b⟩
          · rename_i hb
            split at h
            · rename_i q u d' hc
              simp only [Option.some.injEq, Prod.mk.injEq] at h
              obtain ⟨rfl, rfl, rfl, rfl, rfl⟩ := h
              rw [Bool.and_eq_true, Bool.and_eq_true] at hb
              exact ⟨List.mem_cons_self, hj, .inr ⟨hb.1, by simpa using hb.2.1, hb.2.2, hc⟩⟩
            · obtain ⟨a, b⟩ := up h; exact ⟨List.mem_cons_of_mem _ a, b⟩
end
end
end Go.Proofs.Ytnoonoghemgbbaa.Sx

/-
  A symbolic evaluator over the model's code: part 20: regions that draw their order: what the evaluator says the model does.
-/
set_option linter.unusedVariables false
set_option linter.unusedSimpArgs false
namespace Go.Proofs.Ytnoonoghemgbbaa.Sx
open Go
noncomputable section

section
variable {P : Program} {ops : Array Oper} {Q : Exit → Act → World → Prop} {W : Nat → Bool} {S : World → Prop}

/-- What yields the same in every world may be taken first. -/
theorem wpH_firstY {i : Nat} {oi : Oper} {v : Value} (hi : ops[i]? = some oi) (hsel : ∀ (j : Nat) (o : Oper) cs b, ops[j]? = some o → o.op ≠ .select cs b)
    (hQ : ∀ c a w, ¬ Q (.panic c) a w) :
    ∀ (n : Nat) (l : Array Bool) (a : Act) (w : World),
      (∀ j oj, ops[j]? = some oj → j ≠ i → l.getD j true = false → (∀ e ∈ oj.after, Region.binds .any e = true → e.on ≠ i) → oi.apart ops oj = true) →
      i ∈ Region.ready .any ops l → Yields P ops oi v a → S w →
      wpH P ops Q W S n (l.setIfInBounds i true) (a.put oi.dst v) w → wpH P ops Q W S (n + 1) l a w := by
  have hit : ∀ {n : Nat} {l : Array Bool} {a : Act} {w : World}, Yields P ops oi v a → S w → wpH P ops Q W S n (l.setIfInBounds i true) (a.put oi.dst v) w →
      wpOp P ops Q i (fun a' w' => (W i = true → wpAny P .any ops Q n (l.setIfInBounds i true) a' w') ∧ (W i = false → S w' ∧ wpH P ops Q W S n (l.setIfInBounds i true) a' w')) a w :=
    fun hy hS H => hy.wpOp hi ⟨fun _ => wpH_any _ _ _ _ H, fun _ => ⟨hS, H⟩⟩
  have hQ' : ∀ c a w, Q (.panic c) (a.put oi.dst v) w → Q (.panic c) a w := fun c a w h => (hQ _ _ _ h).elim
  intro n
  induction n with
  | zero =>
    intro l a w _ hr hy hS H
    refine ⟨fun h => (by rw [h] at hr; cases hr), fun j hj => ?_⟩
    by_cases hji : j = i
    · subst hji; exact hit hy hS H
    · have := ready_mono hj hji
      rw [H.1] at this
      cases this
  | succ n ih =>
    intro l a w hfree hr hy hS H
    refine ⟨fun h => (by rw [h] at hr; cases hr), fun j hj => ?_⟩
    by_cases hji : j = i
    · subst hji; exact hit hy hS H
    · have h1 := H.2 j (ready_mono hj hji)
      obtain ⟨hjun, oj, hoj, hall⟩ := mem_ready.1 hj
      have hnot : ∀ e ∈ oj.after, Region.binds .any e = true → e.on ≠ i := fun e he hb heq => by
        have h1 := hall e he hb
        have h0 := (mem_ready.1 hr).1
        rw [heq] at h1
        rcases Nat.lt_or_ge i l.size with h' | h'
        · simp [h'] at h0 h1; rw [h0] at h1; cases h1
        · simp [Array.getElem?_eq_none h'] at h1
      have h2 := wpOp_put hoj (hfree j oj hoj hji hjun hnot) (fun cs b => hsel i oi cs b hi) (fun cs b => hsel j oj cs b hoj) hQ' hy h1
      have hfree' : ∀ k ok, ops[k]? = some ok → k ≠ i → (l.setIfInBounds j true).getD k true = false →
          (∀ e ∈ ok.after, Region.binds .any e = true → e.on ≠ i) → oi.apart ops ok = true := fun k ok hk hki hun hno => by
        refine hfree k ok hk hki ?_ hno
        by_cases hjk : j = k
        · subst hjk; exact hjun
        · rw [getD_set_ne true hjk] at hun; exact hun
      refine wpOp_mono (fun a' w' h3 => ⟨fun hW => ?_, fun hW => ?_⟩) h2
      · refine wpAny_first hi hsel hQ' n (l.setIfInBounds j true) a' w' hfree' (ready_mono hr (Ne.symm hji)) h3.1 ?_
        rw [Array.setIfInBounds_comm _ _ hji]
        exact h3.2.1 hW
      · obtain ⟨h4, h5⟩ := h3.2.2 hW
        refine ⟨h4, ih (l.setIfInBounds j true) a' w' hfree' (ready_mono hr (Ne.symm hji)) h3.1 h4 ?_⟩
        rw [Array.setIfInBounds_comm _ _ hji]
        exact h5
end

/-! ### What is not written stays -/

theorem renC_fix {f : Nat → Nat} {c : Cell} (h : (idsC c).all (fun i => Nat.beq (f i) i) = true) : renC f c = c := by
  cases c with
  | ptr nl id idx off => simp only [idsC, List.all_cons, List.all_nil, Bool.and_true] at h; simp only [renC, Nat.eq_of_beq_eq_true h]
  | slice nl id idx off len cap sz => simp only [idsC, List.all_cons, List.all_nil, Bool.and_true] at h; simp only [renC, Nat.eq_of_beq_eq_true h]
  | map nl id idx => simp only [idsC, List.all_cons, List.all_nil, Bool.and_true] at h; simp only [renC, Nat.eq_of_beq_eq_true h]
  | yld id => simp only [idsC, List.all_cons, List.all_nil, Bool.and_true] at h; simp only [renC, Nat.eq_of_beq_eq_true h]
  | func g caps =>
    simp only [renC, Cell.func.injEq, true_and]
    simp only [idsC] at h
    induction caps with
    | nil => rfl
    | cons p l ih =>
      simp only [List.map_cons, List.all_cons, Bool.and_eq_true] at h
      rw [List.map_cons, ih h.2, Nat.eq_of_beq_eq_true h.1]
  | bool b => rfl
  | int k n => rfl
  | str l => rfl
  | empty => rfl
  | nilFunc => rfl
  | anyp => rfl

theorem map_fix {α : Type} {g : α → α} {ids : α → List Nat} {q : Nat → Bool} (hg : ∀ a, (ids a).all q = true → g a = a) : ∀ {l : List α}, (l.flatMap ids).all q = true → l.map g = l
  | [], _ => rfl
  | a :: l, h => by
    simp only [List.flatMap_cons, List.all_append, Bool.and_eq_true] at h
    rw [List.map_cons, hg a h.1, map_fix hg h.2]

theorem ren1_fix {f : Nat → Nat} {c : AV1} (h : (ids1 c).all (fun i => Nat.beq (f i) i) = true) : ren1 f c = c := by
  cases c with
  | cell c => simp only [ren1, renC_fix h]
  | agg cs => simp only [ren1, map_fix (fun _ => renC_fix) h]

theorem renV_fix {f : Nat → Nat} {c : AV} (h : (idsV c).all (fun i => Nat.beq (f i) i) = true) : renV f c = c := by
  cases c with
  | cell c => simp only [renV, renC_fix h]
  | agg cs => simp only [renV, map_fix (fun _ => renC_fix) h]
  | tup l => simp only [renV, map_fix (fun _ => ren1_fix) h]
  | junk => rfl

theorem dstsA_mem : ∀ {l : List Oper} {ls : List Bool} {i : Nat} {o : Oper} {d : Nat}, l[i]? = some o → ls[i]? = some false → o.dst = some d → d ∈ dstsA l ls
  | [], _, i, o, d, h, _, _ => by simp at h
  | _ :: _, [], i, o, d, _, h, _ => by simp at h
  | x :: l, b :: ls, 0, o, d, h, h1, h2 => by
    simp only [List.getElem?_cons_zero, Option.some.injEq] at h h1
    subst h h1
    simp only [dstsA, h2]
    exact List.mem_cons_self
  | x :: l, b :: ls, i + 1, o, d, h, h1, h2 => by
    have := dstsA_mem (l := l) (ls := ls) (i := i) (by simpa using h) (by simpa using h1) h2
    cases b with
    | true => exact this
    | false =>
      simp only [dstsA]
      split
      · exact List.mem_cons_of_mem _ this
      · exact this

theorem dstsA_set : ∀ {l : List Oper} {ls : List Bool} {i d : Nat}, d ∈ dstsA l (ls.set i true) → d ∈ dstsA l ls
  | [], ls, i, d, h => by cases hq : ls.set i true <;> rw [hq] at h <;> simp [dstsA] at h
  | _ :: _, [], i, d, h => by simpa using h
  | x :: l, b :: ls, 0, d, h => by
    simp only [List.set_cons_zero, dstsA] at h
    cases b with
    | true => exact h
    | false =>
      simp only [dstsA]
      split
      · exact List.mem_cons_of_mem _ h
      · exact h
  | x :: l, b :: ls, i + 1, d, h => by
    simp only [List.set_cons_succ] at h
    cases b with
    | true => exact dstsA_set (l := l) (ls := ls) (i := i) h
    | false =>
      simp only [dstsA] at h ⊢
      split
      · rename_i e he
        simp only [he] at h
        rcases List.mem_cons.1 h with h | h
        · rw [h]; exact List.mem_cons_self
        · exact List.mem_cons_of_mem _ (dstsA_set h)
      · rename_i he
        simp only [he] at h
        exact dstsA_set h

theorem readyL_at {ops : List Oper} {ls : List Bool} {i : Nat} (h : i ∈ readyL ops ls) : ls[i]? = some false ∧ ∃ o, ops[i]? = some o := by
  unfold readyL at h
  have := (List.mem_filter.1 h).2
  unfold readyAt at this
  split at this
  · rename_i h1 h2; exact ⟨h1, _, h2⟩
  · cases this

theorem putA_other {t : List AV} {dst : Option Tmp} {v : AV} {d : Nat} (h : dst ≠ some d) : (putA t dst v)[d]? = t[d]? := by
  cases dst with
  | none => rfl
  | some e =>
    show (setL t e v)[d]? = _
    rw [setL_eq, List.getElem?_set_ne (fun he => h (by rw [he]))]

section
variable {D : Type}

theorem joinA_ok {br : Nat → Dec → RR D} {n : Nat} {t : List AV} {ds : List Nat} : ∀ {l : List Nat} {p0 : VC} {t0 : List AV} {H0 : Heap D} {l0 : Nat} {d0 : Dec} {p : VC} {t1 : List AV} {H1 : Heap D} {low : Nat} {d : Dec},
    joinA br n t ds l (p0, t0, H0, l0, d0) = some (p, t1, H1, low, d) → t1 = t0 ∧ H1 = H0 ∧ low ≤ l0 ∧ (VC.ok p → VC.ok p0 ∧ ∀ i ∈ l, ∃ dec q t2 H2 l2 d2 s, br i dec = some (q, t2, H2, l2, d2) ∧ VC.ok q ∧ low ≤ l2 ∧
      permOk n s H2.length = true ∧ fixT (pf n s) t = true ∧ (ds.map fun j => t1[j]?) = (ds.map fun j => (t2[j]?).map (renV (pf n s))) ∧ H1 = permH (pf n s) (pinv n s) H2.length H2)
  | [], p0, t0, H0, l0, d0, p, t1, H1, low, d, h => by
    simp only [joinA, Option.some.injEq, Prod.mk.injEq] at h
    obtain ⟨rfl, rfl, rfl, rfl, rfl⟩ := h
    exact ⟨rfl, rfl, Nat.le_refl _, fun hp => ⟨hp, fun i hi => by cases hi⟩⟩
  | i :: rest, p0, t0, H0, l0, d0, p, t1, H1, low, d, h => by
    unfold joinA at h
    split at h
    · cases h
    · rename_i k dd
      split at h
      · cases h
      · rename_i q t2 H2 l2 d2 hb
        split at h
        · cases h
        · rename_i hc
          rw [Bool.and_eq_true] at hc
          obtain ⟨rfl, rfl, hl, hv⟩ := joinA_ok h
          refine ⟨rfl, rfl, by omega, fun hp => ?_⟩
          obtain ⟨hp1, hr⟩ := hv hp
          have hp2 := ok_app.1 hp1
          have hp3 := ok_app.1 hp2.2
          refine ⟨hp2.1, fun j hj => ?_⟩
          rcases List.mem_cons.1 hj with rfl | hj
          · exact ⟨_, q, t2, H2, l2, d2, dd.take k, hb, hp3.1, by omega, hc.1, hc.2, hp3.2.1, hp3.2.2.1⟩
          · exact hr j hj

theorem drawA_frame {P : Program} {E : FuncId → Sum D} {ops : Array Oper} {H0 : Heap D} {m : Nat} {Wl : List Nat} : ∀ (k : Nat) {clean : Bool} {ls : List Bool} {t t' : List AV} {H H' : Heap D} {dec d : Dec} {p : VC} {low : Nat},
    drawA P E ops H0 m Wl k clean ls t H dec = some (p, t', H', low, d) → ∀ j, j ∉ dstsA ops.toList ls → t'[j]? = t[j]? := by
  intro k
  induction k with
  | zero =>
    intro clean ls t t' H H' dec d p low h j hj
    unfold drawA at h
    split at h
    · cases h; rfl
    · cases h
  | succ k ih =>
    intro clean ls t t' H H' dec d p low h j hj
    unfold drawA at h
    split at h
    · cases h; rfl
    · rename_i r rs hr
      simp only at h
      have one : ∀ (i : Nat) (o : Oper) (v : AV), i ∈ readyL ops.toList ls → ops[i]? = some o → ∀ {t1 : List AV}, (∀ j, j ∉ dstsA ops.toList (ls.set i true) → t1[j]? = (putA t o.dst v)[j]?) → t1[j]? = t[j]? := by
        intro i o v hi ho t1 h1
        rw [h1 j fun hx => hj (dstsA_set hx)]
        refine putA_other fun he => hj (dstsA_mem (i := i) (o := o) (by rw [Array.getElem?_toList]; exact ho) (readyL_at hi).1 he)
      split at h
      · rename_i i o q v d1 hp
        split at h
        · rename_i q2 res hd
          cases h
          obtain ⟨hi, ho, _⟩ := pickA_ok hp
          rw [← hr] at hi
          exact one i o v hi ho (ih hd)
        · cases h
      · split at h
        · rename_i acc hb
          obtain ⟨p0, t0, H0', l0, d0⟩ := acc
          obtain ⟨rfl, _⟩ := joinA_ok h
          split at hb
          · cases hb
          · rename_i o ho
            split at hb
            · split at hb
              · rename_i q v H1 l1 d1 hop
                split at hb
                · split at hb
                  · rename_i s t2 H2 l2 d2 hd
                    cases hb
                    exact one r o v (by rw [hr]; exact List.mem_cons_self) ho (ih hd)
                  · cases hb
                · cases hb
              · cases hb
            · cases hb
        · cases h
end
end
end Go.Proofs.Ytnoonoghemgbbaa.Sx

/-
  A symbolic evaluator over the model's code: part 21: regions that draw their order: the proof.
-/
set_option linter.unusedVariables false
set_option linter.unusedSimpArgs false
namespace Go.Proofs.Ytnoonoghemgbbaa.Sx
open Go
noncomputable section

section
variable {D : Type}

theorem Yields.ofIf {P : Program} {ops : Array Oper} {o : Oper} {v : Value} {a : Act} (h : YieldsIf P ops (fun _ => True) o v a) : Yields P ops o v a :=
  h.imp (fun ⟨a, b⟩ => ⟨a, fun w => b w trivial⟩) id

/-- The same end with the new blocks in another order. -/
theorem Fin.perm {B : Nat} {ρ : Map} {H : Heap D} {w : World} {t t1 t2 : List AV} {H1 H2 : Heap D} {l2 low : Nat} {ds s : List Nat} (r : Rel ρ H w) (hl : low ≤ l2)
    (hp : permOk H.length s H2.length = true) (hf : fixT (pf H.length s) t = true)
    (he : (ds.map fun j => t1[j]?) = (ds.map fun j => (t2[j]?).map (renV (pf H.length s)))) (hH : H1 = permH (pf H.length s) (pinv H.length s) H2.length H2)
    (h1 : ∀ j, j ∉ ds → t1[j]? = t[j]?) (h2 : ∀ j, j ∉ ds → t2[j]? = t[j]?) {a' : Act} {w' : World} (h : Fin B ρ H w t2 H2 l2 a' w') : Fin B ρ H w t1 H1 low a' w' := by
  obtain ⟨hd, ρ', hs, ht⟩ := h
  obtain ⟨ρ'', hs', g⟩ := Step.perm (permOk_ok hp) rfl rfl r hs
  refine ⟨hd, ρ'', by rw [hH]; exact hs'.mono hl, ?_⟩
  have e : t1 = t2.map (renV (pf H.length s)) := by
    apply List.ext_getElem?
    intro j
    rw [List.getElem?_map]
    by_cases hj : j ∈ ds
    · exact List.map_inj_left.1 he j hj
    · rw [h1 j hj, h2 j hj]
      cases hx : t[j]? with
      | none => rfl
      | some v =>
        have := List.all_eq_true.1 hf v (List.mem_of_getElem? hx)
        simp only [Option.map_some, renV_fix this]
  rw [e]
  exact All2.map_left (f := renV (pf H.length s)) (fun _ _ => RV.ren g) ht

theorem wpX_step {P : Program} {ops : Array Oper} {Q : Exit → Act → World → Prop} {Wl : List Nat} {S : World → Prop} {clean : Bool} {k : Nat} {ls : List Bool} {a : Act} {w : World} {r : Nat} {rs : List Nat} (hr : readyL ops.toList ls = r :: rs)
    (h : ∀ i ∈ readyL ops.toList ls, wpOp P ops Q i (fun a' w' => wpX P ops Q Wl S (clean && !(Wl.any (Nat.beq i))) k (ls.set i true) a' w' ∧ ((clean && !(Wl.any (Nat.beq i))) = true → S w')) a w) :
    wpX P ops Q Wl S clean (k + 1) ls a w := by
  cases clean with
  | false =>
    refine ⟨fun h0 => ?_, fun i hi => ?_⟩
    · rw [readyL_eq, hr] at h0; cases h0
    · rw [readyL_eq] at hi
      refine wpOp_mono (fun a' w' h' => ?_) (h i hi)
      have := h'.1
      simp only [Bool.false_and, wpX] at this
      rw [List.setIfInBounds_toArray]
      exact this
  | true =>
    refine ⟨fun h0 => ?_, fun i hi => ?_⟩
    · rw [readyL_eq, hr] at h0; cases h0
    · rw [readyL_eq] at hi
      refine wpOp_mono (fun a' w' h' => ⟨fun hW => ?_, fun hW => ?_⟩) (h i hi)
      · have := h'.1
        simp only [hW, Bool.not_true, Bool.and_false, wpX] at this
        rw [List.setIfInBounds_toArray]
        exact this
      · have h1 := h'.1
        have h2 := h'.2
        simp only [hW, Bool.not_false, Bool.and_true, wpX] at h1 h2
        rw [List.setIfInBounds_toArray]
        exact ⟨h2 trivial, h1⟩

theorem drawA_ok {B : Nat} {P : Program} {E : FuncId → Sum D} (hE : ∀ f, Valid P f (E f)) {ops : Array Oper} (hsel : noSelectL ops.toList = true) {ρ0 : Map} {H0 : Heap D} {w0 : World} (r0 : Rel ρ0 H0 w0) {m : Nat} (hm : m ≤ H0.length) {Wl : List Nat}
    {Q : Exit → Act → World → Prop} (hnp : ∀ c a w, ¬ Q (.panic c) a w) : ∀ (k : Nat) {clean : Bool} {ls : List Bool} {t t' : List AV} {H H' : Heap D} {dec d : Dec} {p : VC} {low : Nat},
    drawA P E ops H0 m Wl k clean ls t H dec = some (p, t', H', low, d) → VC.ok p → ∀ {ρ : Map} {w : World} {a : Act}, Rel ρ H w → TR ρ t a → DefOk B w a.defers → (clean = true → Step ρ0 H0 w0 m ρ H w) →
    (∀ a' w', Fin B ρ H w t' H' low a' w' → Q .normal a' w') → wpX P ops Q Wl (Same ρ0 H0 w0 m) clean k ls a w := by
  intro k
  have stop : ∀ (k : Nat) {clean : Bool} {ls : List Bool} {t : List AV} {H : Heap D}, readyL ops.toList ls = [] → ∀ {ρ : Map} {w : World} {a : Act}, Rel ρ H w → TR ρ t a → DefOk B w a.defers →
      (∀ a' w', Fin B ρ H w t H H.length a' w' → Q .normal a' w') → wpX P ops Q Wl (Same ρ0 H0 w0 m) clean k ls a w := by
    intro k clean ls t H hr ρ w a r ht hd hQ
    have hq : Q .normal a w := hQ a w ⟨hd, ρ, Step.refl r _, ht⟩
    have hr' : Region.ready .any ops ls.toArray = [] := by rw [readyL_eq]; exact hr
    cases clean with
    | false => exact wpAny_done hr' hq k
    | true =>
      cases k with
      | zero => exact ⟨hr', hq⟩
      | succ k => exact ⟨fun _ => hq, by rw [hr']; intro i hi; cases hi⟩
  induction k with
  | zero =>
    intro clean ls t t' H H' dec d p low h hp ρ w a r ht hd hc hQ
    unfold drawA at h
    split at h
    · rename_i hr
      cases h
      exact stop 0 hr r ht hd hQ
    · cases h
  | succ k ih =>
    intro clean ls t t' H H' dec d p low h hp ρ w a r ht hd hc hQ
    unfold drawA at h
    split at h
    · rename_i hr
      cases h
      exact stop (k + 1) hr r ht hd hQ
    · rename_i r1 rs hr
      simp only at h
      split at h
      · rename_i i o q v d1 hpick
        split at h
        · rename_i q2 res hdr
          cases h
          have hp := ok_app.1 hp
          obtain ⟨hi, ho, hcase⟩ := pickA_ok hpick
          rw [← hr] at hi
          have hi' : i ∈ Region.ready .any ops ls.toArray := by rw [readyL_eq]; exact hi
          have hset : ls.toArray.setIfInBounds i true = (ls.set i true).toArray := List.setIfInBounds_toArray ..
          rcases hcase with ⟨hf, hca⟩ | ⟨hcl, hWi, hf, hca⟩
          · obtain ⟨rv, hy, hv⟩ := calmA_ok (S := fun _ => True) (fun w' _ => nones_rel (D := D) r.len w') (Goes.refl ρ) (Goes.refl ρ) (w := w) trivial ht hca hp.1
            have hy := Yields.ofIf hy
            have hfree : ∀ j oj, ops[j]? = some oj → j ≠ i → ls.toArray.getD j true = false → (∀ e ∈ oj.after, Region.binds .any e = true → e.on ≠ i) → o.apart ops oj = true := fun j oj hj hne hun hno =>
              (freeAt_ok hf j oj (by rw [Array.getElem?_toList]; exact hj) (by omega) (by rw [Nat.zero_add]; exact hun) hno).1
            have hrec := ih hdr hp.2 (a := a.put o.dst rv) r (ht.put hv) (by rw [put_defers]; exact hd) hc hQ
            cases clean with
            | true =>
              have hrec' : wpH P ops Q (fun i => Wl.any (Nat.beq i)) (Same ρ0 H0 w0 m) k (ls.set i true).toArray (a.put o.dst rv) w := hrec
              rw [← hset] at hrec'
              exact wpH_firstY ho (fun j o cs b => noSelectL_ok hsel j o cs b) hnp k ls.toArray a w hfree hi' hy ⟨(hc rfl).ext.size, (hc rfl).ext.block⟩ hrec'
            | false =>
              have hrec' : wpAny P .any ops Q k (ls.set i true).toArray (a.put o.dst rv) w := hrec
              rw [← hset] at hrec'
              exact wpAny_first ho (fun j o cs b => noSelectL_ok hsel j o cs b) (fun c a w h => (hnp _ _ _ h).elim) k ls.toArray a w hfree hi' hy hrec'
          · subst hcl
            have hc' := hc rfl
            have hsame : Same ρ0 H0 w0 m w := ⟨hc'.ext.size, hc'.ext.block⟩
            obtain ⟨ρx, hx, g1, g2⟩ := cold_rel r0 hm hc'.goes r.len
            obtain ⟨rv, hy, hv⟩ := calmA_ok (S := Same ρ0 H0 w0 m) hx g1 g2 hsame ht hca hp.1
            have hfree : ∀ j oj, ops[j]? = some oj → j ≠ i → ls.toArray.getD j true = false → (∀ e ∈ oj.after, Region.binds .any e = true → e.on ≠ i) → o.apart ops oj = true ∧ Wl.any (Nat.beq j) = false := fun j oj hj hne hun hno => by
              have := freeAt_ok hf j oj (by rw [Array.getElem?_toList]; exact hj) (by omega) (by rw [Nat.zero_add]; exact hun) hno
              rw [Nat.zero_add] at this
              exact ⟨this.1, this.2 rfl⟩
            have hrec : wpH P ops Q (fun i => Wl.any (Nat.beq i)) (Same ρ0 H0 w0 m) k (ls.set i true).toArray (a.put o.dst rv) w := ih hdr hp.2 (a := a.put o.dst rv) r (ht.put hv) (by rw [put_defers]; exact hd) hc hQ
            rw [← hset] at hrec
            exact wpH_first ho (fun j o cs b => noSelectL_ok hsel j o cs b) hnp hWi k ls.toArray a w hfree hi' hy hsame hrec
        · cases h
      · split at h
        · rename_i acc hbr
          obtain ⟨p0, t0, H0', l0, d0⟩ := acc
          obtain ⟨rfl, rfl, hlow, hv⟩ := joinA_ok h
          obtain ⟨hp0, hothers⟩ := hv hp
          have branch : ∀ (i : Nat) (dec : Dec) (q : VC) (t1 : List AV) (H1 : Heap D) (l1 : Nat) (d1 : Dec), i ∈ readyL ops.toList ls → 
              (match ops[i]? with
                | none => none
                | some o => match guardA ops t o dec with
                  | some (p, true, d) => match opD P E t H d o.op with
                    | some (q, v, H', l, d') => match !clean || (Wl.any (Nat.beq i) || Nat.ble m l) with
                      | true => match drawA P E ops H0 m Wl k (clean && !(Wl.any (Nat.beq i))) (ls.set i true) (putA t o.dst v) H' d' with
                        | some (s, t', H'', l', d'') => some (p ++ (q ++ s), t', H'', min l l', d'')
                        | none => none
                      | false => none
                    | none => none
                  | _ => none : RR D) = some (q, t1, H1, l1, d1) → VC.ok q →
              (∀ j, j ∉ dstsA ops.toList ls → t1[j]? = t[j]?) ∧ ((∀ a' w', Fin B ρ H w t1 H1 l1 a' w' → Q .normal a' w') →
                wpOp P ops Q i (fun a' w' => wpX P ops Q Wl (Same ρ0 H0 w0 m) (clean && !(Wl.any (Nat.beq i))) k (ls.set i true) a' w' ∧ ((clean && !(Wl.any (Nat.beq i))) = true → Same ρ0 H0 w0 m w')) a w) := by
            intro i dec q t1 H1 l1 d1 hi hb hq
            split at hb
            · cases hb
            · rename_i o ho
              split at hb
              · rename_i pg dg hg
                split at hb
                · rename_i q1 v H2 l2 d2 hop
                  split at hb
                  · rename_i hck
                    split at hb
                    · rename_i s t2 H3 l3 d3 hdr
                      simp only [Option.some.injEq, Prod.mk.injEq] at hb
                      obtain ⟨rfl, rfl, rfl, rfl, rfl⟩ := hb
                      refine ⟨fun j hj => ?_, fun hQ' => ?_⟩
                      · rw [drawA_frame k hdr j fun hx => hj (dstsA_set hx)]
                        exact putA_other fun he => hj (dstsA_mem (i := i) (o := o) (by rw [Array.getElem?_toList]; exact ho) (readyL_at hi).1 he)
                      · have hq1 := ok_app.1 hq
                        have hq2 := ok_app.1 hq1.2
                        unfold wpOp
                        rw [ho]
                        simp only [guardA_ok ht hg hq1.1, if_true]
                        refine .inl (opD_ok hE r ht hop hq2.1 _ Q fun ρ' w' rv hs hrv => ?_)
                        have hc' : (clean && !(Wl.any (Nat.beq i))) = true → Step ρ0 H0 w0 m ρ' H2 w' := fun hcl => by
                          rw [Bool.and_eq_true] at hcl
                          have hW : Wl.any (Nat.beq i) = false := by simpa using hcl.2
                          rw [hcl.1, hW] at hck
                          have hml : m ≤ l2 := Nat.le_of_ble_eq_true (by simpa using hck)
                          exact (Step.trans r0 (hc hcl.1) hs).mono (by omega)
                        refine ⟨ih hdr hq2.2 hs.rel ((ht.goes hs.goes).put hrv) (by rw [put_defers]; exact hd.step r hs) hc' ?_, fun hcl => ⟨(hc' hcl).ext.size, (hc' hcl).ext.block⟩⟩
                        rintro a' w'' ⟨h1, ρ'', h2, h3⟩
                        exact hQ' a' w'' ⟨h1, ρ'', Step.trans r hs h2, h3⟩
                    · cases hb
                  · cases hb
                · cases hb
              · cases hb
          have hfirst := branch r1 dec p0 t' H' l0 d0 (by rw [hr]; exact List.mem_cons_self) hbr hp0
          refine wpX_step hr fun i hi => ?_
          rw [hr] at hi
          rcases List.mem_cons.1 hi with rfl | hi
          · refine hfirst.2 fun a' w' hf => hQ a' w' ?_
            obtain ⟨h1, ρ', h2, h3⟩ := hf
            exact ⟨h1, ρ', h2.mono hlow, h3⟩
          · obtain ⟨dec2, q, t2, H2, l2, d2, s, hb, hq, hl2, h1, h2, h3, h4⟩ := hothers i hi
            have hb' := branch i dec2 q t2 H2 l2 d2 (by rw [hr]; exact List.mem_cons_of_mem _ hi) hb hq
            exact hb'.2 fun a' w' hf => hQ a' w' (Fin.perm r hl2 h1 h2 h3 h4 hfirst.1 hb'.1 hf)
        · cases h

/-- A region that draws its order does what the evaluator says. -/
theorem drawR_ok {P : Program} (hmix : P.follows .mixedOrders = true) {E : FuncId → Sum D} (hE : ∀ f, Valid P f (E f)) : DValid P (drawR P E) := by
  intro id ops t H dec p t' H' low d h hp q B ρ w a r ht hd
  unfold drawR at h
  split at h
  · rename_i m k dd
    split at h
    · rename_i hb
      rw [Bool.and_eq_true] at hb
      refine wpIn_region_any hmix (anyIn_of_any Done.notOut (fun j o c ho => noDeferL_ok hb.1 j o c ho) _ _ _ _ (wpH_any (W := fun i => (dd.take k).any (Nat.beq i)) (S := Same ρ H w.drew m) _ _ _ _ ?_))
      have := drawA_ok (B := B) (Q := Done B ρ H w .normal t' H' low) hE hb.1 r.drew (Nat.le_of_ble_eq_true hb.2) (fun c a w h => by cases h.1) ops.size h hp r.drew ht (hd.step r (Step.drew r low)) (fun _ => Step.refl r.drew m) (fun a' w' hf => by
        obtain ⟨h1, ρ', h2, h3⟩ := hf
        exact ⟨rfl, h1, ρ', (Step.trans r (Step.drew r low) h2).mono (by omega), h3⟩)
      simpa [wpX] using this
    · cases h
  · cases h
end
end
end Go.Proofs.Ytnoonoghemgbbaa.Sx

/-
  A symbolic evaluator over the model's code: part 22: whole functions, regions that draw among them.
-/
set_option linter.unusedVariables false
set_option linter.unusedSimpArgs false
namespace Go.Proofs.Ytnoonoghemgbbaa.Sx
open Go
noncomputable section
section
variable {D : Type}

abbrev runF (P : Program) (S : FuncId → Option (Sum D)) (L : FuncId → Nat → Option (Code × LSum D)) (fuel n : Nat) (f : FuncId) : Sum D := evalF P S L (fun E => drawR P E) fuel n f

theorem runF_valid {P : Program} (hmix : P.follows .mixedOrders = true) {S : FuncId → Option (Sum D)} (hS : ∀ f s, S f = some s → Valid P f s) {L : FuncId → Nat → Option (Code × LSum D)} (hL : ∀ f k b s, L f k = some (b, s) → LValid P b s)
    (fuel n : Nat) (f : FuncId) : Valid P f (runF P S L fuel n f) :=
  evalF_valid hS hL (fun _ hE => drawR_ok hmix hE) fuel n f
end
end
end Go.Proofs.Ytnoonoghemgbbaa.Sx

/-
  A symbolic evaluator over the model's code: part 23: summaries by canonical form: the blocks that are reached, numbered as they are met.
-/
set_option linter.unusedVariables false
set_option linter.unusedSimpArgs false
namespace Go.Proofs.Ytnoonoghemgbbaa.Sx
open Go
noncomputable section

/-- Back from the great heap to the small one. -/
def bk (θ : List Nat) (i : Nat) : Nat := match Nat.ble 1000000000 i with
  | true => i
  | false => posOf i θ 0

def knows (θ : List Nat) (i : Nat) : Bool := Nat.ble 1000000000 i || Nat.blt (posOf i θ 0) θ.length

def idsCont : Cont → List Nat
  | .raw cs => cs.flatMap idsC
  | .ints _ _ => []
  | .fam _ _ _ => []

def plainCont : Cont → Bool
  | .fam _ _ _ => false
  | _ => true

def normCont : Cont → Cont
  | .raw (.int k n :: cs) => match colInts k (.int k n :: cs) with
    | some l => .ints k l
    | none => .raw (.int k n :: cs)
  | c => c

section
variable {D : Type}

def reachA (H : Heap D) : Nat → List Nat → List Nat → List Nat
  | 0, _, seen => seen
  | _ + 1, [], seen => seen
  | n + 1, id :: todo, seen => match seen.any (Nat.beq id) with
    | true => reachA H n todo seen
    | false => match H[id]? with
      | some (some (.cells _ 1 c)) => reachA H n (todo ++ idsCont (c 0)) (seen ++ [id])
      | some (some (.obj _)) => reachA H n todo (seen ++ [id])
      | _ => reachA H n todo seen

/-- A small heap, as it is looked at. -/
abbrev View := List (Bool × Cont)
def ofView (D : Type) : View → Heap D
  | [] => []
  | (own, c) :: l => some (.cells own 1 fun _ => c) :: ofView D l

def smallH (θ : List Nat) (H : Heap D) : List Nat → Option View
  | [] => some []
  | id :: l => match H[id]? with
    | some (some (.cells own 1 c)) => match plainCont (c 0) && (idsCont (c 0)).all (knows θ) with
      | true => match smallH θ H l with
        | some m => some ((own, normCont (renCont (bk θ) (c 0))) :: m)
        | none => none
      | false => none
    | _ => none

def distinctL : List Nat → Bool
  | [] => true
  | x :: l => !(l.any (Nat.beq x)) && distinctL l

def canonA (args : List AV) (H : Heap D) : Option (List Nat × (List AV × View)) :=
  let θ := reachA H 64 (args.flatMap idsV) []
  match distinctL θ && (Nat.ble θ.length 1000000000 && (args.flatMap idsV).all (knows θ)) with
  | true => match smallH θ H θ with
    | some Hc => some (θ, (args.map (renV (bk θ)), Hc))
    | none => none
  | false => none

def canonFind (g : List AV → View → Option (List (Way D))) (args : List AV) (H : Heap D) : Option (List Nat × (List AV × View)) :=
  match canonA args H with
  | some (θ, x) => match g x.1 x.2 with
    | some _ => some (θ, x)
    | none => none
  | none => none

def canonWays (g : List AV → View → Option (List (Way D))) (x : List AV × View) : List (Way D) := match g x.1 x.2 with
  | some l => l
  | none => []

/-- A summary by canonical form. -/
def canonSum (g : List AV → View → Option (List (Way D))) : Sum D := mkSum (canonFind g) (canonWays g)

theorem posOf_spec (j : Nat) : ∀ (l : List Nat) (k : Nat), posOf j l k < k + l.length → k ≤ posOf j l k ∧ l[posOf j l k - k]? = some j
  | [], k, h => by simp [posOf] at h
  | x :: l, k, h => by
    unfold posOf at h ⊢
    cases hb : Nat.beq x j with
    | true => simp only [hb] at h ⊢; exact ⟨Nat.le_refl _, by simp [Nat.eq_of_beq_eq_true hb]⟩
    | false =>
      simp only [hb] at h ⊢
      obtain ⟨h1, h2⟩ := posOf_spec j l (k + 1) (by simp only [List.length_cons] at h; omega)
      refine ⟨by omega, ?_⟩
      rw [show posOf j l (k + 1) - k = (posOf j l (k + 1) - (k + 1)) + 1 by omega, List.getElem?_cons_succ]
      exact h2

theorem rid_bk {θ : List Nat} {n i : Nat} (hθ : θ.length ≤ 1000000000) (h : knows θ i = true) : rid θ n (bk θ i) = i := by
  unfold bk
  unfold knows at h
  cases hb : Nat.ble 1000000000 i with
  | true =>
    simp only
    have := Nat.le_of_ble_eq_true hb
    unfold rid
    rw [List.getElem?_eq_none (by omega)]
    simp only [hb]
  | false =>
    simp only [hb, Bool.false_or, Nat.blt_eq] at h ⊢
    obtain ⟨_, h2⟩ := posOf_spec i θ 0 (by omega)
    rw [Nat.sub_zero] at h2
    unfold rid
    rw [h2]

theorem renC_back {f g : Nat → Nat} {q : Nat → Bool} (hfg : ∀ i, q i = true → f (g i) = i) {c : Cell} (h : (idsC c).all q = true) : renC f (renC g c) = c := by
  cases c with
  | ptr nl id idx off => simp only [idsC, List.all_cons, List.all_nil, Bool.and_true] at h; simp only [renC, hfg _ h]
  | slice nl id idx off len cap sz => simp only [idsC, List.all_cons, List.all_nil, Bool.and_true] at h; simp only [renC, hfg _ h]
  | map nl id idx => simp only [idsC, List.all_cons, List.all_nil, Bool.and_true] at h; simp only [renC, hfg _ h]
  | yld id => simp only [idsC, List.all_cons, List.all_nil, Bool.and_true] at h; simp only [renC, hfg _ h]
  | func k caps =>
    simp only [renC, Cell.func.injEq, true_and]
    simp only [idsC] at h
    induction caps with
    | nil => rfl
    | cons p l ih =>
      simp only [List.map_cons, List.all_cons, Bool.and_eq_true] at h
      simp only [List.map_cons]
      rw [ih h.2, hfg _ h.1]
  | bool b => rfl
  | int k n => rfl
  | str l => rfl
  | empty => rfl
  | nilFunc => rfl
  | anyp => rfl

theorem map_back {α : Type} {f g : α → α} {ids : α → List Nat} {q : Nat → Bool} (hg : ∀ a, (ids a).all q = true → f (g a) = a) : ∀ {l : List α}, (l.flatMap ids).all q = true → (l.map g).map f = l
  | [], _ => rfl
  | a :: l, h => by
    simp only [List.flatMap_cons, List.all_append, Bool.and_eq_true] at h
    rw [List.map_cons, List.map_cons, hg a h.1, map_back hg h.2]

theorem ren1_back {f g : Nat → Nat} {q : Nat → Bool} (hfg : ∀ i, q i = true → f (g i) = i) {c : AV1} (h : (ids1 c).all q = true) : ren1 f (ren1 g c) = c := by
  cases c with
  | cell c => simp only [ren1, renC_back hfg h]
  | agg cs => simp only [ren1, map_back (fun _ => renC_back hfg) h]

theorem renV_back {f g : Nat → Nat} {q : Nat → Bool} (hfg : ∀ i, q i = true → f (g i) = i) {c : AV} (h : (idsV c).all q = true) : renV f (renV g c) = c := by
  cases c with
  | cell c => simp only [renV, renC_back hfg h]
  | agg cs => simp only [renV, map_back (fun _ => renC_back hfg) h]
  | tup l => simp only [renV, map_back (fun _ => ren1_back hfg) h]
  | junk => rfl

theorem colInts_ren {f : Nat → Nat} {k : IntKind} : ∀ {cs : List Cell} {l : List Int}, colInts k cs = some l → cs.map (renC f) = cs
  | [], _, _ => rfl
  | .int k' n :: cs, l, h => by
    simp only [colInts] at h
    split at h
    · rename_i ns _ h2
      rw [List.map_cons, colInts_ren h2]; rfl
    · cases h
  | .bool _ :: _, _, h => by cases h
  | .str _ :: _, _, h => by cases h
  | .ptr .. :: _, _, h => by cases h
  | .slice .. :: _, _, h => by cases h
  | .empty :: _, _, h => by cases h
  | .func .. :: _, _, h => by cases h
  | .nilFunc :: _, _, h => by cases h
  | .anyp :: _, _, h => by cases h
  | .map .. :: _, _, h => by cases h
  | .yld .. :: _, _, h => by cases h

end

section
variable {D : Type}

theorem distinctL_ok : ∀ {l : List Nat}, distinctL l = true → l.Nodup
  | [], _ => List.nodup_nil
  | x :: l, h => by
    simp only [distinctL, Bool.and_eq_true] at h
    refine List.nodup_cons.2 ⟨fun hm => ?_, distinctL_ok h.2⟩
    have h1 : l.any (Nat.beq x) = false := by simpa using h.1
    rw [List.any_eq_false] at h1
    exact h1 x hm (Nat.beq_refl x)

theorem Weak.norm {own : Bool} {c : Nat → Cont} {θ : List Nat} {n : Nat} (hθ : θ.length ≤ 1000000000) (hp : plainCont (c 0) = true) (h : (idsCont (c 0)).all (knows θ) = true) :
    Weak (D := D) (.cells own 1 c) (renB (rid θ n) (.cells own 1 fun _ => normCont (renCont (bk θ) (c 0)))) := by
  have hback : renCont (rid θ n) (renCont (bk θ) (c 0)) = c 0 := by
    cases hc : c 0 with
    | raw cs =>
      rw [hc] at h
      simp only [renCont, map_back (fun _ => renC_back fun i => rid_bk (n := n) hθ) h]
    | ints k l => rfl
    | fam a b g => rw [hc] at hp; cases hp
  have stay : normCont (renCont (bk θ) (c 0)) = renCont (bk θ) (c 0) → Weak (D := D) (.cells own 1 c) (renB (rid θ n) (.cells own 1 fun _ => normCont (renCont (bk θ) (c 0)))) := by
    intro e
    refine ⟨rfl, fun _ => Iff.rfl, ?_⟩
    intro ρ w L idx hb hi
    have h0 : idx = 0 := by omega
    subst h0
    have := hb hi
    rw [e]
    simp only [hback]
    exact this
  cases hc : renCont (bk θ) (c 0) with
  | fam a b g =>
    rw [hc] at stay
    exact stay rfl
  | ints k l =>
    rw [hc] at stay
    exact stay rfl
  | raw cs =>
    match cs, hc with
    | [], hc => rw [hc] at stay; exact stay rfl
    | .int k x :: cs, hc =>
      cases hci : colInts k (.int k x :: cs) with
      | none =>
        rw [hc] at stay
        have e : normCont (.raw (.int k x :: cs)) = .raw (.int k x :: cs) := by simp only [normCont, hci]
        exact stay e
      | some l =>
        have e : normCont (.raw (.int k x :: cs)) = .ints k l := by simp only [normCont, hci]
        rw [e]
        have hc0 : c 0 = .raw (.int k x :: cs) := by
          rw [← hback, hc]
          have := colInts_ren (f := rid θ n) hci
          simp only [renCont, this]
        exact Weak.ints (k := k) (l := l) (fun i hi => by rw [show i = 0 by omega]; exact hc0) hci
    | .bool _ :: cs, hc => rw [hc] at stay; exact stay rfl
    | .str _ :: cs, hc => rw [hc] at stay; exact stay rfl
    | .ptr .. :: cs, hc => rw [hc] at stay; exact stay rfl
    | .slice .. :: cs, hc => rw [hc] at stay; exact stay rfl
    | .empty :: cs, hc => rw [hc] at stay; exact stay rfl
    | .func .. :: cs, hc => rw [hc] at stay; exact stay rfl
    | .nilFunc :: cs, hc => rw [hc] at stay; exact stay rfl
    | .anyp :: cs, hc => rw [hc] at stay; exact stay rfl
    | .map .. :: cs, hc => rw [hc] at stay; exact stay rfl
    | .yld .. :: cs, hc => rw [hc] at stay; exact stay rfl

theorem smallH_ok {θ : List Nat} {H : Heap D} (hθ : θ.length ≤ 1000000000) : ∀ {l : List Nat} {Hc : View}, smallH θ H l = some Hc → l.length = (ofView D Hc).length ∧
    ∀ (i j : Nat) (b : Option (Blk D)), l[i]? = some j → (ofView D Hc)[i]? = some b → j < H.length ∧ ∀ b0, b = some b0 → ∃ b', H[j]? = some (some b') ∧ Weak b' (renB (rid θ H.length) b0)
  | [], Hc, h => by
    simp only [smallH, Option.some.injEq] at h
    subst h
    exact ⟨rfl, fun i j b h => by simp at h⟩
  | id :: l, Hc, h => by
    unfold smallH at h
    split at h
    · rename_i own c hid
      split at h
      · rename_i hok
        rw [Bool.and_eq_true] at hok
        split at h
        · rename_i m hm
          cases h
          obtain ⟨h1, h2⟩ := smallH_ok hθ hm
          refine ⟨by simp [h1, ofView], fun i j b hj hb => ?_⟩
          cases i with
          | zero =>
            simp only [ofView, List.getElem?_cons_zero, Option.some.injEq] at hj hb
            subst hj hb
            exact ⟨(List.getElem?_eq_some_iff.1 hid).1, fun b0 e => by cases e; exact ⟨_, hid, Weak.norm hθ hok.1 hok.2⟩⟩
          | succ i => exact h2 i j b (by simpa using hj) (by simpa [ofView] using hb)
        · cases h
      · cases h
    · cases h

/-- A summary by canonical form is valid, if each of its ways is what the function does over the canonical heap. -/
theorem canonSum_valid {P : Program} {f : FuncId} {g : List AV → View → Option (List (Way D))}
    (h : ∀ args Hc l, g args Hc = some l → ∀ (k : Nat) (y : Way D), l[k]? = some y → VC.ok y.cond → CanOk P f (ofView D Hc) args y.v y.H y.low) : Valid P f (canonSum g) := by
  refine mkSum_valid (π := List AV × View) (fun x => ofView D x.2) (fun x => x.1) ?_ ?_
  · intro args H θ x hfew hf
    unfold canonFind at hf
    split at hf
    · rename_i θ' x' hc
      split at hf
      · rename_i l hg
        cases hf
        unfold canonA at hc
        simp only at hc
        split at hc
        · rename_i hb
          rw [Bool.and_eq_true, Bool.and_eq_true] at hb
          split at hc
          · rename_i Hc hs
            simp only [Option.some.injEq, Prod.mk.injEq] at hc
            obtain ⟨rfl, rfl⟩ := hc
            have hθ := Nat.le_of_ble_eq_true hb.2.1
            obtain ⟨h1, h2⟩ := smallH_ok hθ hs
            refine ⟨Part.of h1 hfew (distinctL_ok hb.1) h2, fun ρ as ha => ?_⟩
            simp only
            rw [map_back (ids := idsV) (q := knows _) (fun _ => renV_back fun i => rid_bk hθ) hb.2.2]
            exact ha
          · cases hc
        · cases hc
      · cases hf
    · cases hf
  · intro x k y hy hc
    unfold canonWays at hy
    split at hy
    · rename_i l hg
      exact h x.1 x.2 l hg k y hy hc
    · simp at hy
end
end
end Go.Proofs.Ytnoonoghemgbbaa.Sx
