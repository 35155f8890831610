/-
  A symbolic evaluator over the model's code: part 18: other orders of new blocks; operations that yield the same in many worlds.
-/
import Derived.Test.YtnoonoghemgbbaaSx17
set_option linter.unusedVariables false
set_option linter.unusedSimpArgs false
namespace Go.Proofs.Ytnoonoghemgbbaa.Sx
open Go
noncomputable section

/-! ### New blocks in another order -/

def pf (n : Nat) (s : List Nat) (i : Nat) : Nat := match Nat.blt i n with
  | true => i
  | false => match s[i - n]? with
    | some j => j
    | none => i

def posOf (j : Nat) : List Nat → Nat → Nat
  | [], k => k
  | x :: l, k => match Nat.beq x j with
    | true => k
    | false => posOf j l (k + 1)

def pinv (n : Nat) (s : List Nat) (j : Nat) : Nat := match Nat.blt j n with
  | true => j
  | false => posOf j s n

def permOk (n : Nat) (s : List Nat) (N : Nat) : Bool :=
  Nat.beq N (n + s.length) && (List.range s.length).all fun i =>
    Nat.beq (pinv n s (pf n s (n + i))) (n + i) && Nat.beq (pf n s (pinv n s (n + i))) (n + i) &&
    (Nat.ble n (pf n s (n + i)) && Nat.blt (pf n s (n + i)) N) && (Nat.ble n (pinv n s (n + i)) && Nat.blt (pinv n s (n + i)) N)

structure Perm (n N : Nat) (f g : Nat → Nat) : Prop where
  le : n ≤ N
  fix : ∀ i, i < n → f i = i ∧ g i = i
  gf : ∀ i, n ≤ i → i < N → g (f i) = i ∧ n ≤ f i ∧ f i < N
  fg : ∀ i, n ≤ i → i < N → f (g i) = i ∧ n ≤ g i ∧ g i < N

theorem permOk_ok {n : Nat} {s : List Nat} {N : Nat} (h : permOk n s N = true) : Perm n N (pf n s) (pinv n s) := by
  unfold permOk at h
  rw [Bool.and_eq_true] at h
  obtain ⟨h1, h2⟩ := h
  have hN := Nat.eq_of_beq_eq_true h1
  have key : ∀ i, n ≤ i → i < N → (pinv n s (pf n s i) = i ∧ pf n s (pinv n s i) = i) ∧ (n ≤ pf n s i ∧ pf n s i < N) ∧ (n ≤ pinv n s i ∧ pinv n s i < N) := by
    intro i hi hlt
    have := List.all_eq_true.1 h2 (i - n) (List.mem_range.2 (by omega))
    rw [show n + (i - n) = i by omega] at this
    simp only [Bool.and_eq_true] at this
    obtain ⟨⟨⟨a, b⟩, c, d⟩, e, g⟩ := this
    exact ⟨⟨Nat.eq_of_beq_eq_true a, Nat.eq_of_beq_eq_true b⟩, ⟨Nat.le_of_ble_eq_true c, by simpa [Nat.blt_eq] using d⟩, Nat.le_of_ble_eq_true e, by simpa [Nat.blt_eq] using g⟩
  refine ⟨by omega, fun i hi => ?_, fun i h1 h2 => ⟨(key i h1 h2).1.1, (key i h1 h2).2.1⟩, fun i h1 h2 => ⟨(key i h1 h2).1.2, (key i h1 h2).2.2⟩⟩
  have : Nat.blt i n = true := by simpa [Nat.blt_eq] using hi
  unfold pf pinv
  rw [this]
  exact ⟨rfl, rfl⟩

section
variable {D : Type}

def permH (f g : Nat → Nat) (N : Nat) (H : Heap D) : Heap D := (List.range N).map fun j => match H[g j]? with
  | some (some b) => some (renB f b)
  | _ => none

theorem permH_get {f g : Nat → Nat} {N : Nat} {H : Heap D} {j : Nat} {b : Blk D} (h : (permH f g N H)[j]? = some (some b)) : j < N ∧ ∃ b', H[g j]? = some (some b') ∧ b = renB f b' := by
  unfold permH at h
  rw [List.getElem?_map] at h
  rcases Nat.lt_or_ge j N with hj | hj
  · rw [List.getElem?_range hj] at h
    simp only [Option.map_some, Option.some.injEq] at h
    refine ⟨hj, ?_⟩
    split at h
    · rename_i b' hb
      exact ⟨b', hb, by simpa using h.symm⟩
    · cases h
  · rw [List.getElem?_eq_none (by simpa using hj)] at h
    cases h

theorem Step.perm {n N : Nat} {f g : Nat → Nat} (hp : Perm n N f g) {ρ ρ' : Map} {H H' : Heap D} {w w' : World} {low : Nat} (hn : H.length = n) (hN : H'.length = N) (r : Rel ρ H w) (h : Step ρ H w low ρ' H' w') :
    ∃ ρ'', Step ρ H w low ρ'' (permH f g N H') w' ∧ GoesBy f ρ' ρ'' := by
  have gN : ∀ j, j < N → g j < N := fun j hj => by
    rcases Nat.lt_or_ge j n with h1 | h1
    · rw [(hp.fix j h1).2]; omega
    · exact (hp.fg j h1 hj).2.2
  have fN : ∀ j, j < N → f j < N := fun j hj => by
    rcases Nat.lt_or_ge j n with h1 | h1
    · rw [(hp.fix j h1).1]; omega
    · exact (hp.gf j h1 hj).2.2
  have gf : ∀ j, j < N → g (f j) = j := fun j hj => by
    rcases Nat.lt_or_ge j n with h1 | h1
    · rw [(hp.fix j h1).1, (hp.fix j h1).2]
    · exact (hp.gf j h1 hj).1
  have fg : ∀ j, j < N → f (g j) = j := fun j hj => by
    rcases Nat.lt_or_ge j n with h1 | h1
    · rw [(hp.fix j h1).2, (hp.fix j h1).1]
    · exact (hp.fg j h1 hj).1
  have hl : ρ'.length = N := by rw [h.rel.len, hN]
  let ρ'' : Map := (List.range N).map fun j => ρ'.getD (g j) fun _ => ⟨0, 0, 0, fun _ => False, default⟩
  have get : ∀ j, j < N → ρ''[j]? = ρ'[g j]? := fun j hj => by
    have : g j < ρ'.length := by rw [hl]; exact gN j hj
    simp only [ρ'']
    rw [List.getElem?_map, List.getElem?_range hj, Option.map_some, List.getD_eq_getElem?_getD, List.getElem?_eq_getElem this]
    rfl
  have lt' : ∀ (i : Nat) (F : Nat → Loc), ρ'[i]? = some F → i < N := fun i F e => by rw [← hl]; exact (List.getElem?_eq_some_iff.1 e).1
  have lt'' : ∀ (i : Nat) (F : Nat → Loc), ρ''[i]? = some F → i < N := fun i F e => by
    have := (List.getElem?_eq_some_iff.1 e).1
    simpa [ρ''] using this
  have gb : GoesBy f ρ' ρ'' := fun i F e => by
    have hi := lt' i F e
    exact ⟨F, by rw [get _ (fN i hi), gf i hi]; exact e, Lo.refl F⟩
  have own : ∀ id k, ownAt ρ'' (permH f g N H') id k → ownAt ρ' H' (g id) k := by
    rintro id k ⟨b, F, idx, h1, h2, h3, h4, h5⟩
    obtain ⟨hid, b', hb, rfl⟩ := permH_get h1
    rw [get id hid] at h4
    exact ⟨b', F, idx, hb, by rw [← renB_own f]; exact h2, (renB_live f b' idx).1 h3, h4, h5⟩
  refine ⟨ρ'', ⟨?_, ⟨by simp [ρ'', permH], ?_, ?_⟩, h.ext, ?_, ?_, ?_⟩, gb⟩
  · intro i F e
    have hi : i < n := by rw [← hn, ← r.len]; exact (List.getElem?_eq_some_iff.1 e).1
    obtain ⟨F', e', l⟩ := h.goes i F e
    have hle := hp.le
    exact ⟨F', by rw [get i (by omega), (hp.fix i hi).2]; exact e', l⟩
  · intro id b F idx h1 h2
    obtain ⟨hid, b', hb, rfl⟩ := permH_get h1
    rw [get id hid] at h2
    exact BlkAt.ren gb (h.rel.at_ _ _ _ idx hb h2)
  · intro id b F idx id' b' F' idx' h1 h2 h3 h4 h5 h6 h7 h8
    obtain ⟨hid, c, hc, rfl⟩ := permH_get h1
    obtain ⟨hid', c', hc', rfl⟩ := permH_get h5
    rw [get _ hid] at h2
    rw [get _ hid'] at h6
    refine h.rel.apart _ c F idx _ c' F' idx' hc h2 ((renB_live f c idx).1 h3) (by rw [← renB_own f]; exact h4) hc' h6 ((renB_live f c' idx').1 h7) fun e => h8 ?_
    simp only [Prod.mk.injEq] at e ⊢
    exact ⟨by rw [← fg id hid, e.1, fg id' hid'], e.2⟩
  · intro id k o
    have hid : id < N := by
      obtain ⟨b, F, idx, h1, h2, h3, h4, h5⟩ := o
      exact lt'' _ _ h4
    rcases h.each _ _ (own id k o) with a | a | a
    · exact .inl a
    · exact .inr (.inl a)
    · refine .inr (.inr ?_)
      rcases Nat.lt_or_ge id n with h1 | h1
      · rw [(hp.fix id h1).2] at a; exact a
      · obtain ⟨b, F, idx, h2, _⟩ := a
        have := (List.getElem?_eq_some_iff.1 h2).1
        have := (hp.fg id h1 hid).2.1
        omega
  · intro id b' hid hb
    obtain ⟨hidN, b2, hb2, rfl⟩ := permH_get hb
    rw [(hp.fix id (by omega)).2] at hb2
    obtain ⟨b, e, o, l, k⟩ := h.old id b2 hid hb2
    refine ⟨b, e, by rw [renB_own]; exact o, fun idx hx => l idx ((renB_live f b2 idx).1 hx), fun ho F F' hF hF' => ?_⟩
    rw [get id hidN, (hp.fix id (by omega)).2] at hF'
    exact k (by rw [← renB_own f]; exact ho) F F' hF hF'
  · intro id b' hid hb
    obtain ⟨hidN, b2, hb2, rfl⟩ := permH_get hb
    rw [renB_own]
    exact h.mine _ b2 (by rw [hn]; exact (hp.fg id (by omega) hidN).2.1) hb2
end

/-! ### Values that are one -/

def sureC : Cell → Bool
  | .empty => false
  | .anyp => false
  | _ => true
def sure1 : AV1 → Bool
  | .cell c => sureC c
  | .agg cs => cs.all sureC
def sureV : AV → Bool
  | .cell c => sureC c
  | .agg cs => cs.all sureC
  | .tup l => l.all sure1
  | .junk => false

theorem All2.fun_ {α β : Type} {R : α → β → Prop} {q : α → Bool} (h : ∀ a b c, q a = true → R a b → R a c → b = c) : ∀ {l : List α} {m k : List β}, l.all q = true → All2 R l m → All2 R l k → m = k
  | [], [], [], _, _, _ => rfl
  | a :: l, b :: m, c :: k, hq, ⟨h1, h2⟩, ⟨h3, h4⟩ => by
    simp only [List.all_cons, Bool.and_eq_true] at hq
    rw [h a b c hq.1 h1 h3, All2.fun_ h hq.2 h2 h4]
  | [], _ :: _, _, _, h, _ => h.elim
  | [], [], _ :: _, _, _, h => h.elim
  | _ :: _, [], _, _, h, _ => h.elim
  | _ :: _, _ :: _, [], _, _, h => h.elim

theorem RC.sure {ρ : Map} {c : Cell} {v u : Value} (hs : sureC c = true) (h : RC ρ c v) (k : RC ρ c u) : v = u := by
  cases c with
  | yld id =>
    obtain ⟨F, h2, rfl⟩ := h
    obtain ⟨G, k2, rfl⟩ := k
    rw [h2] at k2; cases k2; rfl
  | ptr nl id idx off =>
    rcases h with ⟨h1, rfl⟩ | ⟨h1, F, h2, rfl⟩ <;> rcases k with ⟨k1, rfl⟩ | ⟨k1, G, k2, rfl⟩
    · rfl
    · rw [h1] at k1; cases k1
    · rw [h1] at k1; cases k1
    · rw [h2] at k2; cases k2; rfl
  | slice nl id idx off len cap sz =>
    rcases h with ⟨h1, h2, rfl⟩ | ⟨h1, F, r, h2, rfl, h3, h4⟩ <;> rcases k with ⟨k1, k2, rfl⟩ | ⟨k1, G, q, k2, rfl, k3, k4⟩
    · rfl
    · rw [h1] at k1; cases k1
    · rw [h1] at k1; cases k1
    · rw [h2] at k2; cases k2
      cases cap with
      | some c => simp only at h4 k4; rw [h4, k4]
      | none => simp only at h4 k4; rw [h4, k4]
  | func f caps =>
    obtain ⟨vs, rfl, h1⟩ := h
    obtain ⟨us, rfl, k1⟩ := k
    have : vs = us := All2.fun_ (q := fun _ => true) (fun p b c _ hb hc => by
      obtain ⟨F, e1, rfl⟩ := hb
      obtain ⟨G, e2, rfl⟩ := hc
      rw [e1] at e2; cases e2; rfl) (by simp) h1 k1
    rw [this]
  | map nl id idx =>
    rcases h with ⟨h1, rfl⟩ | ⟨h1, F, h2, rfl⟩ <;> rcases k with ⟨k1, rfl⟩ | ⟨k1, G, k2, rfl⟩
    · rfl
    · rw [h1] at k1; cases k1
    · rw [h1] at k1; cases k1
    · rw [h2] at k2; cases k2; rfl
  | bool b => cases h; cases k; rfl
  | int a b => cases h; cases k; rfl
  | str l => cases h; cases k; rfl
  | empty => cases hs
  | nilFunc => cases h; cases k; rfl
  | anyp => cases hs

theorem R1.sure {ρ : Map} {c : AV1} {v u : Value} (hs : sure1 c = true) (h : R1 ρ c v) (k : R1 ρ c u) : v = u := by
  cases c with
  | cell c => exact RC.sure hs h k
  | agg cs =>
    obtain ⟨vs, rfl, h1⟩ := h
    obtain ⟨us, rfl, k1⟩ := k
    rw [All2.fun_ (fun _ _ _ => RC.sure) hs h1 k1]

theorem RV.sure {ρ : Map} {c : AV} {v u : Value} (hs : sureV c = true) (h : RV ρ c v) (k : RV ρ c u) : v = u := by
  cases c with
  | cell c => exact RC.sure hs h k
  | agg cs =>
    obtain ⟨vs, rfl, h1⟩ := h
    obtain ⟨us, rfl, k1⟩ := k
    rw [All2.fun_ (fun _ _ _ => RC.sure) hs h1 k1]
  | tup l =>
    obtain ⟨vs, rfl, h1⟩ := h
    obtain ⟨us, rfl, k1⟩ := k
    rw [All2.fun_ (fun _ _ _ => R1.sure) hs h1 k1]
  | junk => cases hs

def isMove : Op → Bool
  | .move _ => true
  | .assign _ => true
  | _ => false

section
variable {D : Type}

/-- What an operation yields that turns nothing. -/
def calmA (P : Program) (Hx : Heap D) (ops : Array Oper) (t : List AV) (dec : Dec) (o : Oper) : Option (VC × AV × Dec) :=
  match guardA ops t o dec with
  | some (p, false, d) => some (p, undefA, d)
  | some (p, true, d) => match pureA P Hx t d o.op with
    | some (q, v, d') => match isMove o.op || sureV v with
      | true => some (p ++ vcOf o.op q, v, d')
      | false => none
    | none => none
  | none => none

theorem calmA_ok {P : Program} {ops : Array Oper} {S : World → Prop} {ρ ρx : Map} {Hx : Heap D} {t : List AV} {a : Act} {dec d : Dec} {o : Oper} {p : VC} {v : AV} {w : World}
    (hx : ∀ w', S w' → Rel ρx Hx w') (g1 : Goes ρ ρx) (g2 : Goes ρx ρ) (hS : S w) (ht : TR ρ t a) (h : calmA P Hx ops t dec o = some (p, v, d)) (hp : VC.ok p) :
    ∃ r, YieldsIf P ops S o r a ∧ RV ρ v r := by
  have htx : TR ρx t a := ht.goes g1
  unfold calmA at h
  split at h
  · rename_i q d1 hg
    cases h
    exact ⟨undef, .inr ⟨guardA_ok ht hg hp, rfl⟩, undef_ok⟩
  · rename_i q d1 hg
    split at h
    · rename_i q2 v2 d2 hpu
      split at h
      · rename_i hs
        cases h
        have hp := ok_app.1 hp
        have hw := guardA_ok ht hg hp.1
        have hok : ∀ w', S w' → PureOk P ρx w' a o v := fun w' h' => pureA_ok (hx w' h') htx hpu (easy_ok hpu hp.2)
        obtain ⟨r, hr, hv⟩ := hok w hS
        refine ⟨r, .inl ⟨hw, fun w' h' => ?_⟩, hv.goes g2⟩
        rw [Bool.or_eq_true] at hs
        rcases hs with hs | hs
        · obtain ⟨dst, op, type, pos, after, guard⟩ := o
          cases op with
          | move x =>
            have e : ∀ w, (execOp a.eval ⟨dst, .move x, type, pos, after, guard⟩).run P w = .ok (.value (a.eval x)) w := fun _ => rfl
            rw [e] at hr ⊢
            simpa using hr
          | assign x =>
            have e : ∀ w, (execOp a.eval ⟨dst, .assign x, type, pos, after, guard⟩).run P w = .ok (.value (a.eval x)) w := fun _ => rfl
            rw [e] at hr ⊢
            simpa using hr
          | _ => simp only [isMove, Bool.false_eq_true] at hs
        · obtain ⟨r', hr', hv'⟩ := hok w' h'
          rw [hr', RV.sure hs hv' hv]
      · cases h
    · cases h
  · cases h
end
end
end Go.Proofs.Ytnoonoghemgbbaa.Sx
