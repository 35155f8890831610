/-
  A symbolic evaluator over the model's code: part 13: regions, code and calls: what the evaluator says the model does.
-/
import Derived.Test.YtnoonoghemgbbaaSx12
import Derived.LoopN
namespace Go.Proofs.Ytnoonoghemgbbaa.Sx
open Go

theorem ok_app {p q : VC} : VC.ok (p ++ q) ↔ VC.ok p ∧ VC.ok q := by
  induction p with
  | nil => simp [VC.ok]
  | cons x p ih => simp [VC.ok, ih, and_assoc]

theorem intBin_easy {op : BinOp} {k : IntKind} {x y : Int} {p : Cd} {c : Cell} (h : intBin op k x y = some (p, c)) (h1 : op ≠ .quo) (h2 : op ≠ .rem) : p := by
  cases op <;> simp only [intBin, Option.some.injEq, Prod.mk.injEq, reduceCtorEq] at h <;> first
    | exact absurd rfl h1
    | exact absurd rfl h2
    | (rw [← h.1]; trivial)

theorem eqlNil_easy {op : BinOp} {b : Bool} {p : Cd} {c : Cell} (h : eqlNil op b = some (p, c)) : p := by
  cases op <;> simp only [eqlNil, Option.some.injEq, Prod.mk.injEq, reduceCtorEq] at h <;> (rw [← h.1]; trivial)

theorem binA_easy {P : Program} {op : BinOp} {ty : TypeId} {a b c : Cell} {p : Cd} (h : binA P op ty a b = some (p, c)) (h1 : op ≠ .quo) (h2 : op ≠ .rem) (h3 : op ≠ .shl) (h4 : op ≠ .shr) (h5 : op ≠ .add) : p := by
  unfold binA at h
  try simp only [nth_eq, setL_eq, und_eq, inf_eq] at h
  split at h
  · split at h
    · rename_i hs
      cases op <;> first
        | exact absurd rfl h3
        | exact absurd rfl h4
        | cases hs
    · split at h
      · exact intBin_easy h h1 h2
      · cases h
  · cases op <;> simp only [strBin, Option.some.injEq, Prod.mk.injEq, reduceCtorEq] at h <;> first
      | exact absurd rfl h5
      | (rw [← h.1]; trivial)
  · split at h
    · split at h
      · cases h; trivial
      · cases h; trivial
      · cases h
    · cases h
  all_goals first
    | (split at h
       · exact eqlNil_easy h
       · cases h)
    | cases h

theorem easy_ok {D : Type} {P : Program} {H : Heap D} {t : List AV} {dec d : Dec} {op : Op} {p : Cd} {v : AV} (h : pureA P H t dec op = some (p, v, d)) (hp : VC.ok (vcOf op p)) : p := by
  unfold vcOf at hp
  cases he : easy op with
  | false => rw [he] at hp; exact hp.1
  | true =>
    cases op <;> simp only [pureA, nth_eq, und_eq, inf_eq, reduceCtorEq] at h <;> try (cases he; done)
    case move x => split at h <;> first | (cases h; trivial) | cases h
    case assign x => split at h <;> first | (cases h; trivial) | cases h
    case binOp bop ty x y yt =>
      split at h
      · split at h
        · rename_i hb
          cases h
          refine binA_easy hb ?_ ?_ ?_ ?_ ?_ <;> (intro e; subst e; cases he)
        · cases h
      · cases h
    case unOp uop ty x =>
      split at h
      · split at h <;> first | (cases h; trivial) | cases h
      · cases h
    case convert s e x =>
      split at h
      · split at h <;> first | (cases h; trivial) | cases h
      · cases h
    case extract x i =>
      split at h
      · split at h <;> first | (cases h; trivial) | cases h
      · cases h
    case makeFunc fn first caps =>
      cases fn <;> simp only [pureA, nth_eq, und_eq, inf_eq, reduceCtorEq] at h
      split at h <;> first | (cases h; trivial) | cases h
    case field ty x f =>
      split at h
      · split at h
        · split at h <;> first | (cases h; trivial) | cases h
        · cases h
      · cases h
    case build ty ps => split at h <;> first | (cases h; trivial) | cases h
    case call c =>
      split at h
      · split at h
        · split at h
          · split at h <;> first | (cases h; trivial) | cases h
          · cases h
        · cases h
      · split at h
        · split at h <;> first | (cases h; trivial) | cases h
        · cases h
      · split at h
        · split at h <;> first | (cases h; trivial) | cases h
        · cases h
      · cases h

theorem easyM_ok {D : Type} {P : Program} {H H' : Heap D} {t : List AV} {dec d : Dec} {op : Op} {p : Cd} {v : AV} {l : Nat} (h : memA P H t dec op = some (p, v, H', l, d)) (hp : VC.ok (vcOfM op p)) : p := by
  unfold vcOfM at hp
  cases he : easyM op with
  | false => rw [he] at hp; exact hp.1
  | true =>
    cases op <;> simp only [memA, nth_eq, setL_eq, und_eq, inf_eq, reduceCtorEq] at h <;> try (cases he; done)
    case alloc e => split at h <;> first | (cases h; trivial) | cases h
    case box e x => split at h <;> first | (cases h; trivial) | cases h

section
variable {D : Type} [Reps D]

/-- A function does what a summary says. -/
def Valid (P : Program) (f : FuncId) (s : Sum D) : Prop :=
  ∀ args H dec p v H' low d, s args H dec = some (p, v, H', low, d) → VC.ok p → ∀ ρ w (as : Array Value), Rel ρ H w → All2 (RV ρ) args as.toList →
    Calls P f as w fun e w' => ∃ r ρ', e = .returned r ∧ Step ρ H w low ρ' H' w' ∧ RV ρ' v r

def Done (ρ : Map) (H : Heap D) (w : World) (ex : Ex) (t : List AV) (H' : Heap D) (low : Nat) : Exit → Act → World → Prop :=
  fun e a' w' => e = ex.real ∧ a'.defers = [] ∧ ∃ ρ', Step ρ H w low ρ' H' w' ∧ TR ρ' t a'

def LValid (P : Program) (body : Code) (s : LSum D) : Prop :=
  ∀ t H dec p ex t' H' low d, s t H dec = some (p, ex, t', H', low, d) → VC.ok p → ∃ m, ∀ ρ w a, Rel ρ H w → TR ρ t a → a.defers = [] →
    Code.rounds P body (Done ρ H w ex t' H' low) m a w

def DValid (P : Program) (DR : Array Oper → List AV → Heap D → Dec → RR D) : Prop :=
  ∀ id ops t H dec p t' H' low d, DR ops t H dec = some (p, t', H', low, d) → VC.ok p → ∀ ρ w a, Rel ρ H w → TR ρ t a → a.defers = [] →
    (Code.region id ops true).wp P (Done ρ H w .normal t' H' low) a w

theorem TR.put {ρ : Map} {t : List AV} {a : Act} (h : TR ρ t a) {dst : Option Tmp} {v : AV} {r : Value} (hv : RV ρ v r) : TR ρ (putA t dst v) (a.put dst r) := by
  cases dst with
  | none => exact h
  | some d =>
    show All2 (RV ρ) (setL t d v) (a.tmps.setIfInBounds d r).toList
    rw [Array.toList_setIfInBounds, setL_eq]
    exact All2.set h d hv

theorem TR.goes {ρ ρ' : Map} (g : Goes ρ ρ') {t : List AV} {a : Act} (h : TR ρ t a) : TR ρ' t a := All2.mono (fun _ _ => RV.goes g) h

theorem put_defers (a : Act) (dst : Option Tmp) (v : Value) : (a.put dst v).defers = a.defers := by cases dst <;> rfl

theorem undef_ok {ρ : Map} : RV ρ undefA undef := ⟨[], rfl, trivial⟩

theorem argsA_ok {ρ : Map} {t : List AV} {a : Act} (ht : TR ρ t a) : ∀ {l : List Operand} {m : List AV}, argsA t l = some m → All2 (RV ρ) m (l.map a.eval)
  | [], m, h => by simp [argsA] at h; subst h; trivial
  | x :: l, m, h => by
    unfold argsA at h
    split at h
    · rename_i c m' hc hm
      cases h
      exact ⟨opnd_ok ht hc, argsA_ok ht hm⟩
    · cases h

theorem capsA_ok {ρ : Map} : ∀ {l : List (Nat × Nat × Nat)} {vs : List Value}, All2 (RCap ρ) l vs → All2 (RV ρ) (capsA l) vs
  | [], [], _ => trivial
  | (_, _, _) :: l, v :: vs, ⟨⟨F, hF, e⟩, h2⟩ => ⟨.inr ⟨rfl, F, hF, e⟩, capsA_ok h2⟩
  | [], _ :: _, h => h.elim
  | _ :: _, [], h => h.elim

theorem entersA_ok {P : Program} {w : World} {f : FuncId} (h : entersA P f = true) (args : Array Value) : (callFunc f args).run P w = .ok (.enter f args) w := by
  unfold entersA at h
  try simp only [nth_eq, setL_eq, und_eq, inf_eq] at h
  split at h
  · rename_i fn hf
    rw [Array.getElem?_toList] at hf
    split at h
    · rename_i c hb
      have hn : (fn.name == "runtime.NumGoroutine") = false := by simpa using h
      simp only [callFunc, Sem.run_bind, run_program, Result.andThen_ok, hf, hn, Bool.false_eq_true, if_false, hb, Option.isNone_some]
      rfl
    · cases h
  · cases h

theorem goA_ok {P : Program} {E : FuncId → Sum D} (hE : ∀ f, Valid P f (E f)) {ρ : Map} {H H' : Heap D} {w : World} {t : List AV} {a : Act} (r : Rel ρ H w) (ht : TR ρ t a) {dec d : Dec} {o : Oper} {p : VC} {v : AV} {low : Nat}
    (h : goA P E t H dec o.op = some (p, v, H', low, d)) (hp : VC.ok p) (next : Act → World → Prop) (Q : Exit → Act → World → Prop)
    (hn : ∀ ρ' w' rv, Step ρ H w low ρ' H' w' → RV ρ' v rv → next (a.put o.dst rv) w') : o.wp P a w next Q := by
  obtain ⟨dst, op, type, pos, after, guard⟩ := o
  simp only at h hn
  cases op <;> simp only [goA, reduceCtorEq] at h
  rename_i c
  obtain ⟨callee, args, argTypes⟩ := c
  simp only at h
  split at h
  · rename_i f
    split at h
    · rename_i g caps hc
      split at h
      · rename_i as he ha
        obtain ⟨vs, e, hvs⟩ := cellOf_ok ht hc
        have hrun : (execOp a.eval ⟨dst, .call ⟨.value f, args, argTypes⟩, type, pos, after, guard⟩).run P w = .ok (.enter g ((args.map a.eval) ++ vs.toArray)) w := by
          simp only [execOp, resolve, e, Deferred.ofValue, Sem.run_bind, Sem.run_pure, Result.andThen_ok, invoke]
          rw [Array.empty_append]
          exact entersA_ok he _
        unfold Oper.wp
        rw [hrun]
        refine (hE g _ _ _ _ _ _ _ _ h hp ρ w _ r ?_).mono ?_
        · rw [Array.toList_append, Array.toList_map]
          exact (argsA_ok ht ha).app (capsA_ok hvs)
        · rintro e' w' ⟨rv, ρ', rfl, hs, hr⟩
          exact hn ρ' w' rv hs hr
      · cases h
    · cases h
  · cases h

theorem opA_ok {P : Program} {E : FuncId → Sum D} (hE : ∀ f, Valid P f (E f)) {ρ : Map} {H H' : Heap D} {w : World} {t : List AV} {a : Act} (r : Rel ρ H w) (ht : TR ρ t a) {dec d : Dec} {o : Oper} {p : VC} {v : AV} {low : Nat}
    (h : opA P E t H dec o.op = some (p, v, H', low, d)) (hp : VC.ok p) (next : Act → World → Prop) (Q : Exit → Act → World → Prop)
    (hn : ∀ ρ' w' rv, Step ρ H w low ρ' H' w' → RV ρ' v rv → next (a.put o.dst rv) w') : o.wp P a w next Q := by
  unfold opA at h
  split at h
  · rename_i q u d' hq
    simp only [Option.some.injEq, Prod.mk.injEq] at h
    obtain ⟨rfl, rfl, rfl, rfl, rfl⟩ := h
    obtain ⟨rv, hr, hv⟩ := pureA_ok r ht hq (easy_ok hq hp)
    unfold Oper.wp
    rw [hr]
    exact hn ρ w rv (Step.refl r _) hv
  · split at h
    · rename_i q u H1 l1 d1 hx
      simp only [Option.some.injEq, Prod.mk.injEq] at h
      obtain ⟨rfl, rfl, rfl, rfl, rfl⟩ := h
      obtain ⟨rv, ρ', w', hr, hs, hv⟩ := memA_ok r ht hx (easyM_ok hx hp)
      unfold Oper.wp
      rcases hr with hr | ⟨hr, rfl⟩
      · rw [hr]; exact hn ρ' w' rv hs hv
      · rw [hr]; exact hn ρ' w' undef hs hv
    · exact goA_ok hE r ht h hp next Q hn

theorem guardA_ok {ρ : Map} {ops : Array Oper} {t : List AV} {a : Act} (ht : TR ρ t a) {o : Oper} {dec d : Dec} {p : VC} {b : Bool} (h : guardA ops t o dec = some (p, b, d)) (hp : VC.ok p) :
    Region.wanted o (yielded ops a.tmps) = b := by
  unfold guardA at h
  try simp only [nth_eq, setL_eq, und_eq, inf_eq] at h
  unfold Region.wanted
  split at h
  · rename_i hg
    cases h
    rw [hg]
  · rename_i j want hg
    rw [hg]
    simp only
    split at h
    · rename_i oj hoj
      rw [Array.getElem?_toList] at hoj
      split at h
      · rename_i dd hd
        have hy : yielded ops a.tmps j = (match a.tmps[dd]? with | some (.bool b) => some b | _ => none) := by
          unfold yielded
          rw [hoj]
          simp [hd]
          rfl
        split at h
        · rename_i x ds htd
          obtain ⟨v, hv, hr⟩ := All2.get ht htd
          cases hr
          rw [Array.getElem?_toList] at hv
          rw [hy, hv]
          cases h
          simpa using hp.1
        · rename_i x n ds htd
          obtain ⟨v, hv, hr⟩ := All2.get ht htd
          cases hr
          rw [Array.getElem?_toList] at hv
          rw [hy, hv]
          cases h
          simpa using hp.1
        · rename_i htd
          obtain ⟨v, hv, vs, hr, _⟩ := All2.get ht htd
          rw [Array.getElem?_toList] at hv
          rw [hy, hv, hr]
          cases h
          rfl
        · cases h
      · cases h
    · cases h

theorem range_drop (n k : Nat) : (List.range n).drop k = (List.range (n - k)).map (k + ·) := by
  apply List.ext_getElem?
  intro i
  rw [List.getElem?_drop, List.getElem?_map]
  rcases Nat.lt_or_ge i (n - k) with h | h
  · rw [List.getElem?_range (by omega), List.getElem?_range h]; rfl
  · rw [List.getElem?_eq_none (by simp; omega), List.getElem?_eq_none (by simpa using h)]; rfl

theorem regionA_ok {P : Program} {E : FuncId → Sum D} (hE : ∀ f, Valid P f (E f)) {ops : Array Oper} (Q : Exit → Act → World → Prop) : ∀ (l : List Oper) (k : Nat), l = ops.toList.drop k → ∀ {ρ : Map} {H H' : Heap D} {w : World} {t t' : List AV} {a : Act} {dec d : Dec} {p : VC} {low : Nat},
    Rel ρ H w → TR ρ t a → a.defers = [] → regionA P E ops l t H dec = some (p, t', H', low, d) → VC.ok p →
    (∀ a' w', Done ρ H w .normal t' H' low .normal a' w' → Q .normal a' w') → wpOps P ops Q ((List.range ops.size).drop k) a w
  | [], k, hl, ρ, H, H', w, t, t', a, dec, d, p, low, r, ht, hd, h, hp, hQ => by
    simp only [regionA, Option.some.injEq, Prod.mk.injEq] at h
    obtain ⟨rfl, rfl, rfl, rfl, rfl⟩ := h
    have hk : ops.size ≤ k := by
      have := congrArg List.length hl
      simp at this; omega
    rw [List.drop_eq_nil_of_le (by simpa using hk)]
    exact hQ a w ⟨rfl, hd, ρ, Step.refl r _, ht⟩
  | o :: rest, k, hl, ρ, H, H', w, t, t', a, dec, d, p, low, r, ht, hd, h, hp, hQ => by
    have hk : k < ops.size := by
      rcases Nat.lt_or_ge k ops.size with h | h
      · exact h
      · rw [List.drop_eq_nil_of_le (by simpa using h)] at hl; cases hl
    have hk' : k < ops.toList.length := by simpa using hk
    rw [List.drop_eq_getElem_cons hk'] at hl
    obtain ⟨ho1, ho2⟩ := List.cons_eq_cons.1 hl
    subst ho1
    have ho : ops[k]? = some ops.toList[k] := by simp [hk]
    have hkr : k < (List.range ops.size).length := by simpa using hk
    rw [List.drop_eq_getElem_cons hkr]
    simp only [List.getElem_range, wpOps]
    rw [ho]
    simp only
    unfold regionA at h
    split at h
    · cases h
    · rename_i q d1 hg
      split at h
      · rename_i s rr hrest
        cases h
        have hp := ok_app.1 hp
        have hw := guardA_ok ht hg hp.1
        rw [hw]
        simp only [Bool.false_eq_true, if_false]
        exact regionA_ok hE Q rest (k + 1) ho2 r (ht.put undef_ok) (by rw [put_defers]; exact hd) hrest hp.2 hQ
      · cases h
    · rename_i q d1 hg
      split at h
      · rename_i q2 v H1 l1 d2 hop
        split at h
        · rename_i s t1 H2 l2 d3 hrest
          simp only [Option.some.injEq, Prod.mk.injEq] at h
          obtain ⟨rfl, rfl, rfl, rfl, rfl⟩ := h
          have hp1 := ok_app.1 hp
          have hp := And.intro hp1.1 (ok_app.1 hp1.2)
          have hw := guardA_ok ht hg hp.1
          rw [hw]
          simp only [if_true]
          refine .inl (opA_ok hE r ht hop hp.2.1 _ Q ?_)
          intro ρ' w' rv hs hv
          refine regionA_ok hE Q rest (k + 1) ho2 hs.rel ((ht.goes hs.goes).put hv) (by rw [put_defers]; exact hd) hrest hp.2.2 ?_
          rintro a' w'' ⟨_, hd', ρ'', hs', ht'⟩
          exact hQ a' w'' ⟨rfl, hd', ρ'', hs.trans r hs', ht'⟩
        · cases h
      · cases h

theorem Done.trans {ρ ρ1 : Map} {H H1 H2 : Heap D} {w w1 : World} {l1 l2 : Nat} {ex : Ex} {t2 : List AV} (r : Rel ρ H w) (hs : Step ρ H w l1 ρ1 H1 w1) {e : Exit} {a : Act} {w2 : World}
    (h : Done ρ1 H1 w1 ex t2 H2 l2 e a w2) : Done ρ H w ex t2 H2 (min l1 l2) e a w2 := by
  obtain ⟨h1, h2, ρ2, h3, h4⟩ := h
  exact ⟨h1, h2, ρ2, hs.trans r h3, h4⟩

theorem rounds_mono {P : Program} {c : Code} {Q Q' : Exit → Act → World → Prop} (hq : ∀ e a w, Q e a w → Q' e a w) : ∀ {m : Nat} {a : Act} {w : World}, Code.rounds P c Q m a w → Code.rounds P c Q' m a w
  | 0, _, _, h => h.elim
  | m + 1, _, _, h => wp_mono h fun e a w he => by
    cases e <;> first
      | exact rounds_mono hq he
      | exact hq _ _ _ he

theorem rounds_le {P : Program} {c : Code} {Q : Exit → Act → World → Prop} : ∀ {m : Nat} {a : Act} {w : World}, Code.rounds P c Q m a w → Code.rounds P c Q (m + 1) a w
  | 0, _, _, h => h.elim
  | m + 1, _, _, h => wp_mono h fun e a w he => by
    cases e <;> first
      | exact rounds_le he
      | exact he

/-- What is shown of code: of a loop how many rounds it takes. -/
def Runs (P : Program) (c : Code) (t : List AV) (H : Heap D) (ex : Ex) (t' : List AV) (H' : Heap D) (low : Nat) : Prop :=
  match c with
  | .loop body => ∃ m, ∀ ρ w a, Rel ρ H w → TR ρ t a → a.defers = [] → Code.rounds P body (Done ρ H w ex t' H' low) m a w
  | c => ∀ ρ w a, Rel ρ H w → TR ρ t a → a.defers = [] → c.wp P (Done ρ H w ex t' H' low) a w

theorem Runs.wp {P : Program} {c : Code} {t : List AV} {H : Heap D} {ex : Ex} {t' : List AV} {H' : Heap D} {low : Nat} (h : Runs P c t H ex t' H' low) {ρ : Map} {w : World} {a : Act} (r : Rel ρ H w) (ht : TR ρ t a) (hd : a.defers = []) :
    c.wp P (Done ρ H w ex t' H' low) a w := by
  cases c with
  | loop body => obtain ⟨m, hm⟩ := h; exact wp_loop_rounds m (hm ρ w a r ht hd)
  | _ => exact h ρ w a r ht hd

theorem codeA_ok {P : Program} {E : FuncId → Sum D} (hE : ∀ f, Valid P f (E f)) {L : Nat → Option (Code × LSum D)} (hL : ∀ k b s, L k = some (b, s) → LValid P b s)
    {DR : Array Oper → List AV → Heap D → Dec → RR D} (hD : DValid P DR) : ∀ (n : Nat) (c : Code) {H H' : Heap D} {t t' : List AV} {dec d : Dec} {p : VC} {low : Nat} {ex : Ex},
    codeA P E L DR n c t H dec = some (p, ex, t', H', low, d) → VC.ok p → Runs P c t H ex t' H' low
  | 0, c, H, H', t, t', dec, d, p, low, ex, h, hp => by simp [codeA] at h
  | n + 1, c, H, H', t, t', dec, d, p, low, ex, h, hp => by
    have ihr := @codeA_ok P E hE L hL DR hD n
    have ih : ∀ (c : Code) {ρ : Map} {H H' : Heap D} {w : World} {t t' : List AV} {a : Act} {dec d : Dec} {p : VC} {low : Nat} {ex : Ex}, Rel ρ H w → TR ρ t a → a.defers = [] →
        codeA P E L DR n c t H dec = some (p, ex, t', H', low, d) → VC.ok p → c.wp P (Done ρ H w ex t' H' low) a w := fun c _ _ _ _ _ _ _ _ _ _ _ _ r ht hd h hp => (ihr c h hp).wp r ht hd
    cases c with
    | skip =>
      intro ρ w a r ht hd
      simp only [codeA, Option.some.injEq, Prod.mk.injEq] at h
      obtain ⟨rfl, rfl, rfl, rfl, rfl, rfl⟩ := h
      exact wp_skip ⟨rfl, hd, ρ, Step.refl r _, ht⟩
    | region id ops draw =>
      intro ρ w a r ht hd
      cases draw with
      | false =>
        simp only [codeA] at h
        split at h
        · rename_i q t1 H1 l1 d1 hr
          simp only [Option.some.injEq, Prod.mk.injEq] at h
          obtain ⟨rfl, rfl, rfl, rfl, rfl, rfl⟩ := h
          have := regionA_ok hE (Done ρ H w .normal t1 H1 l1) ops.toList 0 (by simp) r ht hd hr hp (fun a' w' h => h)
          exact wp_region (by simpa using this)
        · cases h
      | true =>
        simp only [codeA] at h
        split at h
        · rename_i q t1 H1 l1 d1 hr
          simp only [Option.some.injEq, Prod.mk.injEq] at h
          obtain ⟨rfl, rfl, rfl, rfl, rfl, rfl⟩ := h
          exact hD id ops t H dec _ _ _ _ _ hr hp ρ w a r ht hd
        · cases h
    | seq x y =>
      intro ρ w a r ht hd
      simp only [codeA] at h
      split at h
      · rename_i q t1 H1 l1 d1 hx
        split at h
        · rename_i q2 ex2 t2 H2 l2 d2 hy
          simp only [Option.some.injEq, Prod.mk.injEq] at h
          obtain ⟨rfl, rfl, rfl, rfl, rfl, rfl⟩ := h
          have hp := ok_app.1 hp
          refine wp_seq (wp_mono (ih x r ht hd hx hp.1) ?_)
          rintro e a' w' ⟨rfl, hd', ρ', hs, ht'⟩
          show y.wp P _ a' w'
          exact wp_mono (ih y hs.rel ht' hd' hy hp.2) fun e a w h => h.trans r hs
        · cases h
      · rename_i hne
        refine wp_seq (wp_mono (ih x r ht hd h hp) ?_)
        rintro e a' w' hdone
        obtain ⟨rfl, hrest⟩ := hdone
        cases ex with
        | normal => exact absurd h (by intro hh; exact hne _ _ _ _ _ hh)
        | exit id => exact ⟨rfl, hrest⟩
        | ret => exact ⟨rfl, hrest⟩
    | cond x thn els =>
      intro ρ w a r ht hd
      simp only [codeA] at h
      split at h
      · rename_i b d1 hx
        split at h
        · rename_i q rr hr
          cases h
          have e : a.eval x = .bool b := cellOf_ok ht hx
          have hb : b = false := hp.1
          subst hb
          exact wp_cond_false e (ih els r ht hd hr hp.2)
        · cases h
      · rename_i b k d1 hx
        split at h
        · rename_i q rr hr
          cases h
          have e : a.eval x = .bool b := cellOf_ok ht hx
          have hb : b = true := hp.1
          subst hb
          exact wp_cond_true e (ih thn r ht hd hr hp.2)
        · cases h
      · cases h
    | block id body =>
      intro ρ w a r ht hd
      simp only [codeA] at h
      split at h
      · rename_i q id' rr hr
        split at h
        · rename_i hid
          have hid' : id' = id := Nat.eq_of_beq_eq_true hid
          subst hid'
          cases h
          refine wp_block (wp_mono (ih body r ht hd hr hp) ?_)
          rintro e a' w' ⟨rfl, hrest⟩
          simp only [Ex.real, Exit.inBlock, if_true]
          exact ⟨rfl, hrest⟩
        · rename_i hid
          have hid' : id' ≠ id := Nat.ne_of_beq_eq_false hid
          cases h
          refine wp_block (wp_mono (ih body r ht hd hr hp) ?_)
          rintro e a' w' ⟨rfl, hrest⟩
          simp only [Ex.real, Exit.inBlock, hid', if_false]
          exact ⟨rfl, hrest⟩
      · rename_i hne
        refine wp_block (wp_mono (ih body r ht hd h hp) ?_)
        rintro e a' w' ⟨rfl, hrest⟩
        cases ex with
        | normal => exact ⟨rfl, hrest⟩
        | exit id' => exact absurd h (by intro hh; exact hne _ _ _ hh)
        | ret => exact ⟨rfl, hrest⟩
    | loop body =>
      simp only [codeA] at h
      split at h
      · rename_i d1
        split at h
        · rename_i q t1 H1 l1 d2 hb
          split at h
          · rename_i q2 ex2 t2 H2 l2 d3 hl
            simp only [Option.some.injEq, Prod.mk.injEq] at h
            obtain ⟨rfl, rfl, rfl, rfl, rfl, rfl⟩ := h
            have hp := ok_app.1 hp
            obtain ⟨m, hm⟩ := ihr (.loop body) hl hp.2
            refine ⟨m + 1, fun ρ w a r ht hd => wp_mono (ih body r ht hd hb hp.1) ?_⟩
            rintro e a' w' ⟨rfl, hd', ρ', hs, ht'⟩
            exact rounds_mono (fun e a w h => h.trans r hs) (hm ρ' w' a' hs.rel ht' hd')
          · cases h
        · rename_i hne
          refine ⟨1, fun ρ w a r ht hd => wp_mono (ih body r ht hd h hp) ?_⟩
          rintro e a' w' ⟨rfl, hrest⟩
          cases ex with
          | normal => exact absurd h (by intro hh; exact hne _ _ _ _ _ hh)
          | exit id' => exact ⟨rfl, hrest⟩
          | ret => exact ⟨rfl, hrest⟩
      · rename_i k d1
        split at h
        · rename_i b s hk
          split at h
          · rename_i q rr hs
            cases h
            obtain ⟨rfl, hq⟩ := hp
            exact hL k _ s hk t H d1 _ _ _ _ _ _ hs hq
          · cases h
        · cases h
      · cases h
    | exit id =>
      intro ρ w a r ht hd
      simp only [codeA, Option.some.injEq, Prod.mk.injEq] at h
      obtain ⟨rfl, rfl, rfl, rfl, rfl, rfl⟩ := h
      exact wp_exit ⟨rfl, hd, ρ, Step.refl r _, ht⟩
    | ret =>
      intro ρ w a r ht hd
      simp only [codeA, Option.some.injEq, Prod.mk.injEq] at h
      obtain ⟨rfl, rfl, rfl, rfl, rfl, rfl⟩ := h
      exact wp_ret ⟨rfl, hd, ρ, Step.refl r _, ht⟩
    | rangeFunc f ps as body => simp only [codeA, reduceCtorEq] at h
    | scope body => simp only [codeA, reduceCtorEq] at h
    | label l => simp only [codeA, reduceCtorEq] at h
    | goto l => simp only [codeA, reduceCtorEq] at h
    | refuse why => simp only [codeA, reduceCtorEq] at h
end
end Go.Proofs.Ytnoonoghemgbbaa.Sx
