import Derived.Test.YtnoonoghemgbbaaOr3
import Derived.LoopNIn
import Derived.OrdersIn
import Derived.RangeFuncLeaves
import Derived.RangeFuncRecord
import Derived.RangeFuncSeq
/-
  A symbolic evaluator over the model's code: part 13: regions, code and calls: what the evaluator says the model does.
-/
set_option linter.unusedVariables false
set_option linter.unusedSimpArgs false
namespace Go.Proofs.Ytnoonoghemgbbaa.Sx
open Go

theorem ok_app {p q : VC} : VC.ok (p ++ q) ↔ VC.ok p ∧ VC.ok q := by
  induction p with
  | nil => simp [VC.ok]
  | cons x p ih => simp [VC.ok, ih, and_assoc]

theorem intBin_easy {op : BinOp} {k : IntKind} {x y : Int} {p : Cd} {c : Cell} (h : intBin op k x y = some (p, c)) (h1 : op ≠ .quo) (h2 : op ≠ .rem) : p := by
  cases op <;> simp only [intBin, Option.some.injEq, Prod.mk.injEq, reduceCtorEq] at h <;> first
    | exact absurd rfl h1
    | exact absurd rfl h2
    | (rw [← h.1]; trivial)

theorem eqlNil_easy {op : BinOp} {b : Bool} {p : Cd} {c : Cell} (h : eqlNil op b = some (p, c)) : p := by
  cases op <;> simp only [eqlNil, Option.some.injEq, Prod.mk.injEq, reduceCtorEq] at h <;> (rw [← h.1]; trivial)

theorem binA_easy {P : Program} {op : BinOp} {ty : TypeId} {a b c : Cell} {p : Cd} (h : binA P op ty a b = some (p, c)) (h1 : op ≠ .quo) (h2 : op ≠ .rem) (h3 : op ≠ .shl) (h4 : op ≠ .shr) (h5 : op ≠ .add) : p := by
  unfold binA at h
  try simp only [nth_eq, setL_eq, und_eq, inf_eq] at h
  split at h
  · split at h
    · rename_i hs
      cases op <;> first
        | exact absurd rfl h3
        | exact absurd rfl h4
        | cases hs
    · split at h
      · exact intBin_easy h h1 h2
      · cases h
  · cases op <;> simp only [strBin, Option.some.injEq, Prod.mk.injEq, reduceCtorEq] at h <;> first
      | exact absurd rfl h5
      | (rw [← h.1]; trivial)
  · split at h
    · split at h
      · cases h; trivial
      · cases h; trivial
      · cases h
    · cases h
  all_goals first
    | (split at h
       · exact eqlNil_easy h
       · cases h)
    | cases h

theorem easy_ok {D : Type} {P : Program} {H : Heap D} {t : List AV} {dec d : Dec} {op : Op} {p : Cd} {v : AV} (h : pureA P H t dec op = some (p, v, d)) (hp : VC.ok (vcOf op p)) : p := by
  unfold vcOf at hp
  cases he : easy op with
  | false => rw [he] at hp; exact hp.1
  | true =>
    cases op <;> simp only [pureA, nth_eq, und_eq, inf_eq, reduceCtorEq] at h <;> try (cases he; done)
    case move x => split at h <;> first | (cases h; trivial) | cases h
    case assign x => split at h <;> first | (cases h; trivial) | cases h
    case binOp bop ty x y yt =>
      split at h
      · split at h
        · rename_i hb
          cases h
          refine binA_easy hb ?_ ?_ ?_ ?_ ?_ <;> (intro e; subst e; cases he)
        · cases h
      · cases h
    case unOp uop ty x =>
      split at h
      · split at h <;> first | (cases h; trivial) | cases h
      · cases h
    case convert s e x =>
      split at h
      · split at h <;> first | (cases h; trivial) | cases h
      · cases h
    case extract x i =>
      split at h
      · split at h <;> first | (cases h; trivial) | cases h
      · cases h
    case makeFunc fn first caps =>
      cases fn <;> simp only [pureA, nth_eq, und_eq, inf_eq, reduceCtorEq] at h
      split at h <;> first | (cases h; trivial) | cases h
    case field ty x f =>
      split at h
      · split at h
        · split at h <;> first | (cases h; trivial) | cases h
        · cases h
      · cases h
    case build ty ps => split at h <;> first | (cases h; trivial) | cases h
    case call c =>
      split at h
      · split at h
        · split at h
          · split at h <;> first | (cases h; trivial) | cases h
          · cases h
        · cases h
      · split at h
        · split at h <;> first | (cases h; trivial) | cases h
        · cases h
      · split at h
        · split at h <;> first | (cases h; trivial) | cases h
        · cases h
      · cases h

theorem easyM_ok {D : Type} {P : Program} {H H' : Heap D} {t : List AV} {dec d : Dec} {op : Op} {p : Cd} {v : AV} {l : Nat} (h : memA P H t dec op = some (p, v, H', l, d)) (hp : VC.ok (vcOfM op p)) : p := by
  unfold vcOfM at hp
  cases he : easyM op with
  | false => rw [he] at hp; exact hp.1
  | true =>
    cases op <;> simp only [memA, nth_eq, setL_eq, und_eq, inf_eq, reduceCtorEq] at h <;> try (cases he; done)
    case alloc e => split at h <;> first | (cases h; trivial) | cases h
    case box e x => split at h <;> first | (cases h; trivial) | cases h

section
variable {D : Type}

/-- Every activation; or a round of the loop r. -/
def Fr (r : Option Nat) : Fence := { fn := fun _ => True, depth := none, alive := false, round := r }

theorem callsFr {r : Option Nat} {n : Nat} {P : Program} {f : FuncId} {as : Array Value} {w : World} {R : Ending → World → Prop} (h : Calls P f as w R) : CallsIn (Fr r) n P f as w R := (callsIn_wide (n := n)).2 h

theorem rowsFr {r : Option Nat} {n : Nat} {P : Program} {row : String} {as : Array Value} {w : World} {R : Value → World → Prop} (h : Rows P row as w R) : RowsIn (Fr r) n P row as w R :=
  fun c cs _ => let ⟨v, w', hr, hs⟩ := h c cs; ⟨v, w', hr, stepsIn_wide.2 hs⟩

/-- What an operation does, it does within a round, too. -/
theorem wp_in {q : Option Nat} {P : Program} {o : Oper} {a : Act} {w : World} {K : Act → World → Prop} {Q : Exit → Act → World → Prop} (hnd : ∀ c, o.op ≠ .defer c) (h : o.wp P a w K Q) : o.wpIn (Fr q) 0 P a w K Q := by
  refine ⟨fun _ _ => trivial, ?_⟩
  rw [Oper.semAt_eq _ _ _ hnd]
  unfold Oper.wp at h
  generalize (execOp a.eval o).run P w = res at *
  cases res with
  | ok x w' =>
    cases x <;> simp only [Oper.upon, Oper.uponIn] at h ⊢ <;> first
      | exact h
      | exact ⟨fun h => Bool.noConfusion h, (callsFr h).mono fun e w'' he => by cases e <;> exact he⟩
      | exact ⟨fun h => Bool.noConfusion h, rowsFr h⟩
  | halt x w' => cases x <;> simp only [Oper.upon, Oper.uponIn] at h ⊢ <;> exact h

/-- The calls that are put off till the end: marks of loops over functions alone. -/
def DefOk (B : Nat) (w : World) (ds : List Deferred) : Prop :=
  B ≤ w.heap.size ∧ ∃ bs : List Nat, ds = bs.map (fun b => ({ target := .collected b, args := #[] } : Deferred)) ∧ bs.Nodup ∧ ∀ b ∈ bs, B ≤ b ∧ w.heap[b]? = some (.deferred (some []))

theorem DefOk.nil (w : World) : DefOk w.heap.size w [] := ⟨Nat.le_refl _, [], rfl, List.nodup_nil, fun b h => by cases h⟩

theorem not_own {ρ : Map} {H : Heap D} {w : World} (r : Rel ρ H w) {k s : Nat} {d : Option (List Deferred)} (h : w.heap[k]? = some (.deferred d)) : ¬ ownR ρ H s k := by
  have cell : ∀ {ρ : Map} {L : Loc} {c : Cont}, CellsAt ρ w L true c → ¬ L.foot k := by
    intro ρ L c hc hk
    obtain ⟨_, _, _, _, h5⟩ := hc
    obtain ⟨g1, _, cs, e, fr, g3, _⟩ := h5 rfl
    rw [(g1 k).1 hk, g3] at h
    cases h
  rintro ⟨id, b, F, idx, _, hb, ho, hl, hF, hk⟩
  have := r.at_ id b F idx hb hF
  cases b with
  | cells own num c =>
    have ho : own = true := ho
    subst ho
    exact cell (this hl) hk
  | obj o =>
    have hl0 : idx = 0 := hl
    subst hl0
    obtain ⟨h1, _, h3⟩ := this hl
    cases o with
    | map es => rw [(h1 k).1 hk] at h; obtain ⟨arr, clock, g1, _⟩ := h3; rw [g1] at h; cases h
    | iter s pos => rw [(h1 k).1 hk] at h; have h3 : w.heap[(F 0).blk]? = _ := h3; rw [h3] at h; cases h
    | loop st pend => rw [(h1 k).1 hk] at h; have h3 : w.heap[(F 0).blk]? = _ := h3; rw [h3] at h; cases h
    | ab d =>
      obtain ⟨V, ρc, F', _, hown, hs, _, _, h6⟩ := h3
      obtain ⟨i, G, hG, hf⟩ := (h6 k).1 hk
      have hi : i < V.length := by rw [← hs.len]; exact (List.getElem?_eq_some_iff.1 hG).1
      have ho : V[i].1 = true := hown V[i] (List.getElem_mem hi)
      exact cell (hs.at_ i true V[i].2 G (by rw [List.getElem?_eq_getElem hi, ← ho]) hG) hf

theorem DefOk.step {B : Nat} {ρ ρ' : Map} {H H' : Heap D} {w w' : World} {low : Nat} {ds : List Deferred} (h : DefOk B w ds) (r : Rel ρ H w) (hs : Step ρ H w low ρ' H' w') : DefOk B w' ds := by
  obtain ⟨h0, bs, h1, h2, h3⟩ := h
  refine ⟨Nat.le_trans h0 hs.ext.size, bs, h1, h2, fun b hb => ⟨(h3 b hb).1, ?_⟩⟩
  have := (h3 b hb).2
  rw [hs.ext.block b (Array.getElem?_eq_some_iff.1 this).1 (not_own r this)]
  exact this

/-- A function does what a summary says. -/
def Valid (P : Program) (f : FuncId) (s : Sum D) : Prop :=
  ∀ args H dec p v H' low d, s args H dec = some (p, v, H', low, d) → VC.ok p → ∀ ρ w (as : Array Value), Rel ρ H w → All2 (RV ρ) args as.toList →
    Calls P f as w fun e w' => ∃ r ρ', e = .returned r ∧ Step ρ H w low ρ' H' w' ∧ RV ρ' v r

/-- What the rest of a loop over a function is said to do, it does: of loops that ρ0 knows. -/
def YValid (ρ0 : Map) (P : Program) (s : Sum D) : Prop :=
  ∀ args H dec p v H' low d, s args H dec = some (p, v, H', low, d) → VC.ok p → ∀ ρ w (as : List Value), Goes ρ0 ρ → Rel ρ H w → All2 (RV ρ) args as →
    ∃ l o zs, as = .pointer (some ⟨l, o, none⟩) :: zs ∧ YieldAt (Fr none) 0 P l zs.toArray w fun e w' => ∃ r ρ', e = .returned r ∧ Step ρ H w low ρ' H' w' ∧ RV ρ' v r

theorem noY_valid (ρ0 : Map) (P : Program) : YValid ρ0 P (noY : Sum D) := fun _ _ _ _ _ _ _ _ h => by cases h

def Done (B : Nat) (ρ : Map) (H : Heap D) (w : World) (ex : Ex) (t : List AV) (H' : Heap D) (low : Nat) : Exit → Act → World → Prop :=
  fun e a' w' => e = ex.real ∧ DefOk B w' a'.defers ∧ ∃ ρ', Step ρ H w low ρ' H' w' ∧ TR ρ' t a'

theorem Done.notOut {B : Nat} {ρ : Map} {H H' : Heap D} {w : World} {ex : Ex} {t : List AV} {low : Nat} : ¬ LetsOut (Done B ρ H w ex t H' low) := by
  rintro ⟨a, w', h, _⟩
  cases ex <;> cases h

def LValid (P : Program) (body : Code) (s : LSum D) : Prop :=
  ∀ t H dec p ex t' H' low d, s t H dec = some (p, ex, t', H', low, d) → VC.ok p → ∃ m, ∀ (q : Option Nat) (B : Nat) ρ w a, Rel ρ H w → TR ρ t a → DefOk B w a.defers →
    Code.roundsIn (Fr q) 0 P body (Done B ρ H w ex t' H' low) m a w

def DValid (P : Program) (DR : Array Oper → List AV → Heap D → Dec → RR D) : Prop :=
  ∀ id ops t H dec p t' H' low d, DR ops t H dec = some (p, t', H', low, d) → VC.ok p → ∀ (q : Option Nat) (B : Nat) ρ w a, Rel ρ H w → TR ρ t a → DefOk B w a.defers →
    (Code.region id ops true).wpIn (Fr q) 0 P (Done B ρ H w .normal t' H' low) a w

theorem TR.put {ρ : Map} {t : List AV} {a : Act} (h : TR ρ t a) {dst : Option Tmp} {v : AV} {r : Value} (hv : RV ρ v r) : TR ρ (putA t dst v) (a.put dst r) := by
  cases dst with
  | none => exact h
  | some d =>
    show All2 (RV ρ) (setL t d v) (a.tmps.setIfInBounds d r).toList
    rw [Array.toList_setIfInBounds, setL_eq]
    exact All2.set h d hv

theorem TR.goes {ρ ρ' : Map} (g : Goes ρ ρ') {t : List AV} {a : Act} (h : TR ρ t a) : TR ρ' t a := All2.mono (fun _ _ => RV.goes g) h

theorem put_defers (a : Act) (dst : Option Tmp) (v : Value) : (a.put dst v).defers = a.defers := by cases dst <;> rfl

theorem undef_ok {ρ : Map} : RV ρ undefA undef := ⟨[], rfl, trivial⟩

theorem argsA_ok {ρ : Map} {t : List AV} {a : Act} (ht : TR ρ t a) : ∀ {l : List Operand} {m : List AV}, argsA t l = some m → All2 (RV ρ) m (l.map a.eval)
  | [], m, h => by simp [argsA] at h; subst h; trivial
  | x :: l, m, h => by
    unfold argsA at h
    split at h
    · rename_i c m' hc hm
      cases h
      exact ⟨opnd_ok ht hc, argsA_ok ht hm⟩
    · cases h

theorem capsA_ok {ρ : Map} : ∀ {l : List (Nat × Nat × Nat)} {vs : List Value}, All2 (RCap ρ) l vs → All2 (RV ρ) (capsA l) vs
  | [], [], _ => trivial
  | (_, _, _) :: l, v :: vs, ⟨⟨F, hF, e⟩, h2⟩ => ⟨.inr ⟨rfl, F, hF, e⟩, capsA_ok h2⟩
  | [], _ :: _, h => h.elim
  | _ :: _, [], h => h.elim

theorem entersA_ok {P : Program} {w : World} {f : FuncId} (h : entersA P f = true) (args : Array Value) : (callFunc f args).run P w = .ok (.enter f args) w := by
  unfold entersA at h
  try simp only [nth_eq, setL_eq, und_eq, inf_eq] at h
  split at h
  · rename_i fn hf
    rw [Array.getElem?_toList] at hf
    split at h
    · rename_i c hb
      have hn : (fn.name == "runtime.NumGoroutine") = false := by simpa using h
      simp only [callFunc, Sem.run_bind, run_program, Result.andThen_ok, hf, hn, Bool.false_eq_true, if_false, hb, Option.isNone_some]
      rfl
    · cases h
  · cases h

theorem goA_ok {P : Program} {E : FuncId → Sum D} (hE : ∀ f, Valid P f (E f)) {ρ : Map} {H H' : Heap D} {w : World} {t : List AV} {a : Act} (r : Rel ρ H w) (ht : TR ρ t a) {dec d : Dec} {o : Oper} {p : VC} {v : AV} {low : Nat}
    (h : goA P E t H dec o.op = some (p, v, H', low, d)) (hp : VC.ok p) (next : Act → World → Prop) (Q : Exit → Act → World → Prop)
    (hn : ∀ ρ' w' rv, Step ρ H w low ρ' H' w' → RV ρ' v rv → next (a.put o.dst rv) w') : o.wp P a w next Q := by
  obtain ⟨dst, op, type, pos, after, guard⟩ := o
  simp only at h hn
  cases op <;> simp only [goA, reduceCtorEq] at h
  rename_i c
  obtain ⟨callee, args, argTypes⟩ := c
  simp only at h
  split at h
  · rename_i f
    split at h
    · rename_i g caps hc
      split at h
      · rename_i as he ha
        obtain ⟨vs, e, hvs⟩ := cellOf_ok ht hc
        have hrun : (execOp a.eval ⟨dst, .call ⟨.value f, args, argTypes⟩, type, pos, after, guard⟩).run P w = .ok (.enter g ((args.map a.eval) ++ vs.toArray)) w := by
          simp only [execOp, resolve, e, Deferred.ofValue, Sem.run_bind, Sem.run_pure, Result.andThen_ok, invoke]
          rw [Array.empty_append]
          exact entersA_ok he _
        unfold Oper.wp
        rw [hrun]
        refine (hE g _ _ _ _ _ _ _ _ h hp ρ w _ r ?_).mono ?_
        · rw [Array.toList_append, Array.toList_map]
          exact (argsA_ok ht ha).app (capsA_ok hvs)
        · rintro e' w' ⟨rv, ρ', rfl, hs, hr⟩
          exact hn ρ' w' rv hs hr
      · cases h
    · cases h
  · cases h

theorem opD_ok {P : Program} {E : FuncId → Sum D} (hE : ∀ f, Valid P f (E f)) {ρ : Map} {H H' : Heap D} {w : World} {t : List AV} {a : Act} (r : Rel ρ H w) (ht : TR ρ t a) {dec d : Dec} {o : Oper} {p : VC} {v : AV} {low : Nat}
    (h : opD P E t H dec o.op = some (p, v, H', low, d)) (hp : VC.ok p) (next : Act → World → Prop) (Q : Exit → Act → World → Prop)
    (hn : ∀ ρ' w' rv, Step ρ H w low ρ' H' w' → RV ρ' v rv → next (a.put o.dst rv) w') : o.wp P a w next Q := by
  unfold opD at h
  split at h
  · rename_i q u d' hq
    simp only [Option.some.injEq, Prod.mk.injEq] at h
    obtain ⟨rfl, rfl, rfl, rfl, rfl⟩ := h
    obtain ⟨rv, hr, hv⟩ := pureA_ok r ht hq (easy_ok hq hp)
    unfold Oper.wp
    rw [hr]
    exact hn ρ w rv (Step.refl r _) hv
  · split at h
    · rename_i q u H1 l1 d1 hx
      simp only [Option.some.injEq, Prod.mk.injEq] at h
      obtain ⟨rfl, rfl, rfl, rfl, rfl⟩ := h
      obtain ⟨rv, ρ', w', hr, hs, hv⟩ := memA_ok r ht hx (easyM_ok hx hp)
      unfold Oper.wp
      rcases hr with hr | ⟨hr, rfl⟩
      · rw [hr]; exact hn ρ' w' rv hs hv
      · rw [hr]; exact hn ρ' w' undef hs hv
    · exact goA_ok hE r ht h hp next Q hn

theorem opD_notDefer {P : Program} {E : FuncId → Sum D} {t : List AV} {H : Heap D} {dec : Dec} {op : Op} {x : VC × AV × Heap D × Nat × Dec} (h : opD P E t H dec op = some x) (c : Call) : op ≠ .defer c := by
  intro e
  subst e
  simp [opD, pureA, memA, goA] at h

theorem opA_ok {q : Option Nat} {ρ0 : Map} {P : Program} {E : FuncId → Sum D} (hE : ∀ f, Valid P f (E f)) {Y : Sum D} (hY : YValid ρ0 P Y) {ρ : Map} {H H' : Heap D} {w : World} {t : List AV} {a : Act} (g0 : Goes ρ0 ρ) (r : Rel ρ H w) (ht : TR ρ t a) {dec d : Dec} {o : Oper} {p : VC} {v : AV} {low : Nat}
    (h : opA P E Y t H dec o.op = some (p, v, H', low, d)) (hp : VC.ok p) (next : Act → World → Prop) (Q : Exit → Act → World → Prop)
    (hn : ∀ ρ' w' rv, Step ρ H w low ρ' H' w' → RV ρ' v rv → next (a.put o.dst rv) w') : o.wpIn (Fr q) 0 P a w next Q := by
  unfold opA at h
  cases hx : opD P E t H dec o.op with
  | some x =>
    rw [hx] at h
    cases h
    exact wp_in (opD_notDefer hx) (opD_ok hE r ht hx hp next Q hn)
  | none =>
    rw [hx] at h
    clear hx
    obtain ⟨dst, op, type, pos, after, guard⟩ := o
    simp only at h hn
    cases op <;> simp only [yldA, reduceCtorEq] at h
    rename_i c
    obtain ⟨callee, args, argTypes⟩ := c
    simp only at h
    split at h
    · rename_i f
      split at h
      · rename_i id hc
        split at h
        · rename_i as ha
          obtain ⟨F, hF, e⟩ : ∃ F, ρ[id]? = some F ∧ a.eval f = .func (.yield (F 0).blk) #[] #[] := cellOf_ok ht hc
          obtain ⟨l, o', zs, e1, fn, tmps, assign, body, e2, hround⟩ := hY _ _ _ _ _ _ _ _ h hp ρ w (.pointer (some ⟨(F 0).blk, (F 0).sh + 0, none⟩) :: args.toList.map a.eval) g0 r ⟨.inr ⟨rfl, F, hF, rfl⟩, argsA_ok ht ha⟩
          simp only [List.cons.injEq, Value.pointer.injEq, Option.some.injEq, Addr.mk.injEq] at e1
          obtain ⟨⟨rfl, rfl, _⟩, rfl⟩ := e1
          have hz : (args.toList.map a.eval).toArray = args.map a.eval := by
            apply Array.ext'; simp
          rw [hz] at e2
          refine ⟨fun _ _ => trivial, ?_⟩
          rw [Oper.semAt_eq _ _ _ (fun c h => by cases h)]
          have hrun : (execOp a.eval ⟨dst, .call ⟨.value f, args, argTypes⟩, type, pos, after, guard⟩).run P w = .ok (.round (F 0).blk fn tmps assign body) w := by
            simp only [execOp, resolve, e, Deferred.ofValue, Sem.run_bind, Sem.run_pure, Result.andThen_ok, invoke]
            rw [Array.empty_append]
            exact e2
          rw [hrun]
          refine ⟨fun h => Bool.noConfusion h, RoundIn.mono (show RoundIn (Fr q) (0 - 1) P (F 0).blk fn tmps assign body w _ from hround) ?_⟩
          rintro e' w' ⟨rv, ρ', rfl, hs, hr⟩
          exact hn ρ' w' rv hs hr
        · cases h
      · cases h
    · cases h

theorem guardA_ok {ρ : Map} {ops : Array Oper} {t : List AV} {a : Act} (ht : TR ρ t a) {o : Oper} {dec d : Dec} {p : VC} {b : Bool} (h : guardA ops t o dec = some (p, b, d)) (hp : VC.ok p) :
    Region.wanted o (yielded ops a.tmps) = b := by
  unfold guardA at h
  try simp only [nth_eq, setL_eq, und_eq, inf_eq] at h
  unfold Region.wanted
  split at h
  · rename_i hg
    cases h
    rw [hg]
  · rename_i j want hg
    rw [hg]
    simp only
    split at h
    · rename_i oj hoj
      rw [Array.getElem?_toList] at hoj
      split at h
      · rename_i dd hd
        have hy : yielded ops a.tmps j = (match a.tmps[dd]? with | some (.bool b) => some b | _ => none) := by
          unfold yielded
          rw [hoj]
          simp [hd]
          rfl
        split at h
        · rename_i x ds htd
          obtain ⟨v, hv, hr⟩ := All2.get ht htd
          cases hr
          rw [Array.getElem?_toList] at hv
          rw [hy, hv]
          cases h
          simpa using hp.1
        · rename_i x n ds htd
          obtain ⟨v, hv, hr⟩ := All2.get ht htd
          cases hr
          rw [Array.getElem?_toList] at hv
          rw [hy, hv]
          cases h
          simpa using hp.1
        · rename_i htd
          obtain ⟨v, hv, vs, hr, _⟩ := All2.get ht htd
          rw [Array.getElem?_toList] at hv
          rw [hy, hv, hr]
          cases h
          rfl
        · cases h
      · cases h
    · cases h

theorem range_drop (n k : Nat) : (List.range n).drop k = (List.range (n - k)).map (k + ·) := by
  apply List.ext_getElem?
  intro i
  rw [List.getElem?_drop, List.getElem?_map]
  rcases Nat.lt_or_ge i (n - k) with h | h
  · rw [List.getElem?_range (by omega), List.getElem?_range h]; rfl
  · rw [List.getElem?_eq_none (by simp; omega), List.getElem?_eq_none (by simpa using h)]; rfl

theorem regionA_ok {q : Option Nat} {ρ0 : Map} {P : Program} {E : FuncId → Sum D} (hE : ∀ f, Valid P f (E f)) {Y : Sum D} (hY : YValid ρ0 P Y) {B : Nat} {ops : Array Oper} (Q : Exit → Act → World → Prop) : ∀ (l : List Oper) (k : Nat), l = ops.toList.drop k → ∀ {ρ : Map} {H H' : Heap D} {w : World} {t t' : List AV} {a : Act} {dec d : Dec} {p : VC} {low : Nat},
    Goes ρ0 ρ → Rel ρ H w → TR ρ t a → DefOk B w a.defers → regionA P E Y ops l t H dec = some (p, t', H', low, d) → VC.ok p →
    (∀ a' w', Done B ρ H w .normal t' H' low .normal a' w' → Q .normal a' w') → wpOpsIn (Fr q) 0 P ops Q ((List.range ops.size).drop k) a w
  | [], k, hl, ρ, H, H', w, t, t', a, dec, d, p, low, g0, r, ht, hd, h, hp, hQ => by
    simp only [regionA, Option.some.injEq, Prod.mk.injEq] at h
    obtain ⟨rfl, rfl, rfl, rfl, rfl⟩ := h
    have hk : ops.size ≤ k := by
      have := congrArg List.length hl
      simp at this; omega
    rw [List.drop_eq_nil_of_le (by simpa using hk)]
    exact hQ a w ⟨rfl, hd, ρ, Step.refl r _, ht⟩
  | o :: rest, k, hl, ρ, H, H', w, t, t', a, dec, d, p, low, g0, r, ht, hd, h, hp, hQ => by
    have hk : k < ops.size := by
      rcases Nat.lt_or_ge k ops.size with h | h
      · exact h
      · rw [List.drop_eq_nil_of_le (by simpa using h)] at hl; cases hl
    have hk' : k < ops.toList.length := by simpa using hk
    rw [List.drop_eq_getElem_cons hk'] at hl
    obtain ⟨ho1, ho2⟩ := List.cons_eq_cons.1 hl
    subst ho1
    have ho : ops[k]? = some ops.toList[k] := by simp [hk]
    have hkr : k < (List.range ops.size).length := by simpa using hk
    rw [List.drop_eq_getElem_cons hkr]
    simp only [List.getElem_range, wpOpsIn]
    rw [ho]
    simp only
    unfold regionA at h
    split at h
    · cases h
    · rename_i q1 d1 hg
      split at h
      · rename_i s rr hrest
        cases h
        have hp := ok_app.1 hp
        have hw := guardA_ok ht hg hp.1
        rw [hw]
        simp only [Bool.false_eq_true, if_false]
        exact ⟨fun _ _ => trivial, regionA_ok hE hY Q rest (k + 1) ho2 g0 r (ht.put undef_ok) (by rw [put_defers]; exact hd) hrest hp.2 hQ⟩
      · cases h
    · rename_i q1 d1 hg
      split at h
      · rename_i q2 v H1 l1 d2 hop
        split at h
        · rename_i s t1 H2 l2 d3 hrest
          simp only [Option.some.injEq, Prod.mk.injEq] at h
          obtain ⟨rfl, rfl, rfl, rfl, rfl⟩ := h
          have hp1 := ok_app.1 hp
          have hp := And.intro hp1.1 (ok_app.1 hp1.2)
          have hw := guardA_ok ht hg hp.1
          rw [hw]
          simp only [if_true]
          refine opA_ok hE hY g0 r ht hop hp.2.1 _ Q ?_
          intro ρ' w' rv hs hv
          refine regionA_ok hE hY Q rest (k + 1) ho2 (g0.trans hs.goes) hs.rel ((ht.goes hs.goes).put hv) (by rw [put_defers]; exact hd.step r hs) hrest hp.2.2 ?_
          rintro a' w'' ⟨_, hd', ρ'', hs', ht'⟩
          exact hQ a' w'' ⟨rfl, hd', ρ'', hs.trans r hs', ht'⟩
        · cases h
      · cases h

theorem Done.trans {B : Nat} {ρ ρ1 : Map} {H H1 H2 : Heap D} {w w1 : World} {l1 l2 : Nat} {ex : Ex} {t2 : List AV} (r : Rel ρ H w) (hs : Step ρ H w l1 ρ1 H1 w1) {e : Exit} {a : Act} {w2 : World}
    (h : Done B ρ1 H1 w1 ex t2 H2 l2 e a w2) : Done B ρ H w ex t2 H2 (min l1 l2) e a w2 := by
  obtain ⟨h1, h2, ρ2, h3, h4⟩ := h
  exact ⟨h1, h2, ρ2, hs.trans r h3, h4⟩

theorem rounds_mono {q : Option Nat} {P : Program} {c : Code} {Q Q' : Exit → Act → World → Prop} (hq : ∀ e a w, Q e a w → Q' e a w) : ∀ {m : Nat} {a : Act} {w : World}, Code.roundsIn (Fr q) 0 P c Q m a w → Code.roundsIn (Fr q) 0 P c Q' m a w
  | 0, _, _, h => h.elim
  | m + 1, _, _, h => wpIn_mono h fun e a w he => by
    cases e <;> first
      | exact rounds_mono hq he
      | exact hq _ _ _ he
end
end Go.Proofs.Ytnoonoghemgbbaa.Sx

/-
  A symbolic evaluator over the model's code: part 14: whole functions, and loops by an invariant.
-/
set_option linter.unusedVariables false
set_option linter.unusedSimpArgs false
namespace Go.Proofs.Ytnoonoghemgbbaa.Sx
open Go
noncomputable section

section
variable {D : Type}

theorem av1_ok {ρ : Map} {v : AV} {u : AV1} {r : Value} (h : av1 v = some u) (hv : RV ρ v r) : R1 ρ u r := by
  unfold av1 at h
  split at h
  · cases h; exact hv
  · cases h; exact hv
  · cases h

def resRun (P : Program) (tmps : Array Value) : ResultVar → Sem Value
  | .tmp t => pure (tmps.getD t undef)
  | .cell a t => do loadVar t (← asAddr (tmps.getD a undef))

theorem resA_ok {P : Program} {ρ : Map} {H : Heap D} {w : World} {t : List AV} {a : Act} (r : Rel ρ H w) (ht : TR ρ t a) : ∀ {rs : List ResultVar} {dec d : Dec} {p : VC} {vs : List AV1}, resA P H t rs dec = some (p, vs, d) → VC.ok p →
    ∃ us : List Value, (rs.mapM (resRun P a.tmps)).run P w = .ok us w ∧ All2 (R1 ρ) vs us
  | [], dec, d, p, vs, h, hp => by
    simp only [resA, Option.some.injEq, Prod.mk.injEq] at h
    obtain ⟨_, rfl, _⟩ := h
    exact ⟨[], by simp, trivial⟩
  | .tmp i :: rs, dec, d, p, vs, h, hp => by
    unfold resA at h
    try simp only [nth_eq, setL_eq, und_eq, inf_eq] at h
    split at h
    · rename_i v hv
      split at h
      · rename_i u q m d' hu hm
        simp only [Option.some.injEq, Prod.mk.injEq] at h
        obtain ⟨rfl, rfl, rfl⟩ := h
        obtain ⟨us, h1, h2⟩ := resA_ok r ht hm hp
        obtain ⟨b, hb, hr⟩ := All2.get ht hv
        have hg : a.tmps.getD i undef = b := by
          rw [Array.getD_eq_getD_getElem?, ← Array.getElem?_toList, hb]; rfl
        exact ⟨b :: us, by simp [List.mapM_cons, resRun, hg, h1], av1_ok hu hr, h2⟩
      · cases h
    · cases h
  | .cell i ty :: rs, dec, d, p, vs, h, hp => by
    unfold resA at h
    try simp only [nth_eq, setL_eq, und_eq, inf_eq] at h
    split at h
    · rename_i q v d1 hv
      split at h
      · rename_i u q2 m d' hu hm
        simp only [Option.some.injEq, Prod.mk.injEq] at h
        obtain ⟨rfl, rfl, rfl⟩ := h
        obtain ⟨us, h1, h2⟩ := resA_ok r ht hm hp.2
        have hp1 := hp.1
        simp only [pureA] at hv
        split at hv
        · rename_i nl id idx off ag n hx hag hsz
          split at hv
          · rename_i own live c hc
            split at hv
            · rename_i q3 cs d3 hg
              split at hv
              · rename_i u2 hu2
                simp only [Option.some.injEq, Prod.mk.injEq] at hv
                obtain ⟨rfl, rfl, rfl⟩ := hv
                obtain ⟨g0, g1, g2⟩ := hp1
                obtain ⟨num, cc, F, hb, rfl, hlt, hF, hwf, hat, _⟩ := contAt_ok r hc g1
                rcases cellOf_ok ht hx with ⟨h3, _⟩ | ⟨_, F', hF', e⟩
                · rw [g0] at h3; cases h3
                · rw [hF] at hF'
                  cases hF'
                  obtain ⟨y, hy, hr⟩ := loadVar_ok (P := P) hat hag hsz hg g2 hu2
                  have e' : a.tmps.getD i undef = .pointer (some ⟨(F idx).blk, (F idx).sh + off, none⟩) := e
                  exact ⟨y :: us, by simp [List.mapM_cons, resRun, e', asAddr, hy, h1], av1_ok hu hr, h2⟩
              · cases hv
            · cases hv
          · cases hv
        · cases hv
      · cases h
    · cases h

theorem tupA_ok {ρ : Map} {vs : List AV1} {us : List Value} (h : All2 (R1 ρ) vs us) : RV ρ (tupA vs) (if h : us.toArray.size = 1 then us.toArray[0] else .tuple us.toArray) := by
  match vs, us, h with
  | [], [], _ => exact ⟨[], rfl, trivial⟩
  | [v], [u], h =>
    simp only [tupA]
    have h1 : R1 ρ v u := h.1
    cases v <;> exact h1
  | v :: v' :: vs, u :: u' :: us, h => exact ⟨u :: u' :: us, rfl, h⟩
  | [], _ :: _, h => exact h.elim
  | _ :: _, [], h => exact h.elim
  | [_], _ :: _ :: _, h => exact h.2.elim
  | _ :: _ :: _, [_], h => exact h.2.elim

theorem results_ok {P : Program} {ρ : Map} {H : Heap D} {w : World} {t : List AV} {a : Act} (r : Rel ρ H w) (ht : TR ρ t a) {fn : Func} {dec d : Dec} {p : VC} {vs : List AV1} (h : resA P H t fn.results.toList dec = some (p, vs, d)) (hp : VC.ok p) :
    ∃ us : List Value, (results fn a.tmps).run P w = .ok (if h : us.toArray.size = 1 then us.toArray[0] else .tuple us.toArray) w ∧ All2 (R1 ρ) vs us := by
  obtain ⟨us, h1, h2⟩ := resA_ok (P := P) r ht h hp
  refine ⟨us, ?_, h2⟩
  have e1 : (fn.results.mapM (resRun P a.tmps)).run P w = .ok us.toArray w := by
    rw [Array.mapM_eq_mapM_toList, Sem.run_map, h1]; rfl
  have e2 : results fn a.tmps = (do let vs ← fn.results.mapM (resRun P a.tmps); pure (if h : vs.size = 1 then vs[0] else .tuple vs)) := by
    unfold results
    congr 1
  rw [e2]
  simp only [Sem.run_bind, e1, Result.andThen_ok, Sem.run_pure]

/-! ### Objects that are turned -/

theorem Step.putOb {ρ : Map} {H : Heap D} {w : World} (r : Rel ρ H w) {id : Nat} {o o' : Ob} {F : Nat → Loc} (hb : H[id]? = some (some (.obj o))) (hF : ρ[id]? = some F) (hfo : ∀ L, FootOk L o → ∀ k, L.foot k ↔ k = L.blk) (x : Obj)
    (hfo' : ∀ L, FootOk L o → FootOk L o') (ho : ObAt ρ (w.putObj (F 0).blk x) F o') : Step ρ H w id ρ (H.set id (some (.obj o'))) (w.putObj (F 0).blk x) := by
  obtain ⟨h1, h2, h3⟩ := r.at_ id _ F 0 hb hF rfl
  refine Step.put (b := .obj o) (b' := .obj o') r hb hF rfl rfl (fun _ => Iff.rfl) 0 rfl rfl rfl rfl (by simp [World.putObj]) ?_ ?_ ?_
  · intro k hk hn
    exact World.putObj_heap_other fun e => hn ((hfo _ h1 k).2 e)
  · intro _
    exact ⟨hfo' _ h1, fun k hk => by simpa [World.putObj] using h2 k hk, ho⟩
  · intro i hne _ hi
    exact absurd hi hne

theorem CellsAt.other {ρ : Map} {w w' : World} {L : Loc} {own : Bool} {c : Cont} (h : CellsAt ρ w L own c) (hs : w'.heap.size = w.heap.size) (hk : ∀ (k : Nat) cs e fr, w.heap[k]? = some (.cells cs e fr) → w'.heap[k]? = some (.cells cs e fr)) : CellsAt ρ w' L own c := by
  obtain ⟨h0, h1, h2, h3, h4⟩ := h
  refine ⟨h0, h1, fun k hf => by rw [hs]; exact h2 k hf, ?_, fun ho => ?_⟩
  · intro j y hy
    obtain ⟨v, hv, hr⟩ := h3 j y hy
    refine ⟨v, ?_, hr⟩
    unfold World.cell? at hv ⊢
    simp only at hv ⊢
    cases hh : w.heap[L.blk]? with
    | none => rw [hh] at hv; cases hv
    | some o =>
      rw [hh] at hv
      cases o with
      | cells c e fr => rw [hk _ _ _ _ hh]; exact hv
      | _ => cases hv
  · obtain ⟨g1, g2, cs, e, fr, g3, g4⟩ := h4 ho
    exact ⟨g1, g2, cs, e, fr, hk _ _ _ _ g3, g4⟩

theorem Rel.shut {ρ : Map} {H : Heap D} {w : World} (r : Rel ρ H w) {b : Nat} {d : Option (List Deferred)} (hb : w.heap[b]? = some (.deferred d)) (x : Option (List Deferred)) : Rel ρ H (w.putObj b (.deferred x)) := by
  refine ⟨r.len, ?_, r.apart⟩
  intro id bl F idx hbl hF
  have h := r.at_ id bl F idx hbl hF
  have hsz : (w.putObj b (.deferred x)).heap.size = w.heap.size := by simp [World.putObj]
  have other : ∀ {k : Nat} {o : Obj}, w.heap[k]? = some o → (∀ d, o ≠ .deferred d) → (w.putObj b (.deferred x)).heap[k]? = some o := by
    intro k o hk hne
    rw [World.putObj_heap_other fun e => ?_]
    · exact hk
    · subst e
      rw [hb] at hk
      cases hk
      exact hne _ rfl
  have cells : ∀ (k : Nat) cs e fr, w.heap[k]? = some (.cells cs e fr) → (w.putObj b (.deferred x)).heap[k]? = some (.cells cs e fr) := fun k cs e fr hk => other hk (fun d h => by cases h)
  cases bl with
  | cells own num c => exact fun hi => CellsAt.other (h hi) hsz cells
  | obj o =>
    intro hi
    obtain ⟨h1, h2, h3⟩ := h hi
    refine ⟨h1, fun k hk => by rw [hsz]; exact h2 k hk, ?_⟩
    cases o with
    | map es =>
      obtain ⟨arr, clock, g1, g2⟩ := h3
      exact ⟨arr, clock, other g1 (fun d h => by cases h), g2⟩
    | iter s pos => exact other h3 (fun d h => by cases h)
    | loop st pend => exact other h3 (fun d h => by cases h)
    | ab d =>
      obtain ⟨V, ρc, F', g1, g2, g3, g4⟩ := h3
      exact ⟨V, ρc, F', g1, g2, ⟨g3.len, fun i own c F hc hF => (g3.at_ i own c F hc hF).other hsz cells, g3.apart⟩, g4⟩

theorem Step.shut {ρ ρ' : Map} {H H' : Heap D} {w w' : World} {low b : Nat} (h : Step ρ H w low ρ' H' w') {d : Option (List Deferred)} (hb : w'.heap[b]? = some (.deferred d)) (hle : w.heap.size ≤ b) (x : Option (List Deferred)) :
    Step ρ H w low ρ' H' (w'.putObj b (.deferred x)) := by
  refine ⟨h.goes, h.rel.shut hb x, ⟨h.ext.os, h.ext.tape, h.ext.output, by simpa [World.putObj] using h.ext.size, fun k hk hn => ?_⟩, h.each, h.old, h.mine⟩
  rw [World.putObj_heap_other (by omega)]
  exact h.ext.block k hk hn

/-- A frame on its way out takes up the marks that it has left. -/
theorem leaves_of {q : Option Nat} {P : Program} {fn : Func} {tmps : Array Value} {R : Ending → World → Prop} {B : Nat} {ρ ρ' : Map} {H H' : Heap D} {w : World} {low : Nat} (hB : w.heap.size ≤ B)
    (hfin : ∀ w'', Step ρ H w low ρ' H' w'' → ∃ v, (results fn tmps).run P w'' = .ok v w'' ∧ R (.returned v) w'') : ∀ {bs : List Nat} {w' : World}, Step ρ H w low ρ' H' w' → bs.Nodup → (∀ b ∈ bs, B ≤ b ∧ w'.heap[b]? = some (.deferred (some []))) →
    LeavesInM (Fr q) 0 P fn tmps R (bs.map fun b => ({ target := .collected b, args := #[] } : Deferred)) .returning w'
  | [], w', hs, _, _ => hfin w' hs
  | b :: bs, w', hs, hn, hb => by
    obtain ⟨h1, h2⟩ := hb b List.mem_cons_self
    rw [List.nodup_cons] at hn
    refine ⟨by simp, .inl ⟨b, _, rfl, run_takeDeferred h2, leaves_of hB hfin (hs.shut h2 (by omega) _) hn.2 fun c hc => ⟨(hb c (List.mem_cons_of_mem _ hc)).1, ?_⟩⟩⟩
    have hne : c ≠ b := fun e => hn.1 (by rw [← e]; exact hc)
    rw [World.putObj_heap_other hne]
    exact (hb c (List.mem_cons_of_mem _ hc)).2

/-- A function's contract from what its body does. -/
theorem calls_of_done {P : Program} {f : FuncId} {fn : Func} {c : Code} {as : Array Value} {R : Ending → World → Prop} {ρ : Map} {H H' : Heap D} {w : World} {ex : Ex} {t' : List AV} {low : Nat} (hf : P.funcs[f]? = some fn) (hb : fn.body = some c) (hex : ∀ id, ex ≠ .exit id)
    (h : c.wpIn (Fr none) 0 P (Done w.heap.size ρ H w ex t' H' low) { tmps := as ++ Array.replicate (fn.ntmps - as.size) undef, defers := [] } w)
    (hR : ∀ ρ' w' a', Step ρ H w low ρ' H' w' → TR ρ' t' a' → ∃ v, (results fn a'.tmps).run P w' = .ok v w' ∧ R (.returned v) w') : CallsIn (Fr none) 0 P f as w R := by
  refine callsIn_of_wp_marks hf hb trivial (wpIn_mono h ?_)
  rintro e a' w' ⟨rfl, ⟨_, bs, hd, hn, hbs⟩, ρ', hs, ht'⟩
  have key : LeavesInM (Fr none) 0 P fn a'.tmps R a'.defers .returning w' := by
    rw [hd]
    exact leaves_of (Nat.le_refl _) (fun w'' hs' => hR ρ' w'' a' hs' ht') hs hn hbs
  cases ex with
  | exit id => exact absurd rfl (hex id)
  | normal => exact key
  | ret => exact key

/-! ### Code -/

/-- What is shown of code: of a loop how many rounds it takes. -/
def RunsAt (P : Program) (top : Bool) (ρ0 : Map) (c : Code) (t : List AV) (H : Heap D) (ex : Ex) (t' : List AV) (H' : Heap D) (low : Nat) : Prop :=
  match c with
  | .loop body => ∃ m, ∀ (q : Option Nat) (B : Nat) ρ w a, (top = true → q = none) → Goes ρ0 ρ → Rel ρ H w → TR ρ t a → DefOk B w a.defers → Code.roundsIn (Fr q) 0 P body (Done B ρ H w ex t' H' low) m a w
  | c => ∀ (q : Option Nat) (B : Nat) ρ w a, (top = true → q = none) → Goes ρ0 ρ → Rel ρ H w → TR ρ t a → DefOk B w a.defers → c.wpIn (Fr q) 0 P (Done B ρ H w ex t' H' low) a w

theorem RunsAt.wp {P : Program} {top : Bool} {ρ0 : Map} {c : Code} {t : List AV} {H : Heap D} {ex : Ex} {t' : List AV} {H' : Heap D} {low : Nat} (h : RunsAt P top ρ0 c t H ex t' H' low) {q : Option Nat} {B : Nat} {ρ : Map} {w : World} {a : Act} (hq : top = true → q = none)
    (g0 : Goes ρ0 ρ) (r : Rel ρ H w) (ht : TR ρ t a) (hd : DefOk B w a.defers) : c.wpIn (Fr q) 0 P (Done B ρ H w ex t' H' low) a w := by
  cases c with
  | loop body => obtain ⟨m, hm⟩ := h; exact wpIn_loop_rounds m (hm q B ρ w a hq g0 r ht hd)
  | _ => exact h q B ρ w a hq g0 r ht hd

/-- Runs of code are what they say. -/
def RunOk (P : Program) (run : Bool → LS D → Sum D → Code → LSum D) : Prop :=
  ∀ top (L : LS D) (Y : Sum D) ρ0 c {H H' : Heap D} {t t' : List AV} {dec d : Dec} {p : VC} {low : Nat} {ex : Ex}, (∀ k b s, L k = some (b, s) → LValid P b s) → YValid ρ0 P Y →
    run top L Y c t H dec = some (p, ex, t', H', low, d) → VC.ok p → RunsAt P top ρ0 c t H ex t' H' low

theorem setPs_ok {ρ : Map} : ∀ {ps : List Tmp} {vs : List AV} {zs : List Value} {t : List AV} {tmps : Array Value}, All2 (RV ρ) t tmps.toList → All2 (RV ρ) vs zs → 
    All2 (RV ρ) (setPs t ps vs) (((ps.zip zs).foldl (fun t (x : Tmp × Value) => t.setIfInBounds x.1 x.2) tmps).toList)
  | [], vs, zs, t, tmps, ht, _ => by cases vs <;> simpa [setPs] using ht
  | p :: ps, [], [], t, tmps, ht, _ => by simpa [setPs] using ht
  | p :: ps, v :: vs, z :: zs, t, tmps, ht, h => by
    simp only [setPs, List.zip_cons_cons, List.foldl_cons]
    refine setPs_ok ?_ h.2
    rw [Array.toList_setIfInBounds, setL_eq]
    exact All2.set ht p h.1
  | _ :: _, [], _ :: _, _, _, _, h => h.elim
  | _ :: _, _ :: _, [], _, _, _, h => h.elim

theorem isReady_ok {H : Heap D} {lid : Nat} (h : isReady H lid = true) : H[lid]? = some (some (.obj (.loop .ready none))) := by
  unfold isReady at h
  rw [nth_eq] at h
  split at h
  · assumption
  · cases h

theorem isBusy_ok {H : Heap D} {lid : Nat} (h : isBusy H lid = true) : H[lid]? = some (some (.obj (.loop .busy none))) := by
  unfold isBusy at h
  rw [nth_eq] at h
  split at h
  · assumption
  · cases h

theorem loop_at {ρ : Map} {H : Heap D} {w : World} (r : Rel ρ H w) {lid : Nat} {st : LoopState} {pend : Option Code} (h : H[lid]? = some (some (.obj (.loop st pend)))) {F : Nat → Loc} (hF : ρ[lid]? = some F) :
    w.heap[(F 0).blk]? = some (.loop { (F 0).aux with state := st, pending := pend }) := (r.at_ lid _ F 0 h hF rfl).2.2

theorem loop_lt {ρ : Map} {H : Heap D} {w : World} (r : Rel ρ H w) {lid : Nat} {st : LoopState} {pend : Option Code} (h : H[lid]? = some (some (.obj (.loop st pend)))) {F : Nat → Loc} (hF : ρ[lid]? = some F) : (F 0).blk < w.heap.size := by
  obtain ⟨h1, h2, _⟩ := r.at_ lid _ F 0 h hF rfl
  exact h2 _ ((h1 _).2 rfl)

theorem Goes.at_ {ρ ρ' : Map} {F1 : Nat → Loc} (g : Goes (ρ ++ [F1]) ρ') : ∃ F, ρ'[ρ.length]? = some F ∧ Lo F1 F := g _ _ (by simp)
theorem Goes.fst {ρ ρ' : Map} {F1 : Nat → Loc} (g : Goes (ρ ++ [F1]) ρ') : Goes ρ ρ' := (Goes.app ρ [F1]).trans g

theorem roundA_ok {P : Program} {run : Bool → LS D → Sum D → Code → LSum D} (hrun : RunOk P run) {L : LS D} (hL : ∀ k b s, L k = some (b, s) → LValid P b s) {Y : Sum D} {ρ0 : Map} (hY : YValid ρ0 P Y) {ρ : Map} (g0 : Goes ρ0 ρ)
    {t : List AV} {rec : Loop} (ht : All2 (RV ρ) t rec.tmps.toList) (hst : rec.state = .ready) (hpe : rec.pending = none) {F1 : Nat → Loc} (haux : (F1 0).aux = rec) :
    YValid (ρ ++ [F1]) P (roundA run L Y t ρ.length rec.params.toList rec.assign rec.body) := by
  intro args H2 dec p v H' low d h hp ρ2 w2 as g r2 hargs
  unfold roundA at h
  split at h
  · rename_i id vs
    split at h
    · rename_i hb
      simp only [Bool.and_eq_true] at hb
      obtain ⟨hid, hlen, hrd⟩ := hb
      have hid := Nat.eq_of_beq_eq_true hid
      have hlen := Nat.eq_of_beq_eq_true hlen
      subst hid
      split at h
      · rename_i p1 t2 H3 l2 d2 hass
        split at h
        · rename_i hrd2
          split at h
          · rename_i q ex t3 H4 l4 d4 hbody
            split at h
            · rename_i hbz
              simp only [Option.some.injEq, Prod.mk.injEq] at h
              obtain ⟨rfl, rfl, rfl, rfl, rfl⟩ := h
              have hp := ok_app.1 hp
              obtain ⟨F, hF, hlo⟩ := g.at_
              match as, hargs with
              | v0 :: zs, hargs =>
                obtain ⟨hv0, hzs⟩ := hargs
                rcases hv0 with ⟨h, _⟩ | ⟨_, F', hF', rfl⟩
                · cases h
                rw [hF] at hF'
                cases hF'
                have haux2 : (F 0).aux = rec := (hlo 0).2.2.2.trans haux
                have hl2 := loop_at r2 (isReady_ok hrd) hF
                have hrec : ({ rec with state := .ready, pending := none } : Loop) = rec := by rw [← hst, ← hpe]
                rw [haux2, hrec] at hl2
                have hsz : zs.toArray.size = rec.params.size := by
                  have := hzs.length
                  simp only [Array.length_toList] at hlen
                  simp only [List.size_toArray]
                  omega
                refine ⟨_, _, zs, rfl, rec.fn, _, rec.assign, rec.body, run_yield hl2 hsz, roundIn_of_wpIn (F := Fr none) trivial ?_⟩
                have htm : TR ρ2 (setPs t rec.params.toList vs) { tmps := (rec.params.zip zs.toArray).foldl (fun tmps (t, a) => tmps.setIfInBounds t a) rec.tmps, defers := [] } := by
                  have h1 := setPs_ok (ps := rec.params.toList) (ht.mono fun _ _ => RV.goes g.fst) hzs
                  show All2 (RV ρ2) _ _
                  rw [← Array.foldl_toList, Array.toList_zip]
                  exact h1
                refine wpIn_mono ((hrun false L Y ρ0 rec.assign hL hY hass hp.1).wp (q := some (F 0).blk) (B := w2.heap.size) (fun h => by cases h) (g0.trans g.fst) r2 htm (DefOk.nil w2)) ?_
                rintro e a1 w3 ⟨rfl, hd3, ρ3, hs3, ht3⟩
                obtain ⟨F3, hF3, hlo3⟩ := hs3.goes _ _ hF
                have hl3 := loop_at hs3.rel (isReady_ok hrd2) hF3
                rw [(hlo3 0).2.2.2, haux2, hrec, (hlo3 0).1] at hl3
                refine ⟨_, run_beginRound hl3 hst, ?_⟩
                have hsB : Step ρ3 H3 w3 ρ.length ρ3 (H3.set ρ.length (some (.obj (.loop .busy none)))) (w3.putObj (F 0).blk (.loop { rec with state := .busy })) := by
                  have := Step.putOb (o' := .loop .busy none) hs3.rel (isReady_ok hrd2) hF3 (fun _ h => h) (.loop { rec with state := .busy }) (fun _ h => h) (by
                    show (World.putObj _ _ _).heap[_]? = _
                    rw [World.putObj_heap_same (loop_lt hs3.rel (isReady_ok hrd2) hF3), (hlo3 0).2.2.2, haux2]
                    congr 2
                    rw [← hpe])
                  rw [(hlo3 0).1] at this
                  exact this
                rw [setL_eq] at hbody
                refine wpIn_mono ((hrun false L Y ρ0 rec.body hL hY hbody hp.2).wp (q := some (F 0).blk) (B := w2.heap.size) (fun h => by cases h) ((g0.trans g.fst).trans (hs3.goes.trans hsB.goes)) hsB.rel (ht3.goes hsB.goes) (hd3.step hs3.rel hsB)) ?_
                rintro e a4 w4 ⟨rfl, _, ρ4, hs4, _⟩
                obtain ⟨F4, hF4, hlo4⟩ := (hs3.goes.trans (hsB.goes.trans hs4.goes)) _ _ hF
                have hl4 := loop_at hs4.rel (isBusy_ok hbz) hF4
                rw [(hlo4 0).2.2.2, haux2, (hlo4 0).1] at hl4
                have hstep : ∀ (st : LoopState) (jump : Option Code), Step ρ2 H2 w2 (min (min l2 l4) ρ.length) ρ4 (H4.set ρ.length (some (.obj (.loop st jump)))) (w4.putObj (F 0).blk (.loop { rec with state := st, pending := jump })) := by
                  intro st jump
                  have h5 := Step.putOb (o' := .loop st jump) hs4.rel (isBusy_ok hbz) hF4 (fun _ h => h) (.loop { rec with state := st, pending := jump }) (fun _ h => h) (by
                    show (World.putObj _ _ _).heap[_]? = _
                    rw [World.putObj_heap_same (loop_lt hs4.rel (isBusy_ok hbz) hF4), (hlo4 0).2.2.2, haux2])
                  rw [(hlo4 0).1] at h5
                  exact (Step.trans r2 hs3 (Step.trans hs3.rel hsB (Step.trans hsB.rel hs4 h5))).mono (by omega)
                rw [setL_eq]
                cases ex with
                | normal => exact ⟨_, _, run_endRound none hl4, _, ρ4, rfl, by simpa [endOf] using hstep .ready none, rfl⟩
                | ret => exact ⟨_, _, run_endRound (some .ret) hl4, _, ρ4, rfl, by simpa [endOf] using hstep .done (some .ret), rfl⟩
                | exit id => exact ⟨_, _, run_endRound (some (.exit id)) hl4, _, ρ4, rfl, by simpa [endOf] using hstep .done (some (.exit id)), rfl⟩
            · cases h
          · cases h
        · cases h
      · cases h
    · cases h
  · cases h

theorem rangeA_ok {P : Program} {run : Bool → LS D → Sum D → Code → LSum D} (hrun : RunOk P run) {L : LS D} (hL : ∀ k b s, L k = some (b, s) → LValid P b s) {Y : Sum D} {ρ0 : Map} (hY : YValid ρ0 P Y)
    {g : Operand} {ps : Array Tmp} {assign body : Code} {t t' : List AV} {H H' : Heap D} {dec d : Dec} {p : VC} {ex : Ex} {low : Nat} (h : rangeA P run L Y g ps.toList assign body t H dec = some (p, ex, t', H', low, d)) (hp : VC.ok p)
    {B : Nat} {ρ : Map} {w : World} {a : Act} (g0 : Goes ρ0 ρ) (r : Rel ρ H w) (ht : TR ρ t a) (hd : DefOk B w a.defers) : (Code.rangeFunc g ps assign body).wpIn (Fr none) 0 P (Done B ρ H w ex t' H' low) a w := by
  unfold rangeA at h
  try simp only [nth_eq] at h
  split at h
  · rename_i gf caps hc
    split at h
    · rename_i fn hfn
      rw [Array.getElem?_toList] at hfn
      split at h
      · rename_i c hb he
        split at h
        · cases h
        · rename_i p1 ex1 t1 H1 l1 d1 hne hcode
          split at h
          · rename_i p2 us0 d2 ex2 hres hleft
            simp only [Option.some.injEq, Prod.mk.injEq] at h
            obtain ⟨rfl, rfl, rfl, rfl, rfl, rfl⟩ := h
            have hp := ok_app.1 hp
            obtain ⟨vs, e, hvs⟩ := cellOf_ok ht hc
            refine wpIn_rangeFunc fun fnId _ => ?_
            obtain ⟨rec, hrec⟩ : ∃ rec : Loop, rec = { state := .ready, pending := none, fn := fnId, tmps := a.tmps, params := ps, assign, body, defers := w.heap.size } := ⟨_, rfl⟩
            obtain ⟨W1, hW1⟩ : ∃ W1, (w.alloc (.deferred (some []))).alloc (.loop rec) = W1 := ⟨_, rfl⟩
            have hsz1 : W1.heap.size = w.heap.size + 2 := by rw [← hW1]; simp
            have hL1 : W1.heap[w.heap.size + 1]? = some (.loop rec) := by
              rw [← hW1]; have := World.alloc_heap_new (w.alloc (.deferred (some []))) (.loop rec); rwa [World.size_alloc] at this
            have hold : ∀ k, k < w.heap.size + 1 → W1.heap[k]? = (w.alloc (.deferred (some []))).heap[k]? := fun k hk => by
              rw [← hW1]; exact heap_alloc_old _ _ (by rw [World.size_alloc]; exact hk)
            have hD1 : W1.heap[w.heap.size]? = some (.deferred (some [])) := (hold _ (by omega)).trans (World.alloc_heap_new w _)
            have hsame : ∀ k, k < w.heap.size → W1.heap[k]? = w.heap[k]? := fun k hk => (hold k (by omega)).trans (heap_alloc_old w _ hk)
            obtain ⟨F1, hF1⟩ : ∃ F1 : Nat → Loc, F1 = fun _ => ⟨w.heap.size + 1, 0, 0, fun k => k = w.heap.size + 1, rec⟩ := ⟨_, rfl⟩
            have hpush : Step ρ H w H.length (ρ ++ [F1]) (H ++ [some (.obj (.loop .ready none))]) W1 := by
              refine Step.push r _ F1 rfl (by rw [← hW1]; rfl) (by rw [← hW1]; rfl) (by rw [← hW1]; rfl) (by omega) hsame ?_ ?_ ?_
              · intro i hi
                rw [hF1]
                refine ⟨fun k => Iff.rfl, fun k hk => by have : k = w.heap.size + 1 := hk; omega, ?_⟩
                show W1.heap[_]? = _
                simp only
                rw [hL1, hrec]
              · intro i k _ hk
                rw [hF1] at hk
                have : k = w.heap.size + 1 := hk
                omega
              · intro i j k hi hj hij
                have hi : i = 0 := hi
                have hj : j = 0 := hj
                omega
            have hlen : caps.length = vs.length := hvs.length
            have hY1 : YValid (ρ ++ [F1]) P (roundA run L Y t H.length ps.toList assign body) := by
              have := roundA_ok (rec := rec) (F1 := F1) hrun hL hY g0 (by rw [hrec]; exact ht) (by rw [hrec]) (by rw [hrec]) (by rw [hF1])
              rw [r.len, hrec] at this
              exact this
            refine ⟨w.heap.size + 1, [{ target := .collected w.heap.size, args := #[] }], W1, { target := .fn (.func gf) vs.toArray, args := #[.func (.yield (w.heap.size + 1)) #[] #[]] }, W1, gf,
              #[.func (.yield (w.heap.size + 1)) #[] #[]] ++ vs.toArray, W1, ?_, ?_, fun _ _ => trivial, ?_, fun h => Bool.noConfusion h, ?_⟩
            · rw [← hW1, hrec]; exact run_enterLoop_outer _ _ _ _ _
            · simp only [resolve, rangeCall, e, Deferred.ofValue]
              simp only [Sem.run_pure, List.map_toArray, List.map_cons, List.map_nil, Act.eval, Array.empty_append]
            · exact entersA_ok he _
            · refine calls_of_done (ρ := ρ ++ [F1]) (H := H ++ [some (.obj (.loop .ready none))]) (ex := ex1) (t' := t1) (H' := H1) (low := l1) hfn hb (fun id hid => hne id hid) ?_ ?_
              · refine (hrun true noL _ (ρ ++ [F1]) c (fun k b s h => by cases h) hY1 hcode hp.1).wp (fun _ => rfl) (Goes.refl _) hpush.rel ?_ (DefOk.nil W1)
                show All2 _ _ ((#[Value.func (.yield (w.heap.size + 1)) #[] #[]] ++ vs.toArray) ++ Array.replicate (fn.ntmps - (#[Value.func (.yield (w.heap.size + 1)) #[] #[]] ++ vs.toArray).size) undef).toList
                have hs : (#[Value.func (.yield (w.heap.size + 1)) #[] #[]] ++ vs.toArray).size = caps.length + 1 := by simp [hlen]
                rw [hs]
                simp only [Array.toList_append, Array.toList_replicate]
                refine All2.app (show All2 _ (_ :: _) ([_] ++ vs) from ⟨?_, ?_⟩) (All2.replicate undef_ok _)
                · refine ⟨F1, ?_, by rw [hF1]⟩
                  rw [← r.len]; simp
                · exact (capsA_ok hvs).mono fun _ _ => RV.goes (Goes.app ρ [F1])
              · intro ρ' w' a' hs ht'
                obtain ⟨us, hus, _⟩ := results_ok hs.rel ht' hres hp.2
                refine ⟨_, hus, ?_⟩
                obtain ⟨F, hF, hlo⟩ := hs.goes.at_
                rw [r.len] at hF
                have hblk : (F 0).blk = w.heap.size + 1 := by rw [(hlo 0).1, hF1]
                have haux : (F 0).aux = rec := by rw [(hlo 0).2.2.2, hF1]
                have fin : ∀ (st : LoopState) (pend : Option Code), H1[H.length]? = some (some (.obj (.loop st pend))) → st ≠ .busy → ∃ w4 ρ4, (Instr.endLoop (w.heap.size + 1)).run P w' = .ok pend w4 ∧
                    Step ρ H w (min l1 H.length) ρ4 (setL H1 H.length none) w4 ∧ DefOk B w4 ({ target := .collected w.heap.size, args := #[] } :: a.defers) := by
                  intro st pend hl hst
                  have hl1 := loop_at hs.rel hl hF
                  rw [haux, hblk] at hl1
                  have h2 := Step.putOb (o' := .loop .exhausted pend) hs.rel hl hF (fun _ h => h) (.loop { rec with state := .exhausted, pending := pend }) (fun _ h => h) (by
                    show (World.putObj _ _ _).heap[_]? = _
                    rw [World.putObj_heap_same (loop_lt hs.rel hl hF), haux])
                  rw [hblk] at h2
                  have h3 := Step.kill h2.rel H.length H.length
                  have hset : (H1.set H.length (some (.obj (.loop .exhausted pend)))).set H.length none = setL H1 H.length none := by rw [setL_eq, List.set_set]
                  rw [hset] at h3
                  refine ⟨_, ρ', run_endLoop hl1 hst, (Step.trans r hpush (Step.trans hpush.rel hs (Step.trans hs.rel h2 h3))).mono (by omega), ?_⟩
                  have hdW : DefOk B W1 ({ target := .collected w.heap.size, args := #[] } :: a.defers) := by
                    obtain ⟨k0, bs, k1, k2, k3⟩ := hd
                    refine ⟨by omega, w.heap.size :: bs, by rw [k1]; rfl, List.nodup_cons.2 ⟨fun hm => ?_, k2⟩, ?_⟩
                    · have := (Array.getElem?_eq_some_iff.1 (k3 _ hm).2).1
                      omega
                    · intro b hb
                      rcases List.mem_cons.1 hb with rfl | hb
                      · exact ⟨k0, hD1⟩
                      · obtain ⟨k4, k5⟩ := k3 b hb
                        exact ⟨k4, (hsame b (Array.getElem?_eq_some_iff.1 k5).1).trans k5⟩
                  exact (hdW.step hpush.rel hs).step hs.rel h2
                unfold leftA at hleft
                rw [nth_eq] at hleft
                split at hleft
                · rename_i hl
                  cases hleft
                  obtain ⟨w4, ρ4, h1, h2, h3⟩ := fin _ _ hl (fun h => by cases h)
                  exact ⟨_, w4, h1, rfl, h3, ρ4, h2, ht.goes h2.goes⟩
                · rename_i hl
                  cases hleft
                  obtain ⟨w4, ρ4, h1, h2, h3⟩ := fin _ _ hl (fun h => by cases h)
                  exact ⟨_, w4, h1, wpIn_ret ⟨rfl, h3, ρ4, h2, ht.goes h2.goes⟩⟩
                · rename_i id hl
                  cases hleft
                  obtain ⟨w4, ρ4, h1, h2, h3⟩ := fin _ _ hl (fun h => by cases h)
                  exact ⟨_, w4, h1, wpIn_exit ⟨rfl, h3, ρ4, h2, ht.goes h2.goes⟩⟩
                · cases hleft
          · cases h
        · cases h
      · cases h
    · cases h
  · cases h

theorem codeA_ok {P : Program} {E : FuncId → Sum D} (hE : ∀ f, Valid P f (E f)) {DR : Array Oper → List AV → Heap D → Dec → RR D} (hD : DValid P DR) : ∀ (n : Nat), RunOk P (codeA P E DR n)
  | 0 => fun top L Y ρ0 c H H' t t' dec d p low ex hL hY h hp => by simp [codeA] at h
  | n + 1 => fun top L Y ρ0 c H H' t t' dec d p low ex hL hY h hp => by
    have ihr := codeA_ok hE hD n
    have ih : ∀ (c : Code) {q : Option Nat} {B : Nat} {ρ : Map} {H H' : Heap D} {w : World} {t t' : List AV} {a : Act} {dec d : Dec} {p : VC} {low : Nat} {ex : Ex}, (top = true → q = none) → Goes ρ0 ρ → Rel ρ H w → TR ρ t a → DefOk B w a.defers →
        codeA P E DR n top L Y c t H dec = some (p, ex, t', H', low, d) → VC.ok p → c.wpIn (Fr q) 0 P (Done B ρ H w ex t' H' low) a w :=
      fun c _ _ _ _ _ _ _ _ _ _ _ _ _ _ hq g0 r ht hd h hp => (ihr top L Y ρ0 c hL hY h hp).wp hq g0 r ht hd
    cases c with
    | skip =>
      intro q B ρ w a hq g0 r ht hd
      simp only [codeA, Option.some.injEq, Prod.mk.injEq] at h
      obtain ⟨rfl, rfl, rfl, rfl, rfl, rfl⟩ := h
      exact wpIn_skip ⟨rfl, hd, ρ, Step.refl r _, ht⟩
    | region id ops draw =>
      intro q B ρ w a hq g0 r ht hd
      cases draw with
      | false =>
        simp only [codeA] at h
        split at h
        · rename_i q1 t1 H1 l1 d1 hr
          simp only [Option.some.injEq, Prod.mk.injEq] at h
          obtain ⟨rfl, rfl, rfl, rfl, rfl, rfl⟩ := h
          have := regionA_ok (q := q) hE hY (Done B ρ H w .normal t1 H1 l1) ops.toList 0 (by simp) g0 r ht hd hr hp (fun a' w' h => h)
          exact wpIn_region (by simpa using this)
        · cases h
      | true =>
        simp only [codeA] at h
        split at h
        · rename_i q1 t1 H1 l1 d1 hr
          simp only [Option.some.injEq, Prod.mk.injEq] at h
          obtain ⟨rfl, rfl, rfl, rfl, rfl, rfl⟩ := h
          exact hD id ops t H dec _ _ _ _ _ hr hp q B ρ w a r ht hd
        · cases h
    | seq x y =>
      intro q B ρ w a hq g0 r ht hd
      simp only [codeA] at h
      split at h
      · rename_i q1 t1 H1 l1 d1 hx
        split at h
        · rename_i q2 ex2 t2 H2 l2 d2 hy
          simp only [Option.some.injEq, Prod.mk.injEq] at h
          obtain ⟨rfl, rfl, rfl, rfl, rfl, rfl⟩ := h
          have hp := ok_app.1 hp
          refine wpIn_seq (wpIn_mono (ih x hq g0 r ht hd hx hp.1) ?_)
          rintro e a' w' ⟨rfl, hd', ρ', hs, ht'⟩
          show y.wpIn (Fr q) 0 P _ a' w'
          exact wpIn_mono (ih y hq (g0.trans hs.goes) hs.rel ht' hd' hy hp.2) fun e a w h => h.trans r hs
        · cases h
      · rename_i hne
        refine wpIn_seq (wpIn_mono (ih x hq g0 r ht hd h hp) ?_)
        rintro e a' w' hdone
        obtain ⟨rfl, hrest⟩ := hdone
        cases ex with
        | normal => exact absurd h (by intro hh; exact hne _ _ _ _ _ hh)
        | exit id => exact ⟨rfl, hrest⟩
        | ret => exact ⟨rfl, hrest⟩
    | cond x thn els =>
      intro q B ρ w a hq g0 r ht hd
      simp only [codeA] at h
      split at h
      · rename_i b d1 hx
        split at h
        · rename_i q1 rr hr
          cases h
          have e : a.eval x = .bool b := cellOf_ok ht hx
          have hb : b = false := hp.1
          subst hb
          exact wpIn_cond_false e (ih els hq g0 r ht hd hr hp.2)
        · cases h
      · rename_i b k d1 hx
        split at h
        · rename_i q1 rr hr
          cases h
          have e : a.eval x = .bool b := cellOf_ok ht hx
          have hb : b = true := hp.1
          subst hb
          exact wpIn_cond_true e (ih thn hq g0 r ht hd hr hp.2)
        · cases h
      · cases h
    | block id body =>
      intro q B ρ w a hq g0 r ht hd
      simp only [codeA] at h
      split at h
      · rename_i q1 id' rr hr
        split at h
        · rename_i hid
          have hid' : id' = id := Nat.eq_of_beq_eq_true hid
          subst hid'
          cases h
          refine wpIn_block (wpIn_mono (ih body hq g0 r ht hd hr hp) ?_)
          rintro e a' w' ⟨rfl, hrest⟩
          simp only [Ex.real, Exit.inBlock, if_true]
          exact ⟨rfl, hrest⟩
        · rename_i hid
          have hid' : id' ≠ id := Nat.ne_of_beq_eq_false hid
          cases h
          refine wpIn_block (wpIn_mono (ih body hq g0 r ht hd hr hp) ?_)
          rintro e a' w' ⟨rfl, hrest⟩
          simp only [Ex.real, Exit.inBlock, hid', if_false]
          exact ⟨rfl, hrest⟩
      · rename_i hne
        refine wpIn_block (wpIn_mono (ih body hq g0 r ht hd h hp) ?_)
        rintro e a' w' ⟨rfl, hrest⟩
        cases ex with
        | normal => exact ⟨rfl, hrest⟩
        | exit id' => exact absurd h (by intro hh; exact hne _ _ _ hh)
        | ret => exact ⟨rfl, hrest⟩
    | loop body =>
      simp only [codeA] at h
      split at h
      · rename_i d1
        split at h
        · rename_i q1 t1 H1 l1 d2 hb
          split at h
          · rename_i q2 ex2 t2 H2 l2 d3 hl
            simp only [Option.some.injEq, Prod.mk.injEq] at h
            obtain ⟨rfl, rfl, rfl, rfl, rfl, rfl⟩ := h
            have hp := ok_app.1 hp
            obtain ⟨m, hm⟩ := ihr top L Y ρ0 (.loop body) hL hY hl hp.2
            refine ⟨m + 1, fun q B ρ w a hq g0 r ht hd => wpIn_mono (ih body hq g0 r ht hd hb hp.1) ?_⟩
            rintro e a' w' ⟨rfl, hd', ρ', hs, ht'⟩
            exact rounds_mono (fun e a w h => h.trans r hs) (hm q B ρ' w' a' hq (g0.trans hs.goes) hs.rel ht' hd')
          · cases h
        · rename_i hne
          refine ⟨1, fun q B ρ w a hq g0 r ht hd => wpIn_mono (ih body hq g0 r ht hd h hp) ?_⟩
          rintro e a' w' ⟨rfl, hrest⟩
          cases ex with
          | normal => exact absurd h (by intro hh; exact hne _ _ _ _ _ hh)
          | exit id' => exact ⟨rfl, hrest⟩
          | ret => exact ⟨rfl, hrest⟩
      · rename_i k d1
        split at h
        · rename_i b s hk
          split at h
          · rename_i q1 rr hs
            cases h
            obtain ⟨rfl, hq⟩ := hp
            obtain ⟨m, hm⟩ := hL k _ s hk t H d1 _ _ _ _ _ _ hs hq
            exact ⟨m, fun q B ρ w a _ _ r ht hd => hm q B ρ w a r ht hd⟩
          · cases h
        · cases h
      · cases h
    | rangeFunc f ps as body =>
      intro q B ρ w a hq g0 r ht hd
      simp only [codeA] at h
      split at h
      · obtain rfl := hq rfl
        exact rangeA_ok ihr hL hY h hp g0 r ht hd
      · cases h
    | exit id =>
      intro q B ρ w a hq g0 r ht hd
      simp only [codeA, Option.some.injEq, Prod.mk.injEq] at h
      obtain ⟨rfl, rfl, rfl, rfl, rfl, rfl⟩ := h
      exact wpIn_exit ⟨rfl, hd, ρ, Step.refl r _, ht⟩
    | ret =>
      intro q B ρ w a hq g0 r ht hd
      simp only [codeA, Option.some.injEq, Prod.mk.injEq] at h
      obtain ⟨rfl, rfl, rfl, rfl, rfl, rfl⟩ := h
      exact wpIn_ret ⟨rfl, hd, ρ, Step.refl r _, ht⟩
    | scope body => simp only [codeA, reduceCtorEq] at h
    | label l => simp only [codeA, reduceCtorEq] at h
    | goto l => simp only [codeA, reduceCtorEq] at h
    | refuse why => simp only [codeA, reduceCtorEq] at h

/-- Runs of code that hold everywhere. -/
def Runs (P : Program) (c : Code) (t : List AV) (H : Heap D) (ex : Ex) (t' : List AV) (H' : Heap D) (low : Nat) : Prop :=
  match c with
  | .loop body => ∃ m, ∀ (q : Option Nat) (B : Nat) ρ w a, Rel ρ H w → TR ρ t a → DefOk B w a.defers → Code.roundsIn (Fr q) 0 P body (Done B ρ H w ex t' H' low) m a w
  | c => ∀ (q : Option Nat) (B : Nat) ρ w a, Rel ρ H w → TR ρ t a → DefOk B w a.defers → c.wpIn (Fr q) 0 P (Done B ρ H w ex t' H' low) a w

theorem Goes.nil (ρ : Map) : Goes [] ρ := fun i F h => by simp at h

theorem RunsAt.runs {P : Program} {c : Code} {t : List AV} {H : Heap D} {ex : Ex} {t' : List AV} {H' : Heap D} {low : Nat} (h : RunsAt P false [] c t H ex t' H' low) : Runs P c t H ex t' H' low := by
  cases c with
  | loop body => obtain ⟨m, hm⟩ := h; exact ⟨m, fun q B ρ w a r ht hd => hm q B ρ w a (fun h => by cases h) (Goes.nil ρ) r ht hd⟩
  | _ => exact fun q B ρ w a r ht hd => h q B ρ w a (fun h => by cases h) (Goes.nil ρ) r ht hd

theorem Runs.wp {P : Program} {c : Code} {t : List AV} {H : Heap D} {ex : Ex} {t' : List AV} {H' : Heap D} {low : Nat} (h : Runs P c t H ex t' H' low) {q : Option Nat} {B : Nat} {ρ : Map} {w : World} {a : Act} (r : Rel ρ H w) (ht : TR ρ t a) (hd : DefOk B w a.defers) :
    c.wpIn (Fr q) 0 P (Done B ρ H w ex t' H' low) a w := by
  cases c with
  | loop body => obtain ⟨m, hm⟩ := h; exact wpIn_loop_rounds m (hm q B ρ w a r ht hd)
  | _ => exact h q B ρ w a r ht hd

theorem bodyA_valid {P : Program} {E : FuncId → Sum D} (hE : ∀ f, Valid P f (E f)) {L : LS D} (hL : ∀ k b s, L k = some (b, s) → LValid P b s)
    {DR : Array Oper → List AV → Heap D → Dec → RR D} (hD : DValid P DR) (fuel : Nat) (f : FuncId) : Valid P f (bodyA P E L DR fuel f) := by
  intro args H dec p v H' low d h hp ρ w as r ha
  unfold bodyA at h
  try simp only [nth_eq, setL_eq, und_eq, inf_eq] at h
  split at h
  · rename_i fn hfn
    rw [Array.getElem?_toList] at hfn
    split at h
    · rename_i c hc
      have hlen : args.length = as.size := by rw [ha.length]; simp
      have ht : TR ρ (args ++ List.replicate (fn.ntmps - args.length) undefA) { tmps := as ++ Array.replicate (fn.ntmps - as.size) undef, defers := [] } := by
        show All2 _ _ (as ++ Array.replicate (fn.ntmps - as.size) undef).toList
        rw [Array.toList_append, Array.toList_replicate, hlen]
        exact ha.app (All2.replicate undef_ok _)
      split at h
      · cases h
      · rename_i q1 ex t1 H1 l1 d1 hne hcode
        split at h
        · rename_i q2 vs d2 hres
          simp only [Option.some.injEq, Prod.mk.injEq] at h
          obtain ⟨rfl, rfl, rfl, rfl, rfl⟩ := h
          have hp := ok_app.1 hp
          refine callsIn_wide.1 (show CallsIn (Fr none) 0 P f as w _ from calls_of_done (ρ := ρ) (H := H) (ex := ex) (t' := t1) (H' := H1) (low := l1) hfn hc (fun id hid => hne id hid)
            ((codeA_ok hE hD fuel true L noY [] c hL (noY_valid _ _) hcode hp.1).wp (fun _ => rfl) (Goes.nil ρ) r ht (DefOk.nil w)) ?_)
          intro ρ' w' a' hs ht'
          obtain ⟨us, h1, h2⟩ := results_ok hs.rel ht' hres hp.2
          exact ⟨_, h1, _, ρ', rfl, hs, tupA_ok h2⟩
        · cases h
      · cases h
    · cases h
  · cases h

def evalF (P : Program) (S : FuncId → Option (Sum D)) (L : FuncId → LS D) (DR : (FuncId → Sum D) → Array Oper → List AV → Heap D → Dec → RR D) (fuel : Nat) : Nat → FuncId → Sum D
  | 0, f => match S f with
    | some s => s
    | none => fun _ _ _ => none
  | n + 1, f => match S f with
    | some s => s
    | none => bodyA P (evalF P S L DR fuel n) (L f) (DR (evalF P S L DR fuel n)) fuel f

theorem evalF_valid {P : Program} {S : FuncId → Option (Sum D)} (hS : ∀ f s, S f = some s → Valid P f s) {L : FuncId → LS D} (hL : ∀ f k b s, L f k = some (b, s) → LValid P b s)
    {DR : (FuncId → Sum D) → Array Oper → List AV → Heap D → Dec → RR D} (hD : ∀ E, (∀ f, Valid P f (E f)) → DValid P (DR E)) (fuel : Nat) : ∀ (n : Nat) (f : FuncId), Valid P f (evalF P S L DR fuel n f)
  | 0, f => by
    unfold evalF
    split
    · rename_i s hs; exact hS f s hs
    · intro args H dec p v H' low d h; cases h
  | n + 1, f => by
    unfold evalF
    split
    · rename_i s hs; exact hS f s hs
    · have ih := evalF_valid hS hL hD fuel n
      exact bodyA_valid ih (hL f) (hD _ ih) fuel f

end
end
end Go.Proofs.Ytnoonoghemgbbaa.Sx

/-
  A symbolic evaluator over the model's code: part 15: what is shown over a small heap holds over every heap that it is a part of.
-/
set_option linter.unusedVariables false
set_option linter.unusedSimpArgs false
namespace Go.Proofs.Ytnoonoghemgbbaa.Sx
open Go
noncomputable section

/-- Where block i of the small heap lies in the great one; new blocks come behind the great one's. -/
def rid (θ : List Nat) (n i : Nat) : Nat :=
  match θ[i]? with
  | some j => j
  | none => match Nat.ble 1000000000 i with
    | true => i
    | false => n + (i - θ.length)

def renC (f : Nat → Nat) : Cell → Cell
  | .ptr nl id idx off => .ptr nl (f id) idx off
  | .slice nl id idx off len cap sz => .slice nl (f id) idx off len cap sz
  | .func g caps => .func g (caps.map fun p => (f p.1, p.2))
  | .map nl id idx => .map nl (f id) idx
  | .yld id => .yld (f id)
  | .bool b => .bool b
  | .int k n => .int k n
  | .str l => .str l
  | .empty => .empty
  | .nilFunc => .nilFunc
  | .anyp => .anyp

def ren1 (f : Nat → Nat) : AV1 → AV1
  | .cell c => .cell (renC f c)
  | .agg cs => .agg (cs.map (renC f))

def renV (f : Nat → Nat) : AV → AV
  | .cell c => .cell (renC f c)
  | .agg cs => .agg (cs.map (renC f))
  | .tup l => .tup (l.map (ren1 f))
  | .junk => .junk

def renCont (f : Nat → Nat) : Cont → Cont
  | .raw cs => .raw (cs.map (renC f))
  | .ints k l => .ints k l
  | .fam n sz g => .fam n sz fun i => (g i).map (renC f)

def renO (f : Nat → Nat) : Ob → Ob
  | .map es => .map (es.map fun e => (ren1 f e.1, ren1 f e.2))
  | .iter s pos => .iter s pos
  | .loop st pend => .loop st pend
  | .ab d => .ab d

def renB {D : Type} (f : Nat → Nat) : Blk D → Blk D
  | .cells own num c => .cells own num fun i => renCont f (c i)
  | .obj o => .obj (renO f o)

def GoesBy (f : Nat → Nat) (ρ ρ' : Map) : Prop := ∀ (i : Nat) (F : Nat → Loc), ρ[i]? = some F → ∃ F', ρ'[f i]? = some F' ∧ Lo F F'

theorem RCap.ren {f : Nat → Nat} {ρ ρ' : Map} (g : GoesBy f ρ ρ') {p : Nat × Nat × Nat} {v : Value} : RCap ρ p v → RCap ρ' (f p.1, p.2) v
  | ⟨F, h, e⟩ =>
    let ⟨F', h', l⟩ := g _ _ h
    ⟨F', h', by rw [(l _).1, (l _).2.1]; exact e⟩

theorem RC.ren {f : Nat → Nat} {ρ ρ' : Map} (g : GoesBy f ρ ρ') {c : Cell} {v : Value} (h : RC ρ c v) : RC ρ' (renC f c) v := by
  cases c with
  | ptr nl id idx off =>
    rcases h with h | ⟨h1, F, h2, h3⟩
    · exact .inl h
    · obtain ⟨F', h', l⟩ := g _ _ h2
      exact .inr ⟨h1, F', h', by rw [(l _).1, (l _).2.1]; exact h3⟩
  | slice nl id idx off len cap sz =>
    rcases h with h | ⟨h1, F, r, h2, h3, h4, h5⟩
    · exact .inl h
    · obtain ⟨F', h', l⟩ := g _ _ h2
      refine .inr ⟨h1, F', r, h', by rw [(l _).1, (l _).2.1]; exact h3, h4, ?_⟩
      rw [(l _).2.1, (l _).2.2.1]; exact h5
  | func f' caps =>
    obtain ⟨vs, e, h⟩ := h
    refine ⟨vs, e, ?_⟩
    clear e
    induction caps generalizing vs with
    | nil => cases vs with
      | nil => trivial
      | cons _ _ => exact h.elim
    | cons p caps ih => cases vs with
      | nil => exact h.elim
      | cons v vs => exact ⟨RCap.ren g h.1, ih vs h.2⟩
  | map nl id idx =>
    rcases h with h | ⟨h1, F, h2, h3⟩
    · exact .inl h
    · obtain ⟨F', h', l⟩ := g _ _ h2
      exact .inr ⟨h1, F', h', by rw [(l _).1]; exact h3⟩
  | yld id =>
    obtain ⟨F, h2, h3⟩ := h
    obtain ⟨F', h', l⟩ := g _ _ h2
    exact ⟨F', h', by rw [(l _).1]; exact h3⟩
  | bool b => exact h
  | int k n => exact h
  | str l => exact h
  | empty => exact h
  | nilFunc => exact h
  | anyp => exact h

theorem RC.unren {f : Nat → Nat} {ρ ρ' : Map} (g : ∀ (i : Nat) (F : Nat → Loc), ρ'[f i]? = some F → ρ[i]? = some F) {c : Cell} {v : Value} (h : RC ρ' (renC f c) v) : RC ρ c v := by
  cases c with
  | ptr nl id idx off =>
    rcases h with h | ⟨h1, F, h2, h3⟩
    · exact .inl h
    · exact .inr ⟨h1, F, g _ _ h2, h3⟩
  | slice nl id idx off len cap sz =>
    rcases h with h | ⟨h1, F, r, h2, h3⟩
    · exact .inl h
    · exact .inr ⟨h1, F, r, g _ _ h2, h3⟩
  | func f' caps =>
    obtain ⟨vs, e, h⟩ := h
    refine ⟨vs, e, ?_⟩
    clear e
    induction caps generalizing vs with
    | nil => cases vs with
      | nil => trivial
      | cons _ _ => exact h.elim
    | cons p caps ih => cases vs with
      | nil => exact h.elim
      | cons v vs =>
        obtain ⟨⟨F, hF, he⟩, h2⟩ := h
        exact ⟨⟨F, g _ _ hF, he⟩, ih vs h2⟩
  | map nl id idx =>
    rcases h with h | ⟨h1, F, h2, h3⟩
    · exact .inl h
    · exact .inr ⟨h1, F, g _ _ h2, h3⟩
  | yld id => obtain ⟨F, h2, h3⟩ := h; exact ⟨F, g _ _ h2, h3⟩
  | bool b => exact h
  | int k n => exact h
  | str l => exact h
  | empty => exact h
  | nilFunc => exact h
  | anyp => exact h

theorem All2.map_left {α β γ : Type} {R : α → β → Prop} {S : γ → β → Prop} {f : α → γ} (h : ∀ a b, R a b → S (f a) b) : ∀ {l : List α} {m : List β}, All2 R l m → All2 S (l.map f) m
  | [], [], _ => trivial
  | _ :: _, _ :: _, ⟨h1, h2⟩ => ⟨h _ _ h1, All2.map_left h h2⟩
  | [], _ :: _, h0 => h0.elim
  | _ :: _, [], h0 => h0.elim
theorem All2.unmap_left {α β γ : Type} {R : α → β → Prop} {S : γ → β → Prop} {f : α → γ} (h : ∀ a b, S (f a) b → R a b) : ∀ {l : List α} {m : List β}, All2 S (l.map f) m → All2 R l m
  | [], [], _ => trivial
  | _ :: _, _ :: _, ⟨h1, h2⟩ => ⟨h _ _ h1, All2.unmap_left h h2⟩
  | [], _ :: _, h0 => h0.elim
  | _ :: _, [], h0 => h0.elim

theorem R1.ren {f : Nat → Nat} {ρ ρ' : Map} (g : GoesBy f ρ ρ') {c : AV1} {v : Value} (h : R1 ρ c v) : R1 ρ' (ren1 f c) v := by
  cases c with
  | cell c => exact RC.ren g h
  | agg cs => obtain ⟨vs, e, h⟩ := h; exact ⟨vs, e, All2.map_left (f := renC f) (fun _ _ => RC.ren g) h⟩

theorem RV.ren {f : Nat → Nat} {ρ ρ' : Map} (g : GoesBy f ρ ρ') {c : AV} {v : Value} (h : RV ρ c v) : RV ρ' (renV f c) v := by
  cases c with
  | cell c => exact RC.ren g h
  | agg cs => obtain ⟨vs, e, h⟩ := h; exact ⟨vs, e, All2.map_left (f := renC f) (fun _ _ => RC.ren g) h⟩
  | tup l => obtain ⟨vs, e, h⟩ := h; exact ⟨vs, e, All2.map_left (f := ren1 f) (fun _ _ => R1.ren g) h⟩
  | junk => trivial

theorem R1.unren {f : Nat → Nat} {ρ ρ' : Map} (g : ∀ (i : Nat) (F : Nat → Loc), ρ'[f i]? = some F → ρ[i]? = some F) {c : AV1} {v : Value} (h : R1 ρ' (ren1 f c) v) : R1 ρ c v := by
  cases c with
  | cell c => exact RC.unren g h
  | agg cs => obtain ⟨vs, e, h⟩ := h; exact ⟨vs, e, All2.unmap_left (f := renC f) (fun _ _ => RC.unren g) h⟩

theorem RV.unren {f : Nat → Nat} {ρ ρ' : Map} (g : ∀ (i : Nat) (F : Nat → Loc), ρ'[f i]? = some F → ρ[i]? = some F) {c : AV} {v : Value} (h : RV ρ' (renV f c) v) : RV ρ c v := by
  cases c with
  | cell c => exact RC.unren g h
  | agg cs => obtain ⟨vs, e, h⟩ := h; exact ⟨vs, e, All2.unmap_left (f := renC f) (fun _ _ => RC.unren g) h⟩
  | tup l => obtain ⟨vs, e, h⟩ := h; exact ⟨vs, e, All2.unmap_left (f := ren1 f) (fun _ _ => R1.unren g) h⟩
  | junk => trivial

theorem renCont_len (f : Nat → Nat) (c : Cont) : (renCont f c).len = c.len := by cases c <;> simp [renCont, Cont.len]
theorem renCont_wf {f : Nat → Nat} {c : Cont} : (renCont f c).wf ↔ c.wf := by cases c <;> simp [renCont, Cont.wf]
theorem renCont_at {f : Nat → Nat} {c : Cont} {j : Nat} {x : Cell} (h : c.At j x) : (renCont f c).At j (renC f x) := by
  cases c with
  | raw cs =>
    have h' : cs[j]? = some x := h
    show (cs.map (renC f))[j]? = _
    rw [List.getElem?_map, h']; rfl
  | ints k l => obtain ⟨n, hn, rfl⟩ := h; exact ⟨n, hn, rfl⟩
  | fam n sz g =>
    obtain ⟨i, s, h1, h2, h3, h4⟩ := h
    exact ⟨i, s, h1, h2, h3, by rw [List.getElem?_map, h4]; rfl⟩
theorem renCont_of {f : Nat → Nat} {c : Cont} {j : Nat} {y : Cell} (h : (renCont f c).At j y) : ∃ x, c.At j x ∧ y = renC f x := by
  cases c with
  | raw cs =>
    have h' : (cs.map (renC f))[j]? = some y := h
    rw [List.getElem?_map] at h'
    cases hx : cs[j]? with
    | none => rw [hx] at h'; cases h'
    | some x => rw [hx] at h'; exact ⟨x, hx, by simpa using h'.symm⟩
  | ints k l => obtain ⟨n, hn, rfl⟩ := h; exact ⟨_, ⟨n, hn, rfl⟩, rfl⟩
  | fam n sz g =>
    obtain ⟨i, s, h1, h2, h3, h4⟩ := h
    rw [List.getElem?_map] at h4
    cases hx : (g i)[s]? with
    | none => rw [hx] at h4; cases h4
    | some x => rw [hx] at h4; exact ⟨x, ⟨i, s, h1, h2, h3, hx⟩, by simpa using h4.symm⟩

section
variable {D : Type}

theorem renB_own (f : Nat → Nat) (b : Blk D) : (renB f b).own = b.own := by cases b <;> rfl
theorem renB_live (f : Nat → Nat) (b : Blk D) (idx : Nat) : (renB f b).live idx ↔ b.live idx := by cases b <;> exact Iff.rfl

theorem ObAt.ren {f : Nat → Nat} {ρ ρ' : Map} (g : GoesBy f ρ ρ') {w : World} {L : Nat → Loc} {o : Ob} (h : ObAt ρ w L o) : ObAt ρ' w L (renO f o) := by
  cases o with
  | map es =>
    obtain ⟨arr, clock, h1, h2, h3⟩ := h
    exact ⟨arr, clock, h1, All2.map_left (f := fun e : AV1 × AV1 => (ren1 f e.1, ren1 f e.2)) (fun _ _ h => ⟨R1.ren g h.1, R1.ren g h.2⟩) h2, h3⟩
  | iter s pos => exact h
  | loop st pend => exact h
  | ab d => exact h

theorem ObAt.unren {f : Nat → Nat} {ρ ρ' : Map} (g : ∀ (i : Nat) (F : Nat → Loc), ρ'[f i]? = some F → ρ[i]? = some F) {w : World} {L : Nat → Loc} {o : Ob} (h : ObAt ρ' w L (renO f o)) : ObAt ρ w L o := by
  cases o with
  | map es =>
    obtain ⟨arr, clock, h1, h2, h3⟩ := h
    exact ⟨arr, clock, h1, All2.unmap_left (f := fun e : AV1 × AV1 => (ren1 f e.1, ren1 f e.2)) (fun _ _ h => ⟨R1.unren g h.1, R1.unren g h.2⟩) h2, h3⟩
  | iter s pos => exact h
  | loop st pend => exact h
  | ab d => exact h

theorem BlkAt.ren {f : Nat → Nat} {ρ ρ' : Map} (g : GoesBy f ρ ρ') {w : World} {L : Nat → Loc} {idx : Nat} {b : Blk D} (h : BlkAt ρ w L idx b) : BlkAt ρ' w L idx (renB f b) := by
  cases b with
  | obj o =>
    intro hi
    obtain ⟨h1, h2, h3⟩ := h hi
    exact ⟨by cases o <;> exact h1, h2, h3.ren g⟩
  | cells own num c =>
    intro hi
    obtain ⟨h0, h1, h2, h3, h4⟩ := h hi
    refine ⟨renCont_wf.2 h0, by rw [renCont_len]; exact h1, h2, ?_, fun ho => ?_⟩
    · intro j y hy
      obtain ⟨x, hx, rfl⟩ := renCont_of hy
      obtain ⟨v, hv, hr⟩ := h3 j x hx
      exact ⟨v, hv, hr.ren g⟩
    · obtain ⟨g1, g2, g3⟩ := h4 ho
      exact ⟨g1, by rw [renCont_len]; exact g2, g3⟩

theorem BlkAt.unren {f : Nat → Nat} {ρ ρ' : Map} (g : ∀ (i : Nat) (F : Nat → Loc), ρ'[f i]? = some F → ρ[i]? = some F) {w : World} {L : Nat → Loc} {idx : Nat} {b : Blk D} (h : BlkAt ρ' w L idx (renB f b)) : BlkAt ρ w L idx b := by
  cases b with
  | obj o =>
    intro hi
    obtain ⟨h1, h2, h3⟩ := h hi
    exact ⟨by cases o <;> exact h1, h2, h3.unren g⟩
  | cells own num c =>
    intro hi
    obtain ⟨h0, h1, h2, h3, h4⟩ := h hi
    simp only [renCont_len] at h1
    refine ⟨renCont_wf.1 h0, h1, h2, ?_, fun ho => ?_⟩
    · intro j x hx
      obtain ⟨v, hv, hr⟩ := h3 j _ (renCont_at hx)
      exact ⟨v, hv, hr.unren g⟩
    · obtain ⟨g1, g2, g3⟩ := h4 ho
      simp only [renCont_len] at g2
      exact ⟨g1, g2, g3⟩

/-- The first says at least what the second says. -/
structure Weak (b' b : Blk D) : Prop where
  own : b'.own = b.own
  live : ∀ idx, b.live idx ↔ b'.live idx
  at_ : ∀ ρ w L idx, BlkAt ρ w L idx b' → BlkAt ρ w L idx b

theorem Weak.refl (b : Blk D) : Weak b b := ⟨rfl, fun _ => Iff.rfl, fun _ _ _ _ h => h⟩

/-- The small heap is a part of the great one. -/
structure Part (θ : List Nat) (Hc H : Heap D) : Prop where
  len : θ.length = Hc.length
  lt : ∀ (i j : Nat), θ[i]? = some j → j < H.length
  inj : ∀ (i i' j : Nat), θ[i]? = some j → θ[i']? = some j → i = i'
  same : ∀ (i j : Nat) (b : Blk D), θ[i]? = some j → Hc[i]? = some (some b) → ∃ b', H[j]? = some (some b') ∧ Weak b' (renB (rid θ H.length) b)
  few : H.length ≤ 1000000000

def smallMap (θ : List Nat) (ρ : Map) : Map := θ.map fun j => ρ.getD j fun _ => ⟨0, 0, 0, fun _ => False, default⟩

theorem smallMap_get {θ : List Nat} {ρ : Map} {H Hc : Heap D} {w : World} (r : Rel ρ H w) (h : Part θ Hc H) {i : Nat} : (smallMap θ ρ)[i]? = (match θ[i]? with | some j => ρ[j]? | none => none) := by
  unfold smallMap
  rw [List.getElem?_map]
  cases hθ : θ[i]? with
  | none => rfl
  | some j =>
    have := h.lt i j hθ
    rw [← r.len] at this
    simp [List.getD, List.getElem?_eq_getElem this]

theorem rid_old {θ : List Nat} {n i j : Nat} (h : θ[i]? = some j) : rid θ n i = j := by simp [rid, h]
theorem rid_new {θ : List Nat} {n i : Nat} (h : θ.length ≤ i) (hb : i < 1000000000) : rid θ n i = n + (i - θ.length) := by
  have h1 : θ[i]? = none := List.getElem?_eq_none h
  have h2 : Nat.ble 1000000000 i = false := by
    cases hh : Nat.ble 1000000000 i with
    | false => rfl
    | true => have := Nat.le_of_ble_eq_true hh; omega
  simp [rid, h1, h2]

theorem small_unren {θ : List Nat} {ρ : Map} {H Hc : Heap D} {w : World} (r : Rel ρ H w) (h : Part θ Hc H) : ∀ (i : Nat) (F : Nat → Loc), ρ[rid θ H.length i]? = some F → (smallMap θ ρ)[i]? = some F := by
  intro i F hF
  rw [smallMap_get r h]
  cases hθ : θ[i]? with
  | some j => rw [rid_old hθ] at hF; exact hF
  | none =>
    exfalso
    have hlt := (List.getElem?_eq_some_iff.1 hF).1
    rw [r.len] at hlt
    have hge : θ.length ≤ i := by
      rcases Nat.lt_or_ge i θ.length with h | h
      · rw [List.getElem?_eq_getElem h] at hθ; cases hθ
      · exact h
    rcases Nat.lt_or_ge i 1000000000 with hb | hb
    · rw [rid_new hge hb] at hlt; omega
    · have : rid θ H.length i = i := by
        have h2 : Nat.ble 1000000000 i = true := Nat.ble_eq_true_of_le hb
        simp [rid, hθ, h2]
      rw [this] at hlt
      have := h.few
      omega

theorem Part.rel {θ : List Nat} {ρ : Map} {H Hc : Heap D} {w : World} (r : Rel ρ H w) (h : Part θ Hc H) : Rel (smallMap θ ρ) Hc w := by
  have hθ : ∀ (i : Nat) (b : Blk D), Hc[i]? = some (some b) → ∃ j, θ[i]? = some j := by
    intro i b hb
    have := (List.getElem?_eq_some_iff.1 hb).1
    rw [← h.len] at this
    exact ⟨θ[i], List.getElem?_eq_getElem this⟩
  refine ⟨by simp [smallMap, h.len], ?_, ?_⟩
  · intro i b F idx hb hF
    obtain ⟨j, hj⟩ := hθ i b hb
    rw [smallMap_get r h, hj] at hF
    obtain ⟨b1, e1, k1⟩ := h.same i j b hj hb
    exact BlkAt.unren (small_unren r h) (k1.at_ _ _ _ _ (r.at_ j _ F idx e1 hF))
  · intro i b F idx i' b' F' idx' hb hF hl ho hb' hF' hl' hne
    obtain ⟨j, hj⟩ := hθ i b hb
    obtain ⟨j', hj'⟩ := hθ i' b' hb'
    rw [smallMap_get r h, hj] at hF
    rw [smallMap_get r h, hj'] at hF'
    obtain ⟨b1, e1, k1⟩ := h.same i j b hj hb
    obtain ⟨b2, e2, k2⟩ := h.same i' j' b' hj' hb'
    refine r.apart j _ F idx j' _ F' idx' e1 hF ((k1.live _).1 ((renB_live _ _ _).2 hl)) (by rw [k1.own, renB_own]; exact ho) e2 hF' ((k2.live _).1 ((renB_live _ _ _).2 hl')) ?_
    intro e
    simp only [Prod.mk.injEq] at e
    obtain ⟨rfl, rfl⟩ := e
    exact hne (by rw [h.inj i i' j hj hj'])

/-- What the great heap becomes. -/
def lay (f : Nat → Nat) : List Nat → Heap D → Heap D → Heap D
  | j :: θ, b :: Hc, H => lay f θ Hc (H.set j (match b with | some b => some (renB f b) | none => none))
  | _, _, H => H

def renH (f : Nat → Nat) : Heap D → Heap D
  | [] => []
  | some b :: l => some (renB f b) :: renH f l
  | none :: l => none :: renH f l

def lift (θ : List Nat) (Hc' H : Heap D) : Heap D :=
  lay (rid θ H.length) θ Hc' H ++ renH (rid θ H.length) (Hc'.drop θ.length)

def lowOf (n : Nat) : List Nat → Nat
  | [] => n
  | j :: l => min j (lowOf n l)

theorem lay_length (f : Nat → Nat) : ∀ (θ : List Nat) (Hc H : Heap D), (lay f θ Hc H).length = H.length
  | [], _, _ => by simp [lay]
  | j :: θ, [], H => by simp [lay]
  | j :: θ, b :: Hc, H => by simp only [lay]; rw [lay_length f θ Hc]; simp

theorem lay_other (f : Nat → Nat) : ∀ (θ : List Nat) (Hc H : Heap D) (p : Nat), p ∉ θ → (lay f θ Hc H)[p]? = H[p]?
  | [], _, _, p, _ => by simp [lay]
  | j :: θ, [], H, p, _ => by simp [lay]
  | j :: θ, b :: Hc, H, p, h => by
    simp only [lay]
    rw [lay_other f θ Hc _ p (fun hh => h (List.mem_cons_of_mem _ hh)), List.getElem?_set_ne (fun e => h (by rw [e]; exact List.mem_cons_self))]

theorem lay_at (f : Nat → Nat) : ∀ (θ : List Nat) (Hc H : Heap D), (∀ (i i' j : Nat), θ[i]? = some j → θ[i']? = some j → i = i') → (∀ (i j : Nat), θ[i]? = some j → j < H.length) → ∀ (i j : Nat) (b : Option (Blk D)), θ[i]? = some j → Hc[i]? = some b →
    (lay f θ Hc H)[j]? = some (match b with | some b => some (renB f b) | none => none)
  | [], _, _, _, _, i, j, b, h, _ => by simp at h
  | k :: θ, [], H, _, _, i, j, b, h, hb => by simp at hb
  | k :: θ, x :: Hc, H, inj, lt, 0, j, b, h, hb => by
    simp at h hb
    subst h hb
    simp only [lay]
    rw [lay_other f θ Hc _ k (fun hm => by
      obtain ⟨i, hi, e⟩ := List.getElem_of_mem hm
      have := inj 0 (i + 1) k (by simp) (by simp [List.getElem?_eq_getElem hi, e])
      omega)]
    rw [List.getElem?_set_self (lt 0 k (by simp))]
  | k :: θ, x :: Hc, H, inj, lt, i + 1, j, b, h, hb => by
    simp only [lay]
    exact lay_at f θ Hc _ (fun i i' j h1 h2 => by have := inj (i + 1) (i' + 1) j (by simpa using h1) (by simpa using h2); omega) (fun i j h => by simpa using lt (i + 1) j (by simpa using h)) i j b (by simpa using h) (by simpa using hb)

theorem renH_get (f : Nat → Nat) : ∀ (l : Heap D) (i : Nat), (renH f l)[i]? = (match l[i]? with | some (some b) => some (some (renB f b)) | some none => some none | none => none)
  | [], i => by simp [renH]
  | some b :: l, 0 => by simp [renH]
  | none :: l, 0 => by simp [renH]
  | some b :: l, i + 1 => by simpa [renH] using renH_get f l i
  | none :: l, i + 1 => by simpa [renH] using renH_get f l i

theorem lowOf_le (n : Nat) : ∀ (l : List Nat) (j : Nat), j ∈ l → lowOf n l ≤ j
  | k :: l, j, h => by
    rcases List.mem_cons.1 h with rfl | h
    · exact Nat.min_le_left _ _
    · exact Nat.le_trans (Nat.min_le_right _ _) (lowOf_le n l j h)
  | [], j, h => by cases h

def layMap : List Nat → Map → Map → Map
  | j :: θ, F :: ρc, ρ => layMap θ ρc (ρ.set j F)
  | _, _, ρ => ρ

theorem layMap_length : ∀ (θ : List Nat) (ρc ρ : Map), (layMap θ ρc ρ).length = ρ.length
  | [], _, _ => by simp [layMap]
  | j :: θ, [], ρ => by simp [layMap]
  | j :: θ, b :: ρc, ρ => by simp only [layMap]; rw [layMap_length θ ρc]; simp

theorem layMap_other : ∀ (θ : List Nat) (ρc ρ : Map) (p : Nat), p ∉ θ → (layMap θ ρc ρ)[p]? = ρ[p]?
  | [], _, _, p, _ => by simp [layMap]
  | j :: θ, [], ρ, p, _ => by simp [layMap]
  | j :: θ, b :: ρc, ρ, p, h => by
    simp only [layMap]
    rw [layMap_other θ ρc _ p (fun hh => h (List.mem_cons_of_mem _ hh)), List.getElem?_set_ne (fun e => h (by rw [e]; exact List.mem_cons_self))]

theorem layMap_at : ∀ (θ : List Nat) (ρc ρ : Map), (∀ (i i' j : Nat), θ[i]? = some j → θ[i']? = some j → i = i') → (∀ (i j : Nat), θ[i]? = some j → j < ρ.length) → ∀ (i j : Nat) (F : Nat → Loc), θ[i]? = some j → ρc[i]? = some F →
    (layMap θ ρc ρ)[j]? = some F
  | [], _, _, _, _, i, j, b, h, _ => by simp at h
  | k :: θ, [], ρ, _, _, i, j, b, h, hb => by simp at hb
  | k :: θ, x :: ρc, ρ, inj, lt, 0, j, b, h, hb => by
    simp at h hb
    subst h hb
    simp only [layMap]
    rw [layMap_other θ ρc _ k (fun hm => by
      obtain ⟨i, hi, e⟩ := List.getElem_of_mem hm
      have := inj 0 (i + 1) k (by simp) (by simp [List.getElem?_eq_getElem hi, e])
      omega)]
    rw [List.getElem?_set_self (lt 0 k (by simp))]
  | k :: θ, x :: ρc, ρ, inj, lt, i + 1, j, b, h, hb => by
    simp only [layMap]
    exact layMap_at θ ρc _ (fun i i' j h1 h2 => by have := inj (i + 1) (i' + 1) j (by simpa using h1) (by simpa using h2); omega) (fun i j h => by simpa using lt (i + 1) j (by simpa using h)) i j b (by simpa using h) (by simpa using hb)

/-- **What a run over the small heap does, the same run does over every heap that it is a part of.** -/
theorem Part.step {θ : List Nat} {ρ : Map} {H Hc : Heap D} {w : World} (r : Rel ρ H w) (h : Part θ Hc H) {low : Nat} {ρc' : Map} {Hc' : Heap D} {w' : World} (hs : Step (smallMap θ ρ) Hc w low ρc' Hc' w') (hfew : Hc'.length ≤ 1000000000) :
    ∃ ρ', GoesBy (rid θ H.length) ρc' ρ' ∧ Step ρ H w (lowOf H.length (θ.drop low)) ρ' (lift θ Hc' H) w' := by
  have rc := h.rel r
  let f := rid θ H.length
  have hlen := hs.len rc
  have hcl : θ.length ≤ Hc'.length := by rw [h.len]; exact hlen
  let ρ' := layMap θ ρc' ρ ++ ρc'.drop θ.length
  have hll : (layMap θ ρc' ρ).length = H.length := by rw [layMap_length]; exact r.len
  have hltρ : ∀ (i j : Nat), θ[i]? = some j → j < ρ.length := fun i j hj => by rw [r.len]; exact h.lt i j hj
  have hsm : (smallMap θ ρ).length = θ.length := by simp [smallMap]
  -- where the small blocks lie
  have gbyE : ∀ (i : Nat) (F : Nat → Loc), ρc'[i]? = some F → ρ'[f i]? = some F := by
    intro i F hF
    rcases Nat.lt_or_ge i θ.length with hi | hi
    · have hθ : θ[i]? = some θ[i] := List.getElem?_eq_getElem hi
      have e1 : f i = θ[i] := rid_old hθ
      rw [e1]
      show (layMap θ ρc' ρ ++ _)[θ[i]]? = _
      rw [List.getElem?_append_left (by rw [hll]; exact h.lt i _ hθ)]
      exact layMap_at θ ρc' ρ h.inj hltρ i _ F hθ hF
    · have hlt : i < ρc'.length := (List.getElem?_eq_some_iff.1 hF).1
      have hb : i < 1000000000 := by rw [hs.rel.len] at hlt; omega
      have e1 : f i = H.length + (i - θ.length) := rid_new hi hb
      rw [e1]
      show (layMap θ ρc' ρ ++ _)[_]? = _
      rw [List.getElem?_append_right (by rw [hll]; omega), hll, List.getElem?_drop]
      rw [← hF]; congr 1; omega
  have gby : GoesBy f ρc' ρ' := fun i F hF => ⟨F, gbyE i F hF, Lo.refl F⟩
  have gold : Goes ρ ρ' := by
    intro p F hF
    have hp : p < H.length := by rw [← r.len]; exact (List.getElem?_eq_some_iff.1 hF).1
    by_cases hm : p ∈ θ
    · obtain ⟨i, hi, e⟩ := List.getElem_of_mem hm
      have hθ : θ[i]? = some p := by rw [List.getElem?_eq_getElem hi, e]
      have h2 : (smallMap θ ρ)[i]? = some F := by rw [smallMap_get r h, hθ]; exact hF
      obtain ⟨F', hF', l⟩ := hs.goes i F h2
      have := gbyE i F' hF'
      rw [show f i = p from rid_old hθ] at this
      exact ⟨F', this, l⟩
    · refine ⟨F, ?_, Lo.refl F⟩
      show (layMap θ ρc' ρ ++ _)[p]? = _
      rw [List.getElem?_append_left (by rw [hll]; exact hp), layMap_other θ ρc' ρ p hm]
      exact hF
  have hlaylen : (lay f θ Hc' H).length = H.length := lay_length f θ Hc' H
  -- entries of the great heap
  have hget : ∀ (p : Nat) (b : Blk D), (lift θ Hc' H)[p]? = some (some b) →
      (p ∉ θ ∧ p < H.length ∧ H[p]? = some (some b)) ∨ ∃ i bc, Hc'[i]? = some (some bc) ∧ p = f i ∧ b = renB f bc ∧ (i < θ.length → θ[i]? = some p) ∧ (θ.length ≤ i → H.length ≤ p ∧ p = H.length + (i - θ.length)) := by
    intro p b hp
    unfold lift at hp
    rcases Nat.lt_or_ge p H.length with hlt | hge
    · rw [List.getElem?_append_left (by rw [hlaylen]; exact hlt)] at hp
      by_cases hm : p ∈ θ
      · obtain ⟨i, hi, e⟩ := List.getElem_of_mem hm
        have hθ : θ[i]? = some p := by rw [List.getElem?_eq_getElem hi, e]
        have hic : i < Hc'.length := by omega
        have := lay_at f θ Hc' H h.inj h.lt i p _ hθ (List.getElem?_eq_getElem hic)
        rw [this] at hp
        cases hx : Hc'[i] with
        | none => rw [hx] at hp; simp at hp
        | some bc =>
          rw [hx] at hp
          simp at hp
          exact .inr ⟨i, bc, by rw [List.getElem?_eq_getElem hic, hx], (rid_old hθ).symm, hp.symm, fun _ => hθ, fun hh => by omega⟩
      · rw [lay_other f θ Hc' H p hm] at hp
        exact .inl ⟨hm, hlt, hp⟩
    · rw [List.getElem?_append_right (by rw [hlaylen]; exact hge), hlaylen, renH_get, List.getElem?_drop] at hp
      cases hx : Hc'[θ.length + (p - H.length)]? with
      | none => rw [hx] at hp; cases hp
      | some o =>
        cases o with
        | none => rw [hx] at hp; simp at hp
        | some bc =>
          rw [hx] at hp
          simp at hp
          have hlt := (List.getElem?_eq_some_iff.1 hx).1
          refine .inr ⟨_, bc, hx, ?_, hp.symm, fun hh => by omega, fun _ => ⟨hge, by omega⟩⟩
          show p = f _
          rw [show f (θ.length + (p - H.length)) = H.length + (θ.length + (p - H.length) - θ.length) from rid_new (by omega) (by omega)]
          omega
  have hmap : ∀ (p : Nat) (F : Nat → Loc), p ∉ θ → p < H.length → ρ'[p]? = some F → ρ[p]? = some F := by
    intro p F hm hlt hp
    have hp' : (layMap θ ρc' ρ ++ ρc'.drop θ.length)[p]? = some F := hp
    rw [List.getElem?_append_left (by rw [hll]; exact hlt), layMap_other θ ρc' ρ p hm] at hp'
    exact hp'
  have hmapc : ∀ (i : Nat) (bc : Blk D) (F : Nat → Loc), Hc'[i]? = some (some bc) → ρ'[f i]? = some F → ρc'[i]? = some F := by
    intro i bc F hb hF
    obtain ⟨F', hF'⟩ := hs.rel.mapAt hb
    have := gbyE i F' hF'
    rw [hF] at this
    cases this
    exact hF'
  -- ours in the small heap is ours in the great one
  have hown : ∀ (s k : Nat), ownR (smallMap θ ρ) Hc s k → ownR ρ H (lowOf H.length (θ.drop s)) k := by
    rintro s k ⟨i, b, F, idx, h1, h2, h3, h4, h5, h6⟩
    have hi : i < θ.length := by rw [h.len]; exact (List.getElem?_eq_some_iff.1 h2).1
    have hθ : θ[i]? = some θ[i] := List.getElem?_eq_getElem hi
    obtain ⟨b1, e1, k1⟩ := h.same i _ b hθ h2
    refine ⟨θ[i], b1, F, idx, ?_, e1, by rw [k1.own, renB_own]; exact h3, (k1.live _).1 ((renB_live _ _ _).2 h4), ?_, h6⟩
    · refine lowOf_le _ _ _ ?_
      have : (θ.drop s)[i - s]? = some θ[i] := by rw [List.getElem?_drop, show s + (i - s) = i by omega]; exact hθ
      exact List.mem_of_getElem? this
    · rw [smallMap_get r h, hθ] at h5; exact h5
  -- an entry beside is untouched
  have hfar : ∀ (p : Nat) (b : Blk D) (F : Nat → Loc) (idx : Nat), p ∉ θ → H[p]? = some (some b) → ρ[p]? = some F → b.live idx → ∀ (s k : Nat), (F idx).foot k → ¬ ownR (smallMap θ ρ) Hc s k := by
    rintro p b F idx hm hb hF hl s k hk ⟨i, bc, Fc, ic, h1, h2, h3, h4, h5, h6⟩
    have hi : i < θ.length := by rw [h.len]; exact (List.getElem?_eq_some_iff.1 h2).1
    have hθ : θ[i]? = some θ[i] := List.getElem?_eq_getElem hi
    rw [smallMap_get r h, hθ] at h5
    obtain ⟨b1, e1, k1⟩ := h.same i _ bc hθ h2
    refine r.apart θ[i] b1 Fc ic p b F idx e1 h5 ((k1.live _).1 ((renB_live _ _ _).2 h4)) (by rw [k1.own, renB_own]; exact h3) hb hF hl ?_ k h6 hk
    intro e
    simp only [Prod.mk.injEq] at e
    exact hm (by rw [← e.1]; exact List.getElem_mem hi)
  refine ⟨ρ', gby, gold, ⟨?_, ?_, ?_⟩, ?_, ?_, ?_, ?_⟩
  · -- lengths
    have hrl : ∀ l : Heap D, (renH f l).length = l.length := by
      intro l
      induction l with
      | nil => rfl
      | cons b l ih => cases b <;> simp [renH, ih]
    simp only [ρ', lift, List.length_append, List.length_drop, hll, hs.rel.len]
    rw [lay_length, hrl, List.length_drop]
  · -- each entry
    intro p b F idx hb hF
    rcases hget p b hb with ⟨hm, hlt, hb'⟩ | ⟨i, bc, hbc, rfl, rfl, _, _⟩
    · have hF' := hmap p F hm hlt hF
      refine (r.at_ p b F idx hb' hF').keep gold hs.ext.size fun hl k hk => ?_
      exact hs.ext.block k (r.lt hb' hF' hl hk) (hfar p b F idx hm hb' hF' hl low k hk)
    · exact (hs.rel.at_ i bc F idx hbc (hmapc i bc F hbc hF)).ren gby
  · -- apart
    intro p b F idx p' b' F' idx' hb hF hl ho hb' hF' hl' hne k hk hk'
    rcases hget p b hb with ⟨hm, hlt, hb1⟩ | ⟨i, bc, hbc, rfl, rfl, hiθ, hiN⟩ <;> rcases hget p' b' hb' with ⟨hm', hlt', hb1'⟩ | ⟨i', bc', hbc', rfl, rfl, hiθ', hiN'⟩
    · exact r.apart p b F idx p' b' F' idx' hb1 (hmap p F hm hlt hF) hl ho hb1' (hmap p' F' hm' hlt' hF') hl' hne k hk hk'
    · -- beside, and small
      have hF1 := hmap p F hm hlt hF
      have hFc := hmapc i' bc' F' hbc' hF'
      have hlc := (renB_live _ _ _).1 hl'
      have hkw := r.lt hb1 hF1 hl hk
      by_cases hoc : bc'.own = true
      · rcases hs.owned 0 k ⟨i', bc', F', idx', Nat.zero_le _, hbc', hoc, hlc, hFc, hk'⟩ with h1 | h1
        · omega
        · exact hfar p b F idx hm hb1 hF1 hl _ k hk h1
      · -- read alone: it was so before
        rcases Nat.lt_or_ge i' Hc.length with hlt' | hge'
        · obtain ⟨b0, e0, o0, l0, f0⟩ := hs.old i' bc' hlt' hbc'
          obtain ⟨F0, hF0⟩ := rc.mapAt e0
          have e2 := f0 (by simpa using hoc) F0 F' hF0 hFc
          subst e2
          have hi' : i' < θ.length := by rw [h.len]; exact hlt'
          have hθ' := hiθ' hi'
          rw [smallMap_get r h, hθ'] at hF0
          obtain ⟨b1, e1, k1⟩ := h.same i' _ b0 hθ' e0
          exact r.apart p b F idx _ b1 F' idx' hb1 hF1 hl ho e1 hF0 ((k1.live _).1 ((renB_live _ _ _).2 (l0 _ hlc))) hne k hk hk'
        · exact hoc (hs.mine i' bc' hge' hbc')
    · -- small, and beside
      have hF1' := hmap p' F' hm' hlt' hF'
      have hFc := hmapc i bc F hbc hF
      have hlc := (renB_live _ _ _).1 hl
      have hoc : bc.own = true := by rw [← renB_own f]; exact ho
      have hkw := r.lt hb1' hF1' hl' hk'
      rcases hs.owned 0 k ⟨i, bc, F, idx, Nat.zero_le _, hbc, hoc, hlc, hFc, hk⟩ with h1 | h1
      · omega
      · exact hfar p' b' F' idx' hm' hb1' hF1' hl' _ k hk' h1
    · -- both small
      have hFc := hmapc i bc F hbc hF
      have hFc' := hmapc i' bc' F' hbc' hF'
      refine hs.rel.apart i bc F idx i' bc' F' idx' hbc hFc ((renB_live _ _ _).1 hl) (by rw [← renB_own f]; exact ho) hbc' hFc' ((renB_live _ _ _).1 hl') ?_ k hk hk'
      intro e
      simp only [Prod.mk.injEq] at e
      obtain ⟨rfl, rfl⟩ := e
      exact hne rfl
  · exact hs.ext.mono fun k _ => hown low k
  · -- what is ours
    rintro p k ⟨b, F, idx, h2, h3, h4, h5, h6⟩
    rcases hget p b h2 with ⟨hm, hlt, hb1⟩ | ⟨i, bc, hbc, rfl, rfl, hiθ, hiN⟩
    · exact .inr (.inr ⟨b, F, idx, hb1, h3, h4, hmap p F hm hlt h5, h6⟩)
    · have hFc := hmapc i bc F hbc h5
      rcases hs.each i k ⟨bc, F, idx, hbc, by rw [← renB_own f]; exact h3, (renB_live _ _ _).1 h4, hFc, h6⟩ with h7 | h7 | ⟨b0, F0, ic, a2, a3, a4, a5, a6⟩
      · exact .inl h7
      · exact .inr (.inl (hown low k h7))
      · refine .inr (.inr ?_)
        have hi0 : i < θ.length := by rw [h.len]; exact (List.getElem?_eq_some_iff.1 a2).1
        obtain ⟨b1, e1, k1⟩ := h.same i _ b0 (hiθ hi0) a2
        rw [smallMap_get r h, hiθ hi0] at a5
        exact ⟨b1, F0, ic, e1, by rw [k1.own, renB_own]; exact a3, (k1.live _).1 ((renB_live _ _ _).2 a4), a5, a6⟩
  · intro p b' hp hb
    rcases hget p b' hb with ⟨hm, hlt, hb1⟩ | ⟨i, bc, hbc, rfl, rfl, hiθ, hiN⟩
    · refine ⟨b', hb1, rfl, fun _ h => h, fun _ F F' hF hF' => ?_⟩
      have := hmap p F' hm hlt hF'
      rw [hF] at this
      cases this
      rfl
    · have hi : i < θ.length := by
        rcases Nat.lt_or_ge i θ.length with hi | hi
        · exact hi
        · have := (hiN hi).1; omega
      obtain ⟨b0, e0, o0, l0, f0⟩ := hs.old i bc (by rw [← h.len]; exact hi) hbc
      obtain ⟨b1, e1, k1⟩ := h.same i _ b0 (hiθ hi) e0
      refine ⟨b1, e1, by rw [renB_own, k1.own, renB_own]; exact o0, fun idx hl => (k1.live _).1 ((renB_live _ _ _).2 (l0 idx ((renB_live _ _ _).1 hl))), fun ho F F' hF hF' => ?_⟩
      have hFc := hmapc i bc F' hbc hF'
      refine f0 (by rw [← renB_own f]; exact ho) F F' ?_ hFc
      rw [smallMap_get r h, hiθ hi]; exact hF
  · intro p b' hp hb
    rcases hget p b' hb with ⟨hm, hlt, hb1⟩ | ⟨i, bc, hbc, rfl, rfl, hiθ, hiN⟩
    · omega
    · have hi : Hc.length ≤ i := by
        rcases Nat.lt_or_ge i θ.length with hi | hi
        · have := h.lt i _ (hiθ hi); omega
        · rw [← h.len]; exact hi
      rw [renB_own]; exact hs.mine i bc hi hbc
end
end
end Go.Proofs.Ytnoonoghemgbbaa.Sx

/-
  A symbolic evaluator over the model's code: part 16: summaries of functions, each over a small heap.
-/
set_option linter.unusedVariables false
set_option linter.unusedSimpArgs false
namespace Go.Proofs.Ytnoonoghemgbbaa.Sx
open Go
noncomputable section

section
variable {D : Type}

/-- What one call does over one heap. -/
def CanOk (P : Program) (f : FuncId) (H : Heap D) (args : List AV) (v : AV) (H' : Heap D) (low : Nat) : Prop :=
  ∀ ρ w (as : Array Value), Rel ρ H w → All2 (RV ρ) args as.toList → Calls P f as w fun e w' => ∃ r ρ', e = .returned r ∧ Step ρ H w low ρ' H' w' ∧ RV ρ' v r

theorem Valid.can {P : Program} {f : FuncId} {s : Sum D} (hs : Valid P f s) {args : List AV} {H H' : Heap D} {dec d : Dec} {p : VC} {v : AV} {low : Nat} (h : s args H dec = some (p, v, H', low, d)) (hp : VC.ok p) : CanOk P f H args v H' low :=
  fun ρ w as r ha => hs args H dec p v H' low d h hp ρ w as r ha

theorem CanOk.low {P : Program} {f : FuncId} {H H' : Heap D} {args : List AV} {v : AV} {low low' : Nat} (h : CanOk P f H args v H' low) (hl : low' ≤ low) : CanOk P f H args v H' low' :=
  fun ρ w as r ha => (h ρ w as r ha).mono fun _ _ ⟨r, ρ', e, hs, hr⟩ => ⟨r, ρ', e, hs.mono hl, hr⟩

/-- One way that a call may go: under a condition; the result; the small heap behind it; the lowest block that is touched. -/
structure Way (D : Type) where
  cond : VC
  go : Bool
  v : AV
  H : Heap D
  low : Nat

def mkSum {π : Type} (find : List AV → Heap D → Option (List Nat × π)) (ways : π → List (Way D)) : Sum D := fun args H dec =>
  match find args H with
  | some (θ, x) => match Nat.ble H.length 1000000000, dec with
    | true, k :: d => match (ways x)[k]? with
      | some y => match Nat.ble y.H.length 1000000000 with
        | true => some (y.cond, renV (rid θ H.length) y.v, lift θ y.H H, lowOf H.length (θ.drop y.low), d)
        | false => none
      | none => none
    | _, _ => none
  | none => none

theorem mkSum_valid {P : Program} {f : FuncId} {π : Type} {find : List AV → Heap D → Option (List Nat × π)} {ways : π → List (Way D)} (hc : π → Heap D) (ac : π → List AV)
    (hfind : ∀ args H θ x, H.length ≤ 1000000000 → find args H = some (θ, x) → Part θ (hc x) H ∧ ∀ ρ (as : List Value), All2 (RV ρ) args as → All2 (RV ρ) ((ac x).map (renV (rid θ H.length))) as)
    (hways : ∀ (x : π) (k : Nat) (y : Way D), (ways x)[k]? = some y → VC.ok y.cond → CanOk P f (hc x) (ac x) y.v y.H y.low) : Valid P f (mkSum find ways) := by
  intro args H dec p v H' low d h hp ρ w as r ha
  unfold mkSum at h
  split at h
  · rename_i θ x hf
    split at h
    · rename_i k d' hb
      have hfew : H.length ≤ 1000000000 := Nat.le_of_ble_eq_true hb
      obtain ⟨hpart, hargs⟩ := hfind args H θ x hfew hf
      split at h
      · rename_i y hy
        split at h
        · rename_i hb2
          simp only [Option.some.injEq, Prod.mk.injEq] at h
          obtain ⟨rfl, rfl, rfl, rfl, rfl⟩ := h
          have ha' := All2.unmap_left (f := renV (rid θ H.length)) (R := RV (smallMap θ ρ)) (fun a b => RV.unren (small_unren r hpart)) (hargs ρ as.toList ha)
          refine (hways x k y hy hp (smallMap θ ρ) w as (hpart.rel r) ha').mono ?_
          rintro e w' ⟨rv, ρc', rfl, hs, hr⟩
          obtain ⟨ρ', g, hs'⟩ := hpart.step r hs (Nat.le_of_ble_eq_true hb2)
          exact ⟨rv, ρ', rfl, hs', hr.ren g⟩
        · cases h
      · cases h
    · cases h
  · cases h

/-- The small heap is a part, entry by entry. -/
theorem Part.of {θ : List Nat} {Hc H : Heap D} (len : θ.length = Hc.length) (few : H.length ≤ 1000000000) (nodup : θ.Nodup)
    (all : ∀ (i j : Nat) (b : Option (Blk D)), θ[i]? = some j → Hc[i]? = some b → j < H.length ∧ ∀ b0, b = some b0 → ∃ b', H[j]? = some (some b') ∧ Weak b' (renB (rid θ H.length) b0)) : Part θ Hc H := by
  refine ⟨len, ?_, ?_, ?_, few⟩
  · intro i j hj
    have hi : i < Hc.length := by rw [← len]; exact (List.getElem?_eq_some_iff.1 hj).1
    exact (all i j _ hj (List.getElem?_eq_getElem hi)).1
  · intro i i' j h1 h2
    obtain ⟨a1, b1⟩ := List.getElem?_eq_some_iff.1 h1
    obtain ⟨a2, b2⟩ := List.getElem?_eq_some_iff.1 h2
    exact (List.getElem_inj nodup).1 (b1.trans b2.symm)
  · intro i j b h1 h2
    exact (all i j _ h1 h2).2 b rfl

theorem Part.nil {H : Heap D} (few : H.length ≤ 1000000000) : Part [] [] H :=
  Part.of rfl few List.nodup_nil fun i j b h => by simp at h

theorem Part.one {j : Nat} {b : Blk D} {H : Heap D} (few : H.length ≤ 1000000000) {b' : Blk D} (hb : H[j]? = some (some b')) (hw : Weak b' (renB (rid [j] H.length) b)) : Part [j] [some b] H :=
  Part.of rfl few (by simp) fun i k c h1 h2 => by
    cases i with
    | zero =>
      simp at h1 h2
      subst h1 h2
      exact ⟨(List.getElem?_eq_some_iff.1 hb).1, fun b0 e => by cases e; exact ⟨b', hb, hw⟩⟩
    | succ i => simp at h1

theorem Part.two {j k : Nat} {b c : Blk D} {H : Heap D} (few : H.length ≤ 1000000000) (hne : j ≠ k) {b' c' : Blk D} (hb : H[j]? = some (some b')) (hw : Weak b' (renB (rid [j, k] H.length) b))
    (hb2 : H[k]? = some (some c')) (hw2 : Weak c' (renB (rid [j, k] H.length) c)) : Part [j, k] [some b, some c] H :=
  Part.of rfl few (by simp [hne]) fun i m x h1 h2 => by
    match i, h1, h2 with
    | 0, h1, h2 =>
      simp at h1 h2
      subst h1 h2
      exact ⟨(List.getElem?_eq_some_iff.1 hb).1, fun b0 e => by cases e; exact ⟨b', hb, hw⟩⟩
    | 1, h1, h2 =>
      simp at h1 h2
      subst h1 h2
      exact ⟨(List.getElem?_eq_some_iff.1 hb2).1, fun b0 e => by cases e; exact ⟨c', hb2, hw2⟩⟩
    | i + 2, h1, h2 => simp at h1

/-- Cells that are whole numbers, said as numbers. -/
theorem Weak.ints {own : Bool} {num : Nat} {c : Nat → Cont} {k : IntKind} {l : List Int} {cs : List Cell} (hc : ∀ i, i < num → c i = .raw cs) (h : colInts k cs = some l) : Weak (D := D) (.cells own num c) (.cells own num fun _ => .ints k l) := by
  refine ⟨rfl, fun _ => Iff.rfl, ?_⟩
  intro ρ w L idx hb hi
  obtain ⟨h0, h1, h2, h3, h4⟩ := hb hi
  rw [hc idx hi] at h1 h3 h4
  have e := colInts_len h
  refine ⟨trivial, fun hl => h1 (by simpa [Cont.len, ← e] using hl), h2, fun j x hx => h3 j x (colInts_at h hx), fun ho => ?_⟩
  obtain ⟨g1, g2, g3⟩ := h4 ho
  exact ⟨g1, by simpa [Cont.len, e] using g2, g3⟩

/-- The same, of a call that turns no memory. -/
structure QWay where
  cond : VC
  go : Bool
  v : AV

/-- A call that turns no memory, and is handed no address. -/
def quietSum (g : List AV → Option (List QWay)) : Sum D := fun args H dec =>
  match g args, dec with
  | some l, k :: d => match l[k]? with
    | some y => some (y.cond, y.v, H, H.length, d)
    | none => none
  | _, _ => none


def flatC : Cell → Bool
  | .bool _ => true
  | .int _ _ => true
  | .str _ => true
  | .nilFunc => true
  | .func _ [] => true
  | .ptr true _ _ _ => true
  | .slice true _ _ _ _ _ _ => true
  | .map true _ _ => true
  | .empty => true
  | .anyp => true
  | _ => false
def flatL : List Cell → Bool
  | [] => true
  | c :: l => flatC c && flatL l
def flat1 : AV1 → Bool
  | .cell c => flatC c
  | .agg cs => flatL cs
def flatL1 : List AV1 → Bool
  | [] => true
  | c :: l => flat1 c && flatL1 l
def flatV : AV → Bool
  | .cell c => flatC c
  | .agg cs => flatL cs
  | .tup l => flatL1 l
  | .junk => true

theorem RC.flatten {ρ ρ' : Map} {c : Cell} {v : Value} (hf : flatC c = true) (h : RC ρ c v) : RC ρ' c v := by
  unfold flatC at hf
  split at hf
  · exact h
  · exact h
  · exact h
  · exact h
  · obtain ⟨vs, e, hh⟩ := h
    cases vs with
    | nil => exact ⟨[], e, trivial⟩
    | cons _ _ => exact hh.elim
  · rcases h with h | ⟨h, _⟩
    · exact .inl h
    · cases h
  · rcases h with h | ⟨h, _⟩
    · exact .inl h
    · cases h
  · rcases h with h | ⟨h, _⟩
    · exact .inl h
    · cases h
  · exact h
  · exact h
  · cases hf

theorem RL.flatten {ρ ρ' : Map} : ∀ {cs : List Cell} {vs : List Value}, flatL cs = true → All2 (RC ρ) cs vs → All2 (RC ρ') cs vs
  | [], [], _, _ => trivial
  | c :: cs, v :: vs, hf, ⟨h1, h2⟩ => by
    simp only [flatL, Bool.and_eq_true] at hf
    exact ⟨RC.flatten hf.1 h1, RL.flatten hf.2 h2⟩
  | [], _ :: _, _, h => h.elim
  | _ :: _, [], _, h => h.elim

theorem R1.flatten {ρ ρ' : Map} {c : AV1} {v : Value} (hf : flat1 c = true) (h : R1 ρ c v) : R1 ρ' c v := by
  cases c with
  | cell c => exact RC.flatten hf h
  | agg cs => obtain ⟨vs, e, h⟩ := h; exact ⟨vs, e, RL.flatten hf h⟩

theorem RL1.flatten {ρ ρ' : Map} : ∀ {cs : List AV1} {vs : List Value}, flatL1 cs = true → All2 (R1 ρ) cs vs → All2 (R1 ρ') cs vs
  | [], [], _, _ => trivial
  | c :: cs, v :: vs, hf, ⟨h1, h2⟩ => by
    simp only [flatL1, Bool.and_eq_true] at hf
    exact ⟨R1.flatten hf.1 h1, RL1.flatten hf.2 h2⟩
  | [], _ :: _, _, h => h.elim
  | _ :: _, [], _, h => h.elim

theorem RV.flatten {ρ ρ' : Map} {c : AV} {v : Value} (hf : flatV c = true) (h : RV ρ c v) : RV ρ' c v := by
  cases c with
  | cell c => exact RC.flatten hf h
  | agg cs => obtain ⟨vs, e, h⟩ := h; exact ⟨vs, e, RL.flatten hf h⟩
  | tup l => obtain ⟨vs, e, h⟩ := h; exact ⟨vs, e, RL1.flatten hf h⟩
  | junk => trivial

def flatVs : List AV → Bool
  | [] => true
  | c :: l => flatV c && flatVs l

theorem RVs.flatten {ρ ρ' : Map} : ∀ {cs : List AV} {vs : List Value}, flatVs cs = true → All2 (RV ρ) cs vs → All2 (RV ρ') cs vs
  | [], [], _, _ => trivial
  | c :: cs, v :: vs, hf, ⟨h1, h2⟩ => by
    simp only [flatVs, Bool.and_eq_true] at hf
    exact ⟨RV.flatten hf.1 h1, RVs.flatten hf.2 h2⟩
  | [], _ :: _, _, h => h.elim
  | _ :: _, [], _, h => h.elim

theorem Rel.nil (w : World) : Rel ([] : Map) ([] : Heap D) w :=
  ⟨rfl, fun id b F idx h => by simp at h, fun id b F idx id' b' F' idx' h => by simp at h⟩

/-- Nothing that was there has turned: the heap stands as it did. -/
theorem Step.still {ρ : Map} {H : Heap D} {w w' : World} (r : Rel ρ H w) (h : Ext w w' fun _ => False) : Step ρ H w H.length ρ H w' := by
  refine Step.make r (GoesE.refl ρ) ⟨r.len, ?_, r.apart⟩ (h.mono fun _ _ h => h.elim) (fun k o => (ownR.none o).elim) (fun id b' _ h => ⟨b', h, rfl, fun _ h => h⟩) (fun id b' hge hb => by have := (List.getElem?_eq_some_iff.1 hb).1; omega)
  intro id b F idx hb hF
  exact (r.at_ id b F idx hb hF).keep (Goes.refl ρ) h.size fun hl k hk => h.block k (r.lt hb hF hl hk) fun h => h

theorem quietSum_valid {P : Program} {f : FuncId} {g : List AV → Option (List QWay)} (hflat : ∀ args l, g args = some l → flatVs args = true)
    (h : ∀ args l (k : Nat) (y : QWay), g args = some l → l[k]? = some y → VC.ok y.cond → flatV y.v = true ∧ ∃ Hg low, CanOk P f ([] : Heap D) args y.v Hg low) : Valid P f (quietSum (D := D) g) := by
  intro args H dec p v H' low d hs hp ρ w as r ha
  unfold quietSum at hs
  split at hs
  · rename_i l k d' hg
    split at hs
    · rename_i u hy
      simp only [Option.some.injEq, Prod.mk.injEq] at hs
      obtain ⟨rfl, rfl, rfl, rfl, rfl⟩ := hs
      obtain ⟨hfv, Hg, low, hcan⟩ := h args l k u hg hy hp
      refine (hcan [] w as (Rel.nil w) (RVs.flatten (hflat args l hg) ha)).mono ?_
      rintro e w' ⟨rv, ρ', rfl, hst, hr⟩
      refine ⟨rv, ρ, rfl, Step.still r (hst.ext.mono ?_), RV.flatten hfv hr⟩
      rintro k _ ⟨id, b, F, idx, _, hb, _⟩
      simp at hb
    · cases hs
  · cases hs
end
end
end Go.Proofs.Ytnoonoghemgbbaa.Sx
