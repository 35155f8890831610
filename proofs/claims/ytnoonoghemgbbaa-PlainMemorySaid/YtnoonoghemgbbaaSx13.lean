/-
  A symbolic evaluator over the model's code: part 13: regions, code and calls: what the evaluator says the model does.
-/
import Derived.Test.YtnoonoghemgbbaaSx12
import Derived.LoopNIn
import Derived.OrdersIn
import Derived.RangeFuncLeaves
import Derived.RangeFuncRecord
import Derived.RangeFuncSeq
set_option linter.unusedVariables false
set_option linter.unusedSimpArgs false
namespace Go.Proofs.Ytnoonoghemgbbaa.Sx
open Go

theorem ok_app {p q : VC} : VC.ok (p ++ q) ↔ VC.ok p ∧ VC.ok q := by
  induction p with
  | nil => simp [VC.ok]
  | cons x p ih => simp [VC.ok, ih, and_assoc]

theorem intBin_easy {op : BinOp} {k : IntKind} {x y : Int} {p : Cd} {c : Cell} (h : intBin op k x y = some (p, c)) (h1 : op ≠ .quo) (h2 : op ≠ .rem) : p := by
  cases op <;> simp only [intBin, Option.some.injEq, Prod.mk.injEq, reduceCtorEq] at h <;> first
    | exact absurd rfl h1
    | exact absurd rfl h2
    | (rw [← h.1]; trivial)

theorem eqlNil_easy {op : BinOp} {b : Bool} {p : Cd} {c : Cell} (h : eqlNil op b = some (p, c)) : p := by
  cases op <;> simp only [eqlNil, Option.some.injEq, Prod.mk.injEq, reduceCtorEq] at h <;> (rw [← h.1]; trivial)

theorem binA_easy {P : Program} {op : BinOp} {ty : TypeId} {a b c : Cell} {p : Cd} (h : binA P op ty a b = some (p, c)) (h1 : op ≠ .quo) (h2 : op ≠ .rem) (h3 : op ≠ .shl) (h4 : op ≠ .shr) (h5 : op ≠ .add) : p := by
  unfold binA at h
  try simp only [nth_eq, setL_eq, und_eq, inf_eq] at h
  split at h
  · split at h
    · rename_i hs
      cases op <;> first
        | exact absurd rfl h3
        | exact absurd rfl h4
        | cases hs
    · split at h
      · exact intBin_easy h h1 h2
      · cases h
  · cases op <;> simp only [strBin, Option.some.injEq, Prod.mk.injEq, reduceCtorEq] at h <;> first
      | exact absurd rfl h5
      | (rw [← h.1]; trivial)
  · split at h
    · split at h
      · cases h; trivial
      · cases h; trivial
      · cases h
    · cases h
  all_goals first
    | (split at h
       · exact eqlNil_easy h
       · cases h)
    | cases h

theorem easy_ok {D : Type} {P : Program} {H : Heap D} {t : List AV} {dec d : Dec} {op : Op} {p : Cd} {v : AV} (h : pureA P H t dec op = some (p, v, d)) (hp : VC.ok (vcOf op p)) : p := by
  unfold vcOf at hp
  cases he : easy op with
  | false => rw [he] at hp; exact hp.1
  | true =>
    cases op <;> simp only [pureA, nth_eq, und_eq, inf_eq, reduceCtorEq] at h <;> try (cases he; done)
    case move x => split at h <;> first | (cases h; trivial) | cases h
    case assign x => split at h <;> first | (cases h; trivial) | cases h
    case binOp bop ty x y yt =>
      split at h
      · split at h
        · rename_i hb
          cases h
          refine binA_easy hb ?_ ?_ ?_ ?_ ?_ <;> (intro e; subst e; cases he)
        · cases h
      · cases h
    case unOp uop ty x =>
      split at h
      · split at h <;> first | (cases h; trivial) | cases h
      · cases h
    case convert s e x =>
      split at h
      · split at h <;> first | (cases h; trivial) | cases h
      · cases h
    case extract x i =>
      split at h
      · split at h <;> first | (cases h; trivial) | cases h
      · cases h
    case makeFunc fn first caps =>
      cases fn <;> simp only [pureA, nth_eq, und_eq, inf_eq, reduceCtorEq] at h
      split at h <;> first | (cases h; trivial) | cases h
    case field ty x f =>
      split at h
      · split at h
        · split at h <;> first | (cases h; trivial) | cases h
        · cases h
      · cases h
    case build ty ps => split at h <;> first | (cases h; trivial) | cases h
    case call c =>
      split at h
      · split at h
        · split at h
          · split at h <;> first | (cases h; trivial) | cases h
          · cases h
        · cases h
      · split at h
        · split at h <;> first | (cases h; trivial) | cases h
        · cases h
      · split at h
        · split at h <;> first | (cases h; trivial) | cases h
        · cases h
      · cases h

theorem easyM_ok {D : Type} {P : Program} {H H' : Heap D} {t : List AV} {dec d : Dec} {op : Op} {p : Cd} {v : AV} {l : Nat} (h : memA P H t dec op = some (p, v, H', l, d)) (hp : VC.ok (vcOfM op p)) : p := by
  unfold vcOfM at hp
  cases he : easyM op with
  | false => rw [he] at hp; exact hp.1
  | true =>
    cases op <;> simp only [memA, nth_eq, setL_eq, und_eq, inf_eq, reduceCtorEq] at h <;> try (cases he; done)
    case alloc e => split at h <;> first | (cases h; trivial) | cases h
    case box e x => split at h <;> first | (cases h; trivial) | cases h

section
variable {D : Type}

/-- Every activation; or a round of the loop r. -/
def Fr (r : Option Nat) : Fence := { fn := fun _ => True, depth := none, alive := false, round := r }

theorem callsFr {r : Option Nat} {n : Nat} {P : Program} {f : FuncId} {as : Array Value} {w : World} {R : Ending → World → Prop} (h : Calls P f as w R) : CallsIn (Fr r) n P f as w R := (callsIn_wide (n := n)).2 h

theorem rowsFr {r : Option Nat} {n : Nat} {P : Program} {row : String} {as : Array Value} {w : World} {R : Value → World → Prop} (h : Rows P row as w R) : RowsIn (Fr r) n P row as w R :=
  fun c cs _ => let ⟨v, w', hr, hs⟩ := h c cs; ⟨v, w', hr, stepsIn_wide.2 hs⟩

/-- What an operation does, it does within a round, too. -/
theorem wp_in {q : Option Nat} {P : Program} {o : Oper} {a : Act} {w : World} {K : Act → World → Prop} {Q : Exit → Act → World → Prop} (hnd : ∀ c, o.op ≠ .defer c) (h : o.wp P a w K Q) : o.wpIn (Fr q) 0 P a w K Q := by
  refine ⟨fun _ _ => trivial, ?_⟩
  rw [Oper.semAt_eq _ _ _ hnd]
  unfold Oper.wp at h
  generalize (execOp a.eval o).run P w = res at *
  cases res with
  | ok x w' =>
    cases x <;> simp only [Oper.upon, Oper.uponIn] at h ⊢ <;> first
      | exact h
      | exact ⟨fun h => Bool.noConfusion h, (callsFr h).mono fun e w'' he => by cases e <;> exact he⟩
      | exact ⟨fun h => Bool.noConfusion h, rowsFr h⟩
  | halt x w' => cases x <;> simp only [Oper.upon, Oper.uponIn] at h ⊢ <;> exact h

/-- The calls that are put off till the end: marks of loops over functions alone. -/
def DefOk (B : Nat) (w : World) (ds : List Deferred) : Prop :=
  B ≤ w.heap.size ∧ ∃ bs : List Nat, ds = bs.map (fun b => ({ target := .collected b, args := #[] } : Deferred)) ∧ bs.Nodup ∧ ∀ b ∈ bs, B ≤ b ∧ w.heap[b]? = some (.deferred (some []))

theorem DefOk.nil (w : World) : DefOk w.heap.size w [] := ⟨Nat.le_refl _, [], rfl, List.nodup_nil, fun b h => by cases h⟩

theorem not_own {ρ : Map} {H : Heap D} {w : World} (r : Rel ρ H w) {k s : Nat} {d : Option (List Deferred)} (h : w.heap[k]? = some (.deferred d)) : ¬ ownR ρ H s k := by
  have cell : ∀ {ρ : Map} {L : Loc} {c : Cont}, CellsAt ρ w L true c → ¬ L.foot k := by
    intro ρ L c hc hk
    obtain ⟨_, _, _, _, h5⟩ := hc
    obtain ⟨g1, _, cs, e, fr, g3, _⟩ := h5 rfl
    rw [(g1 k).1 hk, g3] at h
    cases h
  rintro ⟨id, b, F, idx, _, hb, ho, hl, hF, hk⟩
  have := r.at_ id b F idx hb hF
  cases b with
  | cells own num c =>
    have ho : own = true := ho
    subst ho
    exact cell (this hl) hk
  | obj o =>
    have hl0 : idx = 0 := hl
    subst hl0
    obtain ⟨h1, _, h3⟩ := this hl
    cases o with
    | map es => rw [(h1 k).1 hk] at h; obtain ⟨arr, clock, g1, _⟩ := h3; rw [g1] at h; cases h
    | iter s pos => rw [(h1 k).1 hk] at h; have h3 : w.heap[(F 0).blk]? = _ := h3; rw [h3] at h; cases h
    | loop st pend => rw [(h1 k).1 hk] at h; have h3 : w.heap[(F 0).blk]? = _ := h3; rw [h3] at h; cases h
    | ab d =>
      obtain ⟨V, ρc, F', _, hown, hs, _, _, h6⟩ := h3
      obtain ⟨i, G, hG, hf⟩ := (h6 k).1 hk
      have hi : i < V.length := by rw [← hs.len]; exact (List.getElem?_eq_some_iff.1 hG).1
      have ho : V[i].1 = true := hown V[i] (List.getElem_mem hi)
      exact cell (hs.at_ i true V[i].2 G (by rw [List.getElem?_eq_getElem hi, ← ho]) hG) hf

theorem DefOk.step {B : Nat} {ρ ρ' : Map} {H H' : Heap D} {w w' : World} {low : Nat} {ds : List Deferred} (h : DefOk B w ds) (r : Rel ρ H w) (hs : Step ρ H w low ρ' H' w') : DefOk B w' ds := by
  obtain ⟨h0, bs, h1, h2, h3⟩ := h
  refine ⟨Nat.le_trans h0 hs.ext.size, bs, h1, h2, fun b hb => ⟨(h3 b hb).1, ?_⟩⟩
  have := (h3 b hb).2
  rw [hs.ext.block b (Array.getElem?_eq_some_iff.1 this).1 (not_own r this)]
  exact this

/-- A function does what a summary says. -/
def Valid (P : Program) (f : FuncId) (s : Sum D) : Prop :=
  ∀ args H dec p v H' low d, s args H dec = some (p, v, H', low, d) → VC.ok p → ∀ ρ w (as : Array Value), Rel ρ H w → All2 (RV ρ) args as.toList →
    Calls P f as w fun e w' => ∃ r ρ', e = .returned r ∧ Step ρ H w low ρ' H' w' ∧ RV ρ' v r

/-- What the rest of a loop over a function is said to do, it does: of loops that ρ0 knows. -/
def YValid (ρ0 : Map) (P : Program) (s : Sum D) : Prop :=
  ∀ args H dec p v H' low d, s args H dec = some (p, v, H', low, d) → VC.ok p → ∀ ρ w (as : List Value), Goes ρ0 ρ → Rel ρ H w → All2 (RV ρ) args as →
    ∃ l o zs, as = .pointer (some ⟨l, o, none⟩) :: zs ∧ YieldAt (Fr none) 0 P l zs.toArray w fun e w' => ∃ r ρ', e = .returned r ∧ Step ρ H w low ρ' H' w' ∧ RV ρ' v r

theorem noY_valid (ρ0 : Map) (P : Program) : YValid ρ0 P (noY : Sum D) := fun _ _ _ _ _ _ _ _ h => by cases h

def Done (B : Nat) (ρ : Map) (H : Heap D) (w : World) (ex : Ex) (t : List AV) (H' : Heap D) (low : Nat) : Exit → Act → World → Prop :=
  fun e a' w' => e = ex.real ∧ DefOk B w' a'.defers ∧ ∃ ρ', Step ρ H w low ρ' H' w' ∧ TR ρ' t a'

theorem Done.notOut {B : Nat} {ρ : Map} {H H' : Heap D} {w : World} {ex : Ex} {t : List AV} {low : Nat} : ¬ LetsOut (Done B ρ H w ex t H' low) := by
  rintro ⟨a, w', h, _⟩
  cases ex <;> cases h

def LValid (P : Program) (body : Code) (s : LSum D) : Prop :=
  ∀ t H dec p ex t' H' low d, s t H dec = some (p, ex, t', H', low, d) → VC.ok p → ∃ m, ∀ (q : Option Nat) (B : Nat) ρ w a, Rel ρ H w → TR ρ t a → DefOk B w a.defers →
    Code.roundsIn (Fr q) 0 P body (Done B ρ H w ex t' H' low) m a w

def DValid (P : Program) (DR : Array Oper → List AV → Heap D → Dec → RR D) : Prop :=
  ∀ id ops t H dec p t' H' low d, DR ops t H dec = some (p, t', H', low, d) → VC.ok p → ∀ (q : Option Nat) (B : Nat) ρ w a, Rel ρ H w → TR ρ t a → DefOk B w a.defers →
    (Code.region id ops true).wpIn (Fr q) 0 P (Done B ρ H w .normal t' H' low) a w

theorem TR.put {ρ : Map} {t : List AV} {a : Act} (h : TR ρ t a) {dst : Option Tmp} {v : AV} {r : Value} (hv : RV ρ v r) : TR ρ (putA t dst v) (a.put dst r) := by
  cases dst with
  | none => exact h
  | some d =>
    show All2 (RV ρ) (setL t d v) (a.tmps.setIfInBounds d r).toList
    rw [Array.toList_setIfInBounds, setL_eq]
    exact All2.set h d hv

theorem TR.goes {ρ ρ' : Map} (g : Goes ρ ρ') {t : List AV} {a : Act} (h : TR ρ t a) : TR ρ' t a := All2.mono (fun _ _ => RV.goes g) h

theorem put_defers (a : Act) (dst : Option Tmp) (v : Value) : (a.put dst v).defers = a.defers := by cases dst <;> rfl

theorem undef_ok {ρ : Map} : RV ρ undefA undef := ⟨[], rfl, trivial⟩

theorem argsA_ok {ρ : Map} {t : List AV} {a : Act} (ht : TR ρ t a) : ∀ {l : List Operand} {m : List AV}, argsA t l = some m → All2 (RV ρ) m (l.map a.eval)
  | [], m, h => by simp [argsA] at h; subst h; trivial
  | x :: l, m, h => by
    unfold argsA at h
    split at h
    · rename_i c m' hc hm
      cases h
      exact ⟨opnd_ok ht hc, argsA_ok ht hm⟩
    · cases h

theorem capsA_ok {ρ : Map} : ∀ {l : List (Nat × Nat × Nat)} {vs : List Value}, All2 (RCap ρ) l vs → All2 (RV ρ) (capsA l) vs
  | [], [], _ => trivial
  | (_, _, _) :: l, v :: vs, ⟨⟨F, hF, e⟩, h2⟩ => ⟨.inr ⟨rfl, F, hF, e⟩, capsA_ok h2⟩
  | [], _ :: _, h => h.elim
  | _ :: _, [], h => h.elim

theorem entersA_ok {P : Program} {w : World} {f : FuncId} (h : entersA P f = true) (args : Array Value) : (callFunc f args).run P w = .ok (.enter f args) w := by
  unfold entersA at h
  try simp only [nth_eq, setL_eq, und_eq, inf_eq] at h
  split at h
  · rename_i fn hf
    rw [Array.getElem?_toList] at hf
    split at h
    · rename_i c hb
      have hn : (fn.name == "runtime.NumGoroutine") = false := by simpa using h
      simp only [callFunc, Sem.run_bind, run_program, Result.andThen_ok, hf, hn, Bool.false_eq_true, if_false, hb, Option.isNone_some]
      rfl
    · cases h
  · cases h

theorem goA_ok {P : Program} {E : FuncId → Sum D} (hE : ∀ f, Valid P f (E f)) {ρ : Map} {H H' : Heap D} {w : World} {t : List AV} {a : Act} (r : Rel ρ H w) (ht : TR ρ t a) {dec d : Dec} {o : Oper} {p : VC} {v : AV} {low : Nat}
    (h : goA P E t H dec o.op = some (p, v, H', low, d)) (hp : VC.ok p) (next : Act → World → Prop) (Q : Exit → Act → World → Prop)
    (hn : ∀ ρ' w' rv, Step ρ H w low ρ' H' w' → RV ρ' v rv → next (a.put o.dst rv) w') : o.wp P a w next Q := by
  obtain ⟨dst, op, type, pos, after, guard⟩ := o
  simp only at h hn
  cases op <;> simp only [goA, reduceCtorEq] at h
  rename_i c
  obtain ⟨callee, args, argTypes⟩ := c
  simp only at h
  split at h
  · rename_i f
    split at h
    · rename_i g caps hc
      split at h
      · rename_i as he ha
        obtain ⟨vs, e, hvs⟩ := cellOf_ok ht hc
        have hrun : (execOp a.eval ⟨dst, .call ⟨.value f, args, argTypes⟩, type, pos, after, guard⟩).run P w = .ok (.enter g ((args.map a.eval) ++ vs.toArray)) w := by
          simp only [execOp, resolve, e, Deferred.ofValue, Sem.run_bind, Sem.run_pure, Result.andThen_ok, invoke]
          rw [Array.empty_append]
          exact entersA_ok he _
        unfold Oper.wp
        rw [hrun]
        refine (hE g _ _ _ _ _ _ _ _ h hp ρ w _ r ?_).mono ?_
        · rw [Array.toList_append, Array.toList_map]
          exact (argsA_ok ht ha).app (capsA_ok hvs)
        · rintro e' w' ⟨rv, ρ', rfl, hs, hr⟩
          exact hn ρ' w' rv hs hr
      · cases h
    · cases h
  · cases h

theorem opD_ok {P : Program} {E : FuncId → Sum D} (hE : ∀ f, Valid P f (E f)) {ρ : Map} {H H' : Heap D} {w : World} {t : List AV} {a : Act} (r : Rel ρ H w) (ht : TR ρ t a) {dec d : Dec} {o : Oper} {p : VC} {v : AV} {low : Nat}
    (h : opD P E t H dec o.op = some (p, v, H', low, d)) (hp : VC.ok p) (next : Act → World → Prop) (Q : Exit → Act → World → Prop)
    (hn : ∀ ρ' w' rv, Step ρ H w low ρ' H' w' → RV ρ' v rv → next (a.put o.dst rv) w') : o.wp P a w next Q := by
  unfold opD at h
  split at h
  · rename_i q u d' hq
    simp only [Option.some.injEq, Prod.mk.injEq] at h
    obtain ⟨rfl, rfl, rfl, rfl, rfl⟩ := h
    obtain ⟨rv, hr, hv⟩ := pureA_ok r ht hq (easy_ok hq hp)
    unfold Oper.wp
    rw [hr]
    exact hn ρ w rv (Step.refl r _) hv
  · split at h
    · rename_i q u H1 l1 d1 hx
      simp only [Option.some.injEq, Prod.mk.injEq] at h
      obtain ⟨rfl, rfl, rfl, rfl, rfl⟩ := h
      obtain ⟨rv, ρ', w', hr, hs, hv⟩ := memA_ok r ht hx (easyM_ok hx hp)
      unfold Oper.wp
      rcases hr with hr | ⟨hr, rfl⟩
      · rw [hr]; exact hn ρ' w' rv hs hv
      · rw [hr]; exact hn ρ' w' undef hs hv
    · exact goA_ok hE r ht h hp next Q hn

theorem opD_notDefer {P : Program} {E : FuncId → Sum D} {t : List AV} {H : Heap D} {dec : Dec} {op : Op} {x : VC × AV × Heap D × Nat × Dec} (h : opD P E t H dec op = some x) (c : Call) : op ≠ .defer c := by
  intro e
  subst e
  simp [opD, pureA, memA, goA] at h

theorem opA_ok {q : Option Nat} {ρ0 : Map} {P : Program} {E : FuncId → Sum D} (hE : ∀ f, Valid P f (E f)) {Y : Sum D} (hY : YValid ρ0 P Y) {ρ : Map} {H H' : Heap D} {w : World} {t : List AV} {a : Act} (g0 : Goes ρ0 ρ) (r : Rel ρ H w) (ht : TR ρ t a) {dec d : Dec} {o : Oper} {p : VC} {v : AV} {low : Nat}
    (h : opA P E Y t H dec o.op = some (p, v, H', low, d)) (hp : VC.ok p) (next : Act → World → Prop) (Q : Exit → Act → World → Prop)
    (hn : ∀ ρ' w' rv, Step ρ H w low ρ' H' w' → RV ρ' v rv → next (a.put o.dst rv) w') : o.wpIn (Fr q) 0 P a w next Q := by
  unfold opA at h
  cases hx : opD P E t H dec o.op with
  | some x =>
    rw [hx] at h
    cases h
    exact wp_in (opD_notDefer hx) (opD_ok hE r ht hx hp next Q hn)
  | none =>
    rw [hx] at h
    clear hx
    obtain ⟨dst, op, type, pos, after, guard⟩ := o
    simp only at h hn
    cases op <;> simp only [yldA, reduceCtorEq] at h
    rename_i c
    obtain ⟨callee, args, argTypes⟩ := c
    simp only at h
    split at h
    · rename_i f
      split at h
      · rename_i id hc
        split at h
        · rename_i as ha
          obtain ⟨F, hF, e⟩ : ∃ F, ρ[id]? = some F ∧ a.eval f = .func (.yield (F 0).blk) #[] #[] := cellOf_ok ht hc
          obtain ⟨l, o', zs, e1, fn, tmps, assign, body, e2, hround⟩ := hY _ _ _ _ _ _ _ _ h hp ρ w (.pointer (some ⟨(F 0).blk, (F 0).sh + 0, none⟩) :: args.toList.map a.eval) g0 r ⟨.inr ⟨rfl, F, hF, rfl⟩, argsA_ok ht ha⟩
          simp only [List.cons.injEq, Value.pointer.injEq, Option.some.injEq, Addr.mk.injEq] at e1
          obtain ⟨⟨rfl, rfl, _⟩, rfl⟩ := e1
          have hz : (args.toList.map a.eval).toArray = args.map a.eval := by
            apply Array.ext'; simp
          rw [hz] at e2
          refine ⟨fun _ _ => trivial, ?_⟩
          rw [Oper.semAt_eq _ _ _ (fun c h => by cases h)]
          have hrun : (execOp a.eval ⟨dst, .call ⟨.value f, args, argTypes⟩, type, pos, after, guard⟩).run P w = .ok (.round (F 0).blk fn tmps assign body) w := by
            simp only [execOp, resolve, e, Deferred.ofValue, Sem.run_bind, Sem.run_pure, Result.andThen_ok, invoke]
            rw [Array.empty_append]
            exact e2
          rw [hrun]
          refine ⟨fun h => Bool.noConfusion h, RoundIn.mono (show RoundIn (Fr q) (0 - 1) P (F 0).blk fn tmps assign body w _ from hround) ?_⟩
          rintro e' w' ⟨rv, ρ', rfl, hs, hr⟩
          exact hn ρ' w' rv hs hr
        · cases h
      · cases h
    · cases h

theorem guardA_ok {ρ : Map} {ops : Array Oper} {t : List AV} {a : Act} (ht : TR ρ t a) {o : Oper} {dec d : Dec} {p : VC} {b : Bool} (h : guardA ops t o dec = some (p, b, d)) (hp : VC.ok p) :
    Region.wanted o (yielded ops a.tmps) = b := by
  unfold guardA at h
  try simp only [nth_eq, setL_eq, und_eq, inf_eq] at h
  unfold Region.wanted
  split at h
  · rename_i hg
    cases h
    rw [hg]
  · rename_i j want hg
    rw [hg]
    simp only
    split at h
    · rename_i oj hoj
      rw [Array.getElem?_toList] at hoj
      split at h
      · rename_i dd hd
        have hy : yielded ops a.tmps j = (match a.tmps[dd]? with | some (.bool b) => some b | _ => none) := by
          unfold yielded
          rw [hoj]
          simp [hd]
          rfl
        split at h
        · rename_i x ds htd
          obtain ⟨v, hv, hr⟩ := All2.get ht htd
          cases hr
          rw [Array.getElem?_toList] at hv
          rw [hy, hv]
          cases h
          simpa using hp.1
        · rename_i x n ds htd
          obtain ⟨v, hv, hr⟩ := All2.get ht htd
          cases hr
          rw [Array.getElem?_toList] at hv
          rw [hy, hv]
          cases h
          simpa using hp.1
        · rename_i htd
          obtain ⟨v, hv, vs, hr, _⟩ := All2.get ht htd
          rw [Array.getElem?_toList] at hv
          rw [hy, hv, hr]
          cases h
          rfl
        · cases h
      · cases h
    · cases h

theorem range_drop (n k : Nat) : (List.range n).drop k = (List.range (n - k)).map (k + ·) := by
  apply List.ext_getElem?
  intro i
  rw [List.getElem?_drop, List.getElem?_map]
  rcases Nat.lt_or_ge i (n - k) with h | h
  · rw [List.getElem?_range (by omega), List.getElem?_range h]; rfl
  · rw [List.getElem?_eq_none (by simp; omega), List.getElem?_eq_none (by simpa using h)]; rfl

theorem regionA_ok {q : Option Nat} {ρ0 : Map} {P : Program} {E : FuncId → Sum D} (hE : ∀ f, Valid P f (E f)) {Y : Sum D} (hY : YValid ρ0 P Y) {B : Nat} {ops : Array Oper} (Q : Exit → Act → World → Prop) : ∀ (l : List Oper) (k : Nat), l = ops.toList.drop k → ∀ {ρ : Map} {H H' : Heap D} {w : World} {t t' : List AV} {a : Act} {dec d : Dec} {p : VC} {low : Nat},
    Goes ρ0 ρ → Rel ρ H w → TR ρ t a → DefOk B w a.defers → regionA P E Y ops l t H dec = some (p, t', H', low, d) → VC.ok p →
    (∀ a' w', Done B ρ H w .normal t' H' low .normal a' w' → Q .normal a' w') → wpOpsIn (Fr q) 0 P ops Q ((List.range ops.size).drop k) a w
  | [], k, hl, ρ, H, H', w, t, t', a, dec, d, p, low, g0, r, ht, hd, h, hp, hQ => by
    simp only [regionA, Option.some.injEq, Prod.mk.injEq] at h
    obtain ⟨rfl, rfl, rfl, rfl, rfl⟩ := h
    have hk : ops.size ≤ k := by
      have := congrArg List.length hl
      simp at this; omega
    rw [List.drop_eq_nil_of_le (by simpa using hk)]
    exact hQ a w ⟨rfl, hd, ρ, Step.refl r _, ht⟩
  | o :: rest, k, hl, ρ, H, H', w, t, t', a, dec, d, p, low, g0, r, ht, hd, h, hp, hQ => by
    have hk : k < ops.size := by
      rcases Nat.lt_or_ge k ops.size with h | h
      · exact h
      · rw [List.drop_eq_nil_of_le (by simpa using h)] at hl; cases hl
    have hk' : k < ops.toList.length := by simpa using hk
    rw [List.drop_eq_getElem_cons hk'] at hl
    obtain ⟨ho1, ho2⟩ := List.cons_eq_cons.1 hl
    subst ho1
    have ho : ops[k]? = some ops.toList[k] := by simp [hk]
    have hkr : k < (List.range ops.size).length := by simpa using hk
    rw [List.drop_eq_getElem_cons hkr]
    simp only [List.getElem_range, wpOpsIn]
    rw [ho]
    simp only
    unfold regionA at h
    split at h
    · cases h
    · rename_i q1 d1 hg
      split at h
      · rename_i s rr hrest
        cases h
        have hp := ok_app.1 hp
        have hw := guardA_ok ht hg hp.1
        rw [hw]
        simp only [Bool.false_eq_true, if_false]
        exact ⟨fun _ _ => trivial, regionA_ok hE hY Q rest (k + 1) ho2 g0 r (ht.put undef_ok) (by rw [put_defers]; exact hd) hrest hp.2 hQ⟩
      · cases h
    · rename_i q1 d1 hg
      split at h
      · rename_i q2 v H1 l1 d2 hop
        split at h
        · rename_i s t1 H2 l2 d3 hrest
          simp only [Option.some.injEq, Prod.mk.injEq] at h
          obtain ⟨rfl, rfl, rfl, rfl, rfl⟩ := h
          have hp1 := ok_app.1 hp
          have hp := And.intro hp1.1 (ok_app.1 hp1.2)
          have hw := guardA_ok ht hg hp.1
          rw [hw]
          simp only [if_true]
          refine opA_ok hE hY g0 r ht hop hp.2.1 _ Q ?_
          intro ρ' w' rv hs hv
          refine regionA_ok hE hY Q rest (k + 1) ho2 (g0.trans hs.goes) hs.rel ((ht.goes hs.goes).put hv) (by rw [put_defers]; exact hd.step r hs) hrest hp.2.2 ?_
          rintro a' w'' ⟨_, hd', ρ'', hs', ht'⟩
          exact hQ a' w'' ⟨rfl, hd', ρ'', hs.trans r hs', ht'⟩
        · cases h
      · cases h

theorem Done.trans {B : Nat} {ρ ρ1 : Map} {H H1 H2 : Heap D} {w w1 : World} {l1 l2 : Nat} {ex : Ex} {t2 : List AV} (r : Rel ρ H w) (hs : Step ρ H w l1 ρ1 H1 w1) {e : Exit} {a : Act} {w2 : World}
    (h : Done B ρ1 H1 w1 ex t2 H2 l2 e a w2) : Done B ρ H w ex t2 H2 (min l1 l2) e a w2 := by
  obtain ⟨h1, h2, ρ2, h3, h4⟩ := h
  exact ⟨h1, h2, ρ2, hs.trans r h3, h4⟩

theorem rounds_mono {q : Option Nat} {P : Program} {c : Code} {Q Q' : Exit → Act → World → Prop} (hq : ∀ e a w, Q e a w → Q' e a w) : ∀ {m : Nat} {a : Act} {w : World}, Code.roundsIn (Fr q) 0 P c Q m a w → Code.roundsIn (Fr q) 0 P c Q' m a w
  | 0, _, _, h => h.elim
  | m + 1, _, _, h => wpIn_mono h fun e a w he => by
    cases e <;> first
      | exact rounds_mono hq he
      | exact hq _ _ _ he
end
end Go.Proofs.Ytnoonoghemgbbaa.Sx
