import Derived.Test.YtnoonoghemgbbaaOr5
import Derived.ProofKit
/-
  A symbolic evaluator over the model's code: part 24: from a run to a row's conclusion.
-/
set_option linter.unusedVariables false
set_option linter.unusedSimpArgs false
namespace Go.Proofs.Ytnoonoghemgbbaa.Sx
open Go Go.ChangeShapes Go.WideShapes Go.ChangeAt Go.RowKit
noncomputable section

theorem keptBut_of_ext {W W' : World} (h : Ext W W' fun _ => False) (may : MemPlace → Prop) : W.keptBut W' may := by
  refine ⟨h.os, h.output, fun i hi => ?_⟩
  rw [h.block i hi id]
  cases W.heap[i]? with
  | none => rfl
  | some b => cases b <;> first
    | exact ⟨rfl, rfl, rfl, fun _ _ => rfl⟩
    | exact .inr ⟨rfl, rfl⟩
    | rfl

/-- Where nothing that was there has turned, the row's conclusion is what the results and the arguments read as. -/
theorem post_still {H : Type} {enc : TypeId × Value → H} {P : Program} {f : Func} {s : ChangeSpec} {apart fresh handsOn again : Bool} {W W' : World} {args : Array Value} {v : Value} {ds gs : List (DataW H)} {before pa pv : List MemPlace}
    (hW : DataW.Whole enc P f.params.toList s.vars apart W args.toList ds gs before) (hx : Ext W W' fun _ => False)
    (hres : ∀ (b : Nat) (sp : Nat → Bool) (hd : Bool), DataW.TrodAll enc P W' b sp hd f.resultTypes.toList (v.resultList f.resultTypes.size) (s.fn H (ds ++ gs)).results [])
    (hargs : ∀ sp : Nat → Bool, (∀ p ∈ before, sp p.block = true) → DataW.TrodAll enc P W' 0 sp true f.params.toList args.toList (s.fn H (ds ++ gs)).args pa)
    (hvars : ∀ sp : Nat → Bool, (∀ p ∈ before, sp p.block = true) → DataW.TrodVars enc P W' sp s.vars (s.fn H (ds ++ gs)).vars pv)
    (hps : before = pa ++ pv)
    (hok : ∀ (j : Nat) (t : TypeId) (r : Value), f.resultTypes[j]? = some t → (v.resultList f.resultTypes.size)[j]? = some r → Value.okWide P W' .any 0 t r) :
    s.post enc P f apart fresh handsOn again W args v W' := by
  have hlt : ∀ p ∈ before, p.block < W.heap.size := fun p hp => hW.lt p hp
  have hold : ∀ p ∈ before, (fun b => decide (b < W.heap.size)) p.block = true := fun p hp => by simpa using hlt p hp
  refine ⟨ds, gs, before, [], pa, pv, hW, hres _ _ _, hargs _ hold, hvars _ hold, keptBut_of_ext hx _, fun _ => ?_⟩
  obtain ⟨_, _, _, _, _, hz, hn⟩ := hW
  refine ⟨hok, _, _, ([] ++ pa) ++ pv, ⟨[] ++ pa, pv, trodAll_append (hargs _ (fun _ _ => rfl)) (hres _ _ _), hvars _ (fun _ _ => rfl), rfl, ?_, ?_⟩, ?_⟩
  · intro b off hp
    have hp' : MemPlace.cell b off ∈ before := by rw [hps]; simpa using hp
    have hb : b < W.heap.size := hlt _ hp'
    have e : W'.frozen? ⟨b, off, none⟩ = W.frozen? ⟨b, off, none⟩ := by
      unfold World.frozen?
      simp only [hx.block b hb id]
    first
      | (rw [e]; exact hz b off hp')
      | exact e.trans (hz b off hp')
  · intro ha
    have := hn ha
    rw [hps] at this
    simpa using this
  · intro p hp _
    rw [hps]
    simpa using hp
end
end Go.Proofs.Ytnoonoghemgbbaa.Sx

/-
  A symbolic evaluator over the model's code: part 25: runs as equations: what is closed is left to the kernel, what is not is said.
-/
set_option linter.unusedVariables false
set_option linter.unusedSimpArgs false
namespace Go.Proofs.Ytnoonoghemgbbaa.Sx
open Go
noncomputable section

def AllP : List Prop → Prop
  | [] => True
  | p :: l => p ∧ AllP l

/-- The conditions that are said: so many are passed over, then one is said, and so on. -/
def picked : List Nat → VC → List Prop
  | [], _ => []
  | _ :: _, [] => []
  | 0 :: ks, c :: l => c.p :: picked ks l
  | (k + 1) :: ks, _ :: l => picked (k :: ks) l

def lefts : List Nat → VC → List (Σ X : Type, X)
  | _, [] => []
  | [], c :: l => ⟨c.X, c.l⟩ :: lefts [] l
  | 0 :: ks, _ :: l => lefts ks l
  | (k + 1) :: ks, c :: l => ⟨c.X, c.l⟩ :: lefts (k :: ks) l

def rights : List Nat → VC → List (Σ X : Type, X)
  | _, [] => []
  | [], c :: l => ⟨c.X, c.r⟩ :: rights [] l
  | 0 :: ks, _ :: l => rights ks l
  | (k + 1) :: ks, c :: l => ⟨c.X, c.r⟩ :: rights (k :: ks) l

theorem of_sides : ∀ (ks : List Nat) (vc : VC), lefts ks vc = rights ks vc → AllP (picked ks vc) → VC.ok vc
  | _, [], _, _ => trivial
  | [], c :: l, h, hp => by
    simp only [lefts, rights, List.cons.injEq, Sigma.mk.injEq, heq_eq_eq, true_and] at h
    exact ⟨c.h h.1, of_sides [] l h.2 (by cases l <;> exact trivial)⟩
  | 0 :: ks, c :: l, h, hp => ⟨hp.1, of_sides ks l h hp.2⟩
  | (k + 1) :: ks, c :: l, h, hp => by
    simp only [lefts, rights, List.cons.injEq, Sigma.mk.injEq, heq_eq_eq, true_and] at h
    exact ⟨c.h h.1, of_sides (k :: ks) l h.2 hp⟩

def said {β : Type} (ks : List Nat) (r : Option (VC × β)) : Option (List Prop × β) :=
  match r with
  | some (vc, y) => some (picked ks vc, y)
  | none => none
def leftOf {β : Type} (ks : List Nat) (r : Option (VC × β)) : List (Σ X : Type, X) :=
  match r with
  | some (vc, _) => lefts ks vc
  | none => []
def rightOf {β : Type} (ks : List Nat) (r : Option (VC × β)) : List (Σ X : Type, X) :=
  match r with
  | some (vc, _) => rights ks vc
  | none => []

/-- A run goes so, under the conditions that are said. -/
structure Good {β : Type} (r : Option (VC × β)) (ks : List Nat) (ps : List Prop) (y : β) : Prop where
  out : said ks r = some (ps, y)
  eqs : leftOf ks r = rightOf ks r

theorem Good.ok {β : Type} {r : Option (VC × β)} {ks : List Nat} {ps : List Prop} {y : β} (h : Good r ks ps y) (hp : AllP ps) : ∃ vc, r = some (vc, y) ∧ VC.ok vc := by
  obtain ⟨h1, h2⟩ := h
  cases r with
  | none => cases h1
  | some x =>
    obtain ⟨vc, z⟩ := x
    simp only [said, Option.some.injEq, Prod.mk.injEq] at h1
    obtain ⟨rfl, rfl⟩ := h1
    exact ⟨vc, rfl, of_sides ks vc h2 hp⟩

section
variable {D : Type}

theorem Good.can {P : Program} {f : FuncId} {s : Sum D} (hs : Valid P f s) {args : List AV} {H H' : Heap D} {dec d : Dec} {v : AV} {low : Nat} {ks : List Nat} {ps : List Prop}
    (h : Good (s args H dec) ks ps (v, H', low, d)) (hp : AllP ps) : CanOk P f H args v H' low := by
  obtain ⟨vc, e, hv⟩ := h.ok hp
  exact hs.can e hv

/-- The loops of code, each ahead of those in it. -/
def loopsOf : Code → List Code
  | .seq x y => loopsOf x ++ loopsOf y
  | .cond _ x y => loopsOf x ++ loopsOf y
  | .block _ x => loopsOf x
  | .loop x => x :: loopsOf x
  | _ => []

def bodyOf (P : Program) (f : FuncId) (k : Nat) : Code :=
  match P.funcs[f]? with
  | some fn => match fn.body with
    | some c => match (loopsOf c)[k]? with
      | some b => b
      | none => .skip
    | none => .skip
  | none => .skip

/-- A loop of which it is known what it does to one state. -/
def oneLoop (t0 : List AV) (H0 : Heap D) (ex : Ex) (t' : List AV) (H' : Heap D) (low : Nat) : LSum D := fun t H dec => some ([cq t t0, cq H H0], ex, t', H', low, dec)

theorem oneLoop_valid {P : Program} {body : Code} {t0 t' : List AV} {H0 H' : Heap D} {ex : Ex} {low : Nat} (h : Runs P (.loop body) t0 H0 ex t' H' low) : LValid P body (oneLoop t0 H0 ex t' H' low) := by
  intro t H dec p ex1 t1 H1 low1 d hs hp
  simp only [oneLoop, Option.some.injEq, Prod.mk.injEq] at hs
  obtain ⟨rfl, rfl, rfl, rfl, rfl, rfl⟩ := hs
  obtain ⟨h1, h2, _⟩ := hp
  have h1 : t = t0 := h1
  have h2 : H = H0 := h2
  subst h1 h2
  exact h

theorem Runs.round {P : Program} {body : Code} {t t1 t2 : List AV} {H H1 H2 : Heap D} {ex : Ex} {l1 l2 : Nat} (hb : Runs P body t H .normal t1 H1 l1) (hl : Runs P (.loop body) t1 H1 ex t2 H2 l2) :
    Runs P (.loop body) t H ex t2 H2 (min l1 l2) := by
  obtain ⟨m, hm⟩ := hl
  refine ⟨m + 1, fun q B ρ w a r ht hd => ?_⟩
  refine wpIn_mono (hb.wp r ht hd) fun e a' w' he => ?_
  obtain ⟨rfl, hd', ρ', hs, ht'⟩ := he
  exact rounds_mono (fun e a w h => h.trans r hs) (hm q B ρ' w' a' hs.rel ht' hd')

theorem Runs.last {P : Program} {body : Code} {t t1 : List AV} {H H1 : Heap D} {ex : Ex} {l1 : Nat} (hb : Runs P body t H ex t1 H1 l1) (hex : ex ≠ .normal) : Runs P (.loop body) t H ex t1 H1 l1 := by
  refine ⟨1, fun q B ρ w a r ht hd => ?_⟩
  refine wpIn_mono (hb.wp r ht hd) fun e a' w' he => ?_
  obtain ⟨rfl, rest⟩ := he
  cases ex with
  | normal => exact absurd rfl hex
  | exit id => exact ⟨rfl, rest⟩
  | ret => exact ⟨rfl, rest⟩

theorem Runs.low {P : Program} {body : Code} {t t1 : List AV} {H H1 : Heap D} {ex : Ex} {l1 l2 : Nat} (hb : Runs P (.loop body) t H ex t1 H1 l1) (hl : l2 ≤ l1) : Runs P (.loop body) t H ex t1 H1 l2 := by
  obtain ⟨m, hm⟩ := hb
  exact ⟨m, fun q B ρ w a r ht hd => rounds_mono (fun e a w h => ⟨h.1, h.2.1, h.2.2.imp fun ρ' h => ⟨h.1.mono hl, h.2⟩⟩) (hm q B ρ w a r ht hd)⟩

/-- The ways of a call, one by one. -/
def WaysOk (P : Program) (f : FuncId) (H : Heap D) (args : List AV) : List (Way D) → Prop
  | [] => True
  | y :: l => (VC.ok y.cond → CanOk P f H args y.v y.H y.low) ∧ WaysOk P f H args l

theorem WaysOk.get {P : Program} {f : FuncId} {H : Heap D} {args : List AV} : ∀ {l : List (Way D)}, WaysOk P f H args l → ∀ (k : Nat) (y : Way D), l[k]? = some y → VC.ok y.cond → CanOk P f H args y.v y.H y.low
  | [], _, k, y, h => by simp at h
  | x :: l, hl, k, y, h => by
    cases k with
    | zero => simp only [List.getElem?_cons_zero, Option.some.injEq] at h; subst h; exact hl.1
    | succ k => exact hl.2.get k y (by simpa using h)

theorem canon_of {P : Program} {f : FuncId} {g : List AV → View → Option (List (Way D))} (h : ∀ args Hc l, g args Hc = some l → WaysOk P f (ofView D Hc) args l) : Valid P f (canonSum g) :=
  canonSum_valid fun args Hc l hg k y hy hc => (h args Hc l hg).get k y hy hc

/-- The ways of a quiet call. -/
def QWaysOk (D : Type) (P : Program) (f : FuncId) (args : List AV) : List QWay → Prop
  | [] => True
  | y :: l => (VC.ok y.cond → flatV y.v = true ∧ ∃ Hg low, CanOk P f ([] : Heap D) args y.v Hg low) ∧ QWaysOk D P f args l

theorem QWaysOk.get {P : Program} {f : FuncId} {args : List AV} : ∀ {l : List QWay}, QWaysOk D P f args l → ∀ (k : Nat) (y : QWay), l[k]? = some y → VC.ok y.cond →
    flatV y.v = true ∧ ∃ Hg low, CanOk P f ([] : Heap D) args y.v Hg low
  | [], _, k, y, h => by simp at h
  | x :: l, hl, k, y, h => by
    cases k with
    | zero => simp only [List.getElem?_cons_zero, Option.some.injEq] at h; subst h; exact hl.1
    | succ k => exact hl.2.get k y (by simpa using h)

theorem quiet_of {P : Program} {f : FuncId} {g : List AV → Option (List QWay)} (h : ∀ args l, g args = some l → flatVs args = true ∧ QWaysOk D P f args l) : Valid P f (quietSum (D := D) g) :=
  quietSum_valid (fun args l hg => (h args l hg).1) fun args l k y hg hy hc => (h args l hg).2.get k y hy hc

/-- Summaries, by the number of the function. -/
def look : List (Nat × Sum D) → FuncId → Option (Sum D)
  | [], _ => none
  | (k, s) :: l, f => match Nat.beq k f with
    | true => some s
    | false => look l f

def AllV (P : Program) : List (Nat × Sum D) → Prop
  | [] => True
  | (k, s) :: l => Valid P k s ∧ AllV P l

theorem AllV.look {P : Program} : ∀ {l : List (Nat × Sum D)}, AllV P l → ∀ f s, look l f = some s → Valid P f s
  | [], _, f, s, h => by cases h
  | (k, s') :: l, hl, f, s, h => by
    unfold Sx.look at h
    cases hb : Nat.beq k f with
    | true =>
      simp only [hb, Option.some.injEq] at h
      subst h
      have := Nat.eq_of_beq_eq_true hb
      subst this
      exact hl.1
    | false =>
      simp only [hb] at h
      exact hl.2.look f s h

end
end
end Go.Proofs.Ytnoonoghemgbbaa.Sx

/-
  A symbolic evaluator over the model's code: part 26: loops by an invariant over abstract states.
-/
set_option linter.unusedVariables false
set_option linter.unusedSimpArgs false
namespace Go.Proofs.Ytnoonoghemgbbaa.Sx
open Go
noncomputable section

/-- States of which some temporaries are not looked at. -/
def junkAt : List Nat → List AV → List AV
  | [], t => t
  | i :: is, t => junkAt is (t.set i .junk)

theorem All2.setL {α β : Type} {R : α → β → Prop} {a : α} (ha : ∀ b, R a b) : ∀ {l : List α} {m : List β} (i : Nat), All2 R l m → All2 R (l.set i a) m
  | [], [], _, h => h
  | _ :: _, _ :: _, 0, h => ⟨ha _, h.2⟩
  | _ :: _, _ :: _, i + 1, h => ⟨h.1, All2.setL ha i h.2⟩
  | [], _ :: _, _, h => h.elim
  | _ :: _, [], _, h => h.elim

section
variable {D : Type}

theorem TR.junk {ρ : Map} {a : Act} : ∀ {is : List Nat} {t : List AV}, TR ρ t a → TR ρ (junkAt is t) a
  | [], _, h => h
  | i :: is, t, h => TR.junk (is := is) (All2.setL (fun _ => trivial) i h : TR ρ (t.set i .junk) a)

theorem Runs.pre {P : Program} {c : Code} {t t' : List AV} {H H' : Heap D} {ex : Ex} {low : Nat} (is : List Nat) (h : Runs P c (junkAt is t) H ex t' H' low) : Runs P c t H ex t' H' low := by
  cases c with
  | loop body => obtain ⟨m, hm⟩ := h; exact ⟨m, fun q B ρ w a r ht hd => hm q B ρ w a r ht.junk hd⟩
  | _ => exact fun q B ρ w a r ht hd => h q B ρ w a r ht.junk hd

theorem Done.junk {B : Nat} {ρ : Map} {H H' : Heap D} {w : World} {ex : Ex} {t' : List AV} {low : Nat} {e : Exit} {a : Act} {w' : World} (is : List Nat) (h : Done B ρ H w ex t' H' low e a w') : Done B ρ H w ex (junkAt is t') H' low e a w' := by
  obtain ⟨h1, h2, ρ', h3, h4⟩ := h
  exact ⟨h1, h2, ρ', h3, h4.junk⟩

theorem Runs.post {P : Program} {c : Code} {t t' : List AV} {H H' : Heap D} {ex : Ex} {low : Nat} (is : List Nat) (h : Runs P c t H ex t' H' low) : Runs P c t H ex (junkAt is t') H' low := by
  cases c with
  | loop body => obtain ⟨m, hm⟩ := h; exact ⟨m, fun q B ρ w a r ht hd => rounds_mono (fun _ _ _ => Done.junk is) (hm q B ρ w a r ht hd)⟩
  | _ => exact fun q B ρ w a r ht hd => wpIn_mono (h q B ρ w a r ht hd) fun _ _ _ => Done.junk is

/-- A loop of which it is known what it does to one state (but for some temporaries). -/
def someLoop (is : List Nat) (t0 : List AV) (H0 : Heap D) (ex : Ex) (t' : List AV) (H' : Heap D) (low : Nat) : LSum D := fun t H dec => some ([cq (junkAt is t) t0, cq H H0], ex, t', H', low, dec)

theorem someLoop_valid {P : Program} {body : Code} {is : List Nat} {t0 t' : List AV} {H0 H' : Heap D} {ex : Ex} {low : Nat} (h : Runs P (.loop body) t0 H0 ex t' H' low) : LValid P body (someLoop is t0 H0 ex t' H' low) := by
  intro t H dec p ex1 t1 H1 low1 d hs hp
  simp only [someLoop, Option.some.injEq, Prod.mk.injEq] at hs
  obtain ⟨rfl, rfl, rfl, rfl, rfl, rfl⟩ := hs
  obtain ⟨h1, h2, _⟩ := hp
  have h1 : junkAt is t = t0 := h1
  have h2 : H = H0 := h2
  subst h1 h2
  exact Runs.pre is h

/-- Code that calls functions, draws, and has loops. -/
abbrev codeR (P : Program) (S : FuncId → Option (Sum D)) (L : Nat → Option (Code × LSum D)) (fuel n : Nat) (c : Code) : LSum D :=
  codeA P (runF P S (fun _ _ => none) fuel n) (drawR P (runF P S (fun _ _ => none) fuel n)) fuel false L noY c

theorem Good.runs {P : Program} (hmix : P.follows .mixedOrders = true) {S : FuncId → Option (Sum D)} (hS : ∀ f s, S f = some s → Valid P f s) {L : Nat → Option (Code × LSum D)} (hL : ∀ k b s, L k = some (b, s) → LValid P b s)
    {fuel n : Nat} {c : Code} {t t' : List AV} {H H' : Heap D} {dec d : Dec} {ex : Ex} {low : Nat} {ks : List Nat} {ps : List Prop}
    (h : Good (codeR P S L fuel n c t H dec) ks ps (ex, t', H', low, d)) (hp : AllP ps) : Runs P c t H ex t' H' low := by
  obtain ⟨vc, e, hv⟩ := h.ok hp
  have hE := runF_valid hmix hS (L := fun _ _ => none) (fun _ _ _ _ h => by cases h) fuel n
  exact (codeA_ok hE (drawR_ok hmix hE) fuel false L noY [] c hL (noY_valid _ _) e hv).runs

/-- A run behind which some temporaries are not looked at. -/
def junkE (is : List Nat) (r : ER D) : ER D :=
  match r with
  | some (vc, ex, t, H, l, d) => some (vc, ex, junkAt is t, H, l, d)
  | none => none

theorem Good.runsJ {P : Program} (hmix : P.follows .mixedOrders = true) {S : FuncId → Option (Sum D)} (hS : ∀ f s, S f = some s → Valid P f s) {L : Nat → Option (Code × LSum D)} (hL : ∀ k b s, L k = some (b, s) → LValid P b s)
    {fuel n : Nat} {c : Code} {is : List Nat} {t t' : List AV} {H H' : Heap D} {dec d : Dec} {ex : Ex} {low : Nat} {ks : List Nat} {ps : List Prop}
    (h : Good (junkE is (codeR P S L fuel n c t H dec)) ks ps (ex, t', H', low, d)) (hp : AllP ps) : Runs P c t H ex t' H' low := by
  obtain ⟨vc, e, hv⟩ := h.ok hp
  unfold junkE at e
  split at e
  · rename_i vc1 ex1 t1 H1 l1 d1 hr
    simp only [Option.some.injEq, Prod.mk.injEq] at e
    obtain ⟨rfl, rfl, rfl, rfl, rfl, rfl⟩ := e
    have hE := runF_valid hmix hS (L := fun _ _ => none) (fun _ _ _ _ h => by cases h) fuel n
    exact Runs.post is (codeA_ok hE (drawR_ok hmix hE) fuel false L noY [] c hL (noY_valid _ _) hr hv).runs
  · cases e

/-- Without what becomes of the heap. -/
def quietE (r : ML D) : Option (VC × (AV × Dec)) :=
  match r with
  | some (vc, v, _, _, d) => some (vc, v, d)
  | none => none

theorem Good.quiet {P : Program} {f : FuncId} {s : Sum D} (hs : Valid P f s) {args : List AV} {H : Heap D} {dec d : Dec} {v : AV} {ks : List Nat} {ps : List Prop}
    (h : Good (quietE (s args H dec)) ks ps (v, d)) (hp : AllP ps) : ∃ H' low, CanOk P f H args v H' low := by
  obtain ⟨vc, e, hv⟩ := h.ok hp
  unfold quietE at e
  split at e
  · rename_i hr
    simp only [Option.some.injEq, Prod.mk.injEq] at e
    obtain ⟨rfl, rfl, rfl⟩ := e
    exact ⟨_, _, hs.can hr hv⟩
  · cases e

/-- One loop of one function. -/
def atLoop (f k : Nat) (b : Code × LSum D) : FuncId → Nat → Option (Code × LSum D) := fun f' k' =>
  match Nat.beq f f', Nat.beq k k' with
  | true, true => some b
  | _, _ => none

theorem atLoop_ok {P : Program} {f k : Nat} {b : Code} {s : LSum D} (h : LValid P b s) : ∀ f' k' b' s', atLoop f k (b, s) f' k' = some (b', s') → LValid P b' s' := by
  intro f' k' b' s' he
  unfold atLoop at he
  split at he
  · cases he; exact h
  · cases he
end
end
end Go.Proofs.Ytnoonoghemgbbaa.Sx

/-
  A symbolic evaluator over the model's code: part 27: new blocks that nothing refers to are let go.
-/
set_option linter.unusedVariables false
set_option linter.unusedSimpArgs false
namespace Go.Proofs.Ytnoonoghemgbbaa.Sx
open Go
noncomputable section

def refs (n i : Nat) : Bool := Nat.blt i n || Nat.ble 1000000000 i

section
variable {D : Type}

def idsO : Ob → List Nat
  | .map es => es.flatMap fun e => ids1 e.1 ++ ids1 e.2
  | _ => []

def fitH (n : Nat) : Heap D → Bool
  | [] => true
  | none :: l => fitH n l
  | some (.cells _ num c) :: l => Nat.beq num 1 && (plainCont (c 0) && ((idsCont (c 0)).all (refs n) && fitH n l))
  | some (.obj o) :: l => (idsO o).all (refs n) && fitH n l

def fits (n : Nat) (vs : List AV) (H : Heap D) : Bool := Nat.ble H.length 1000000000 && (fitH n (H.take n) && (vs.flatMap idsV).all (refs n))

theorem take_at {ρ : Map} {n i : Nat} (hl : ρ.length ≤ 1000000000) (h : refs n i = true) {F : Nat → Loc} (e : ρ[i]? = some F) : (ρ.take n)[i]? = some F := by
  have hi := (List.getElem?_eq_some_iff.1 e).1
  unfold refs at h
  simp only [Bool.or_eq_true, Nat.blt_eq, Nat.ble_eq] at h
  rw [List.getElem?_take, if_pos (by omega)]
  exact e

theorem RC.cut {ρ : Map} {n : Nat} (hl : ρ.length ≤ 1000000000) {c : Cell} {v : Value} (hc : (idsC c).all (refs n) = true) (h : RC ρ c v) : RC (ρ.take n) c v := by
  cases c with
  | ptr nl id idx off =>
    simp only [idsC, List.all_cons, List.all_nil, Bool.and_true] at hc
    rcases h with h | ⟨h1, F, h2, h3⟩
    · exact .inl h
    · exact .inr ⟨h1, F, take_at hl hc h2, h3⟩
  | slice nl id idx off len cap sz =>
    simp only [idsC, List.all_cons, List.all_nil, Bool.and_true] at hc
    rcases h with h | ⟨h1, F, r, h2, h3⟩
    · exact .inl h
    · exact .inr ⟨h1, F, r, take_at hl hc h2, h3⟩
  | func f caps =>
    obtain ⟨vs, e, h⟩ := h
    refine ⟨vs, e, ?_⟩
    clear e
    simp only [idsC] at hc
    induction caps generalizing vs with
    | nil => cases vs with
      | nil => exact trivial
      | cons _ _ => exact h.elim
    | cons p l ih =>
      cases vs with
      | nil => exact h.elim
      | cons u vs =>
        simp only [List.map_cons, List.all_cons, Bool.and_eq_true] at hc
        obtain ⟨⟨F, h1, h2⟩, h3⟩ := h
        exact ⟨⟨F, take_at hl hc.1 h1, h2⟩, ih hc.2 vs h3⟩
  | map nl id idx =>
    simp only [idsC, List.all_cons, List.all_nil, Bool.and_true] at hc
    rcases h with h | ⟨h1, F, h2, h3⟩
    · exact .inl h
    · exact .inr ⟨h1, F, take_at hl hc h2, h3⟩
  | yld id =>
    simp only [idsC, List.all_cons, List.all_nil, Bool.and_true] at hc
    obtain ⟨F, h2, h3⟩ := h
    exact ⟨F, take_at hl hc h2, h3⟩
  | bool b => exact h
  | int k n => exact h
  | str l => exact h
  | empty => exact h
  | nilFunc => exact h
  | anyp => exact h

theorem RCs.cut {ρ : Map} {n : Nat} (hl : ρ.length ≤ 1000000000) : ∀ {cs : List Cell} {vs : List Value}, (cs.flatMap idsC).all (refs n) = true → All2 (RC ρ) cs vs → All2 (RC (ρ.take n)) cs vs
  | [], [], _, _ => trivial
  | c :: cs, v :: vs, hc, h => by
    simp only [List.flatMap_cons, List.all_append, Bool.and_eq_true] at hc
    exact ⟨h.1.cut hl hc.1, RCs.cut hl hc.2 h.2⟩
  | [], _ :: _, _, h => h.elim
  | _ :: _, [], _, h => h.elim

theorem R1.cut {ρ : Map} {n : Nat} (hl : ρ.length ≤ 1000000000) {c : AV1} {v : Value} (hc : (ids1 c).all (refs n) = true) (h : R1 ρ c v) : R1 (ρ.take n) c v := by
  cases c with
  | cell c => exact RC.cut hl hc h
  | agg cs => obtain ⟨vs, e, h⟩ := h; exact ⟨vs, e, RCs.cut hl hc h⟩

theorem R1s.cut {ρ : Map} {n : Nat} (hl : ρ.length ≤ 1000000000) : ∀ {cs : List AV1} {vs : List Value}, (cs.flatMap ids1).all (refs n) = true → All2 (R1 ρ) cs vs → All2 (R1 (ρ.take n)) cs vs
  | [], [], _, _ => trivial
  | c :: cs, v :: vs, hc, h => by
    simp only [List.flatMap_cons, List.all_append, Bool.and_eq_true] at hc
    exact ⟨h.1.cut hl hc.1, R1s.cut hl hc.2 h.2⟩
  | [], _ :: _, _, h => h.elim
  | _ :: _, [], _, h => h.elim

theorem RV.cut {ρ : Map} {n : Nat} (hl : ρ.length ≤ 1000000000) {c : AV} {v : Value} (hc : (idsV c).all (refs n) = true) (h : RV ρ c v) : RV (ρ.take n) c v := by
  cases c with
  | cell c => exact RC.cut hl hc h
  | agg cs => obtain ⟨vs, e, h⟩ := h; exact ⟨vs, e, RCs.cut hl hc h⟩
  | tup l => obtain ⟨vs, e, h⟩ := h; exact ⟨vs, e, R1s.cut hl hc h⟩
  | junk => trivial

theorem RVs.cut {ρ : Map} {n : Nat} (hl : ρ.length ≤ 1000000000) : ∀ {cs : List AV} {vs : List Value}, (cs.flatMap idsV).all (refs n) = true → All2 (RV ρ) cs vs → All2 (RV (ρ.take n)) cs vs
  | [], [], _, _ => trivial
  | c :: cs, v :: vs, hc, h => by
    simp only [List.flatMap_cons, List.all_append, Bool.and_eq_true] at hc
    exact ⟨h.1.cut hl hc.1, RVs.cut hl hc.2 h.2⟩
  | [], _ :: _, _, h => h.elim
  | _ :: _, [], _, h => h.elim

theorem fitH_at {n : Nat} : ∀ {H : Heap D} {id : Nat} {b : Blk D}, fitH n H = true → H[id]? = some (some b) → (∃ own c, b = .cells own 1 c ∧ plainCont (c 0) = true ∧ (idsCont (c 0)).all (refs n) = true) ∨ (∃ o, b = .obj o ∧ (idsO o).all (refs n) = true)
  | [], _, _, _, h => by simp at h
  | none :: l, 0, _, _, h => by simp at h
  | none :: l, id + 1, _, hf, h => fitH_at (H := l) (by simpa [fitH] using hf) (by simpa using h)
  | some (.cells own num c) :: l, id, b, hf, h => by
    simp only [fitH, Bool.and_eq_true] at hf
    have hn := Nat.eq_of_beq_eq_true hf.1
    subst hn
    cases id with
    | zero => simp at h; subst h; exact .inl ⟨own, c, rfl, hf.2.1, hf.2.2.1⟩
    | succ id => exact fitH_at (H := l) hf.2.2.2 (by simpa using h)
  | some (.obj o) :: l, id, b, hf, h => by
    simp only [fitH, Bool.and_eq_true] at hf
    cases id with
    | zero => simp at h; subst h; exact .inr ⟨o, rfl, hf.1⟩
    | succ id => exact fitH_at (H := l) hf.2 (by simpa using h)

theorem ObAt.cut {ρ : Map} {n : Nat} (hl : ρ.length ≤ 1000000000) {w : World} {L : Nat → Loc} {o : Ob} (hc : (idsO o).all (refs n) = true) (h : ObAt ρ w L o) : ObAt (ρ.take n) w L o := by
  cases o with
  | map es =>
    obtain ⟨arr, clock, h1, h2, h3⟩ := h
    refine ⟨arr, clock, h1, ?_, h3⟩
    clear h1 h3
    simp only [idsO] at hc
    generalize arr.toList = l at h2
    induction es generalizing l with
    | nil => cases l with
      | nil => exact trivial
      | cons _ _ => exact h2.elim
    | cons e es ih =>
      cases l with
      | nil => exact h2.elim
      | cons m l =>
        simp only [List.flatMap_cons, List.all_append, Bool.and_eq_true] at hc
        exact ⟨⟨R1.cut hl hc.1.1 h2.1.1, R1.cut hl hc.1.2 h2.1.2⟩, ih hc.2 l h2.2⟩
  | iter s pos => exact h
  | loop st pend => exact h
  | ab d => exact h

theorem ContAt.cut {ρ : Map} {n : Nat} (hl : ρ.length ≤ 1000000000) {w : World} {L : Loc} {c : Cont} (hp : plainCont c = true) (hc : (idsCont c).all (refs n) = true) (h : ContAt ρ w L c) : ContAt (ρ.take n) w L c := by
  intro j x hx
  obtain ⟨v, hv, hr⟩ := h j x hx
  refine ⟨v, hv, RC.cut hl ?_ hr⟩
  cases c with
  | raw cs =>
    have hx : cs[j]? = some x := hx
    have hm := List.mem_of_getElem? hx
    rw [List.all_eq_true] at hc ⊢
    intro i hi
    exact hc i (by simp only [idsCont, List.mem_flatMap]; exact ⟨x, hm, hi⟩)
  | ints k l =>
    obtain ⟨y, _, rfl⟩ : ∃ y, l[j]? = some y ∧ x = .int k y := by
      cases hl : l[j]? with
      | none => simp [Cont.At, hl] at hx
      | some y => exact ⟨y, rfl, by simpa [Cont.At, hl, eq_comm] using hx⟩
    rfl
  | fam a b f => simp [plainCont] at hp

theorem Rel.cut {ρ : Map} {H : Heap D} {w : World} (n : Nat) (hl : H.length ≤ 1000000000) (hf : fitH n (H.take n) = true) (h : Rel ρ H w) : Rel (ρ.take n) (H.take n) w := by
  have hlen : ρ.length ≤ 1000000000 := by rw [h.len]; exact hl
  have hH : ∀ {id : Nat} {b : Blk D}, (H.take n)[id]? = some (some b) → H[id]? = some (some b) := by
    intro id b e
    rw [List.getElem?_take] at e
    split at e
    · exact e
    · cases e
  have hR : ∀ {id : Nat} {F : Nat → Loc}, (ρ.take n)[id]? = some F → ρ[id]? = some F := by
    intro id F e
    rw [List.getElem?_take] at e
    split at e
    · exact e
    · cases e
  refine ⟨by simp [h.len], ?_, ?_⟩
  · intro id b F idx hb hF
    rcases fitH_at hf hb with ⟨own, c, rfl, hp, hc⟩ | ⟨o, rfl, hc⟩
    · intro hi
      have h0 : idx = 0 := by omega
      subst h0
      obtain ⟨g1, g2, g3, g4, g5⟩ := h.at_ id _ F 0 (hH hb) (hR hF) hi
      exact ⟨g1, g2, g3, g4.cut hlen hp hc, g5⟩
    · intro hi
      obtain ⟨g1, g2, g3⟩ := h.at_ id _ F idx (hH hb) (hR hF) hi
      exact ⟨g1, g2, g3.cut hlen hc⟩
  · intro id b F idx id' b' F' idx' hb hF h1 h2 hb' hF' h3 hne
    exact h.apart id b F idx id' b' F' idx' (hH hb) (hR hF) h1 h2 (hH hb') (hR hF') h3 hne

theorem Step.cut {ρ ρ' : Map} {H H' : Heap D} {w w' : World} {low : Nat} (r : Rel ρ H w) (n : Nat) (hn : H.length ≤ n) (hl : H'.length ≤ 1000000000) (hf : fitH n (H'.take n) = true) (h : Step ρ H w low ρ' H' w') :
    Step ρ H w low (ρ'.take n) (H'.take n) w' := by
  have hH : ∀ {id : Nat} {b : Blk D}, (H'.take n)[id]? = some (some b) → H'[id]? = some (some b) := by
    intro id b e
    rw [List.getElem?_take] at e
    split at e
    · exact e
    · cases e
  have hR : ∀ {id : Nat} {F : Nat → Loc}, (ρ'.take n)[id]? = some F → ρ'[id]? = some F := by
    intro id F e
    rw [List.getElem?_take] at e
    split at e
    · exact e
    · cases e
  refine ⟨?_, h.rel.cut n hl hf, h.ext, ?_, ?_, ?_⟩
  · intro i F hi
    obtain ⟨F', h1, h2⟩ := h.goes i F hi
    have := (List.getElem?_eq_some_iff.1 hi).1
    rw [r.len] at this
    exact ⟨F', by rw [List.getElem?_take, if_pos (by omega)]; exact h1, h2⟩
  · rintro id k ⟨b, F, idx, h1, h2, h3, h4, h5⟩
    exact h.each id k ⟨b, F, idx, hH h1, h2, h3, hR h4, h5⟩
  · intro id b' hid hb
    obtain ⟨b, e, o, l, f⟩ := h.old id b' hid (hH hb)
    exact ⟨b, e, o, l, fun ho F F' hF hF' => f ho F F' hF (hR hF')⟩
  · intro id b' hid hb
    exact h.mine id b' hid (hH hb)

theorem CanOk.cut {P : Program} {f : FuncId} {H H' : Heap D} {args : List AV} {v : AV} {low : Nat} (n : Nat) (hn : H.length ≤ n) (hf : fits n [v] H' = true) (h : CanOk P f H args v H' low) :
    CanOk P f H args v (H'.take n) low := by
  intro ρ w as r ha
  refine (h ρ w as r ha).mono fun e w' he => ?_
  obtain ⟨rv, ρ', rfl, hs, hr⟩ := he
  simp only [fits, Bool.and_eq_true, Nat.ble_eq, List.flatMap_cons, List.flatMap_nil, List.append_nil] at hf
  exact ⟨rv, _, rfl, hs.cut r n hn hf.1 hf.2.1, hr.cut (by rw [hs.rel.len]; exact hf.1) hf.2.2⟩

theorem Done.cut {B : Nat} {ρ : Map} {H H' : Heap D} {w : World} {ex : Ex} {t' : List AV} {low : Nat} {e : Exit} {a : Act} {w' : World} (r : Rel ρ H w) (n : Nat) (hn : H.length ≤ n) (hf : fits n t' H' = true)
    (h : Done B ρ H w ex t' H' low e a w') : Done B ρ H w ex t' (H'.take n) low e a w' := by
  obtain ⟨h1, h2, ρ', hs, ht⟩ := h
  simp only [fits, Bool.and_eq_true, Nat.ble_eq] at hf
  exact ⟨h1, h2, _, hs.cut r n hn hf.1 hf.2.1, RVs.cut (by rw [hs.rel.len]; exact hf.1) hf.2.2 ht⟩

theorem Runs.cut {P : Program} {c : Code} {t t' : List AV} {H H' : Heap D} {ex : Ex} {low : Nat} (n : Nat) (hn : H.length ≤ n) (hf : fits n t' H' = true) (h : Runs P c t H ex t' H' low) : Runs P c t H ex t' (H'.take n) low := by
  cases c with
  | loop body => obtain ⟨m, hm⟩ := h; exact ⟨m, fun q B ρ w a r ht hd => rounds_mono (fun _ _ _ => Done.cut r n hn hf) (hm q B ρ w a r ht hd)⟩
  | _ => exact fun q B ρ w a r ht hd => wpIn_mono (h q B ρ w a r ht hd) fun _ _ _ => Done.cut r n hn hf

/-- A run of which some temporaries, and the blocks from n on, are not looked at any more. -/
def trimE (is : List Nat) (n : Nat) (r : ER D) : ER D :=
  match r with
  | some (vc, ex, t, H, l, d) => some (cq (fits n (junkAt is t) H) true :: vc, ex, junkAt is t, H.take n, l, d)
  | none => none

theorem Good.runsT {P : Program} (hmix : P.follows .mixedOrders = true) {S : FuncId → Option (Sum D)} (hS : ∀ f s, S f = some s → Valid P f s) {L : Nat → Option (Code × LSum D)} (hL : ∀ k b s, L k = some (b, s) → LValid P b s)
    {fuel n m : Nat} {c : Code} {is : List Nat} {t t' : List AV} {H H' : Heap D} {dec d : Dec} {ex : Ex} {low : Nat} {ks : List Nat} {ps : List Prop} (hm : H.length ≤ m)
    (h : Good (trimE is m (codeR P S L fuel n c t H dec)) ks ps (ex, t', H', low, d)) (hp : AllP ps) : Runs P c t H ex t' H' low := by
  obtain ⟨vc, e, hv⟩ := h.ok hp
  unfold trimE at e
  split at e
  · rename_i vc1 ex1 t1 H1 l1 d1 hr
    simp only [Option.some.injEq, Prod.mk.injEq] at e
    obtain ⟨rfl, rfl, rfl, rfl, rfl, rfl⟩ := e
    have hE := runF_valid hmix hS (L := fun _ _ => none) (fun _ _ _ _ h => by cases h) fuel n
    exact Runs.cut m hm hv.1 (Runs.post is (codeA_ok hE (drawR_ok hmix hE) fuel false L noY [] c hL (noY_valid _ _) hr hv.2).runs)
  · cases e

/-- A call of which the blocks from n on are not looked at any more. -/
def trimF (n : Nat) (r : ML D) : ML D :=
  match r with
  | some (vc, v, H, l, d) => some (cq (fits n [v] H) true :: vc, v, H.take n, l, d)
  | none => none

theorem Good.canT {P : Program} {f : FuncId} {s : Sum D} (hs : Valid P f s) {args : List AV} {H H' : Heap D} {dec d : Dec} {v : AV} {low n : Nat} {ks : List Nat} {ps : List Prop} (hn : H.length ≤ n)
    (h : Good (trimF n (s args H dec)) ks ps (v, H', low, d)) (hp : AllP ps) : CanOk P f H args v H' low := by
  obtain ⟨vc, e, hv⟩ := h.ok hp
  unfold trimF at e
  split at e
  · rename_i hr
    simp only [Option.some.injEq, Prod.mk.injEq] at e
    obtain ⟨rfl, rfl, rfl, rfl, rfl⟩ := e
    exact CanOk.cut n hn hv.1 (hs.can hr hv.2)
  · cases e
end
end
end Go.Proofs.Ytnoonoghemgbbaa.Sx

/-
  A symbolic evaluator over the model's code: part 28: arguments that are not looked at; one summary for some arguments, another for others.
-/
set_option linter.unusedVariables false
set_option linter.unusedSimpArgs false
namespace Go.Proofs.Ytnoonoghemgbbaa.Sx
open Go
noncomputable section

/-- An address is any pointer. -/
def maskV : AV → AV
  | .cell (.ptr _ _ _ _) => .cell .anyp
  | v => v

def maskA : List Nat → List AV → List AV
  | [], a => a
  | k :: ks, a => maskA ks (match nth a k with
    | some v => setL a k (maskV v)
    | none => a)

theorem RV.mask {ρ : Map} {v : AV} {x : Value} (h : RV ρ v x) : RV ρ (maskV v) x := by
  unfold maskV
  split
  · rcases h with ⟨_, rfl⟩ | ⟨_, F, _, rfl⟩
    · exact ⟨_, rfl⟩
    · exact ⟨_, rfl⟩
  · exact h

theorem All2.setSelf {α β : Type} {R : α → β → Prop} {f : α → α} (hf : ∀ a b, R a b → R (f a) b) : ∀ {l : List α} {m : List β} {k : Nat} {a : α}, All2 R l m → l[k]? = some a → All2 R (l.set k (f a)) m
  | [], _, _, _, _, h => by simp at h
  | x :: l, y :: m, 0, a, h, hk => by
    simp at hk
    subst hk
    exact ⟨hf _ _ h.1, h.2⟩
  | x :: l, y :: m, k + 1, a, h, hk => ⟨h.1, All2.setSelf hf h.2 (by simpa using hk)⟩
  | _ :: _, [], _, _, h, _ => h.elim

theorem maskA_ok {ρ : Map} : ∀ {ks : List Nat} {args : List AV} {vs : List Value}, All2 (RV ρ) args vs → All2 (RV ρ) (maskA ks args) vs
  | [], _, _, h => h
  | k :: ks, args, vs, h => by
    unfold maskA
    refine maskA_ok ?_
    split
    · rename_i v hv
      rw [setL_eq]
      rw [nth_eq] at hv
      exact All2.setSelf (fun _ _ h => RV.mask h) h hv
    · exact h

section
variable {D : Type}

/-- A summary that does not look at some arguments. -/
def maskSum (ks : List Nat) (s : Sum D) : Sum D := fun args H dec => s (maskA ks args) H dec

theorem maskSum_valid {P : Program} {f : FuncId} {ks : List Nat} {s : Sum D} (h : Valid P f s) : Valid P f (maskSum ks s) :=
  fun args H dec p v H' low d hs hp ρ w vs r ha => h _ H dec p v H' low d hs hp ρ w vs r (maskA_ok ha)

/-- By the arguments, which summary. -/
def pickSum (g : List AV → Option (Sum D)) : Sum D := fun args H dec =>
  match g args with
  | some s => s args H dec
  | none => none

theorem pickSum_valid {P : Program} {f : FuncId} {g : List AV → Option (Sum D)} (h : ∀ args s, g args = some s → Valid P f s) : Valid P f (pickSum g) := by
  intro args H dec p v H' low d hs hp ρ w vs r ha
  unfold pickSum at hs
  split at hs
  · rename_i s hg
    exact h args s hg args H dec p v H' low d hs hp ρ w vs r ha
  · cases hs
end
end
end Go.Proofs.Ytnoonoghemgbbaa.Sx

/-
  A symbolic evaluator over the model's code: part 29: data that blocks hold together are taken apart, and put together.
-/
set_option linter.unusedVariables false
set_option linter.unusedSimpArgs false
namespace Go.Proofs.Ytnoonoghemgbbaa.Sx
open Go
noncomputable section

/-- Where block i of what is taken apart comes to stand: behind n others. -/
def sg (n i : Nat) : Nat :=
  match Nat.beq i 0 with
  | true => 0
  | false => match Nat.ble 1000000000 i with
    | true => i
    | false => n + i

def opn {D : Type} (n : Nat) (R : Heap D) : View → Heap D
  | [] => []
  | (_, c) :: l => some (.cells true 1 fun _ => renCont (sg n) c) :: (R ++ l.map fun x => some (.cells true 1 fun _ => renCont (sg n) x.2))

theorem sg_zero (n : Nat) : sg n 0 = 0 := rfl
theorem sg_succ {n i : Nat} (h : i + 1 < 1000000000) : sg n (i + 1) = n + (i + 1) := by
  unfold sg
  have h1 : Nat.beq (i + 1) 0 = false := rfl
  have h2 : Nat.ble 1000000000 (i + 1) = false := by
    cases hh : Nat.ble 1000000000 (i + 1) with
    | false => rfl
    | true => have := Nat.le_of_ble_eq_true hh; omega
  rw [h1, h2]

theorem shows_len {d : Ab} {V : View} (h : d.shows V) : V.length ≤ 1000 := by
  cases d with
  | stk cs m o u => rcases h with ⟨_, ⟨_, rfl⟩ | ⟨_, _, _, _, rfl⟩⟩ <;> simp
  | mem ram win => rcases h with ⟨_, ⟨_, rfl⟩ | rfl⟩ <;> simp

theorem CellsAt.ren {f : Nat → Nat} {ρ ρ' : Map} (g : GoesBy f ρ ρ') {w : World} {L : Loc} {own : Bool} {c : Cont} (h : CellsAt ρ w L own c) : CellsAt ρ' w L own (renCont f c) := by
  obtain ⟨h0, h1, h2, h3, h4⟩ := h
  refine ⟨renCont_wf.2 h0, by rw [renCont_len]; exact h1, h2, ?_, fun ho => ?_⟩
  · intro j y hy
    obtain ⟨x, hx, rfl⟩ := renCont_of hy
    obtain ⟨v, hv, hr⟩ := h3 j x hx
    exact ⟨v, hv, hr.ren g⟩
  · obtain ⟨g1, g2, g3⟩ := h4 ho
    exact ⟨g1, by rw [renCont_len]; exact g2, g3⟩

theorem Loc.same {F G : Nat → Loc} (h : Lo F G) (i : Nat) : ({ G i with foot := (F i).foot } : Loc) = F i := by
  obtain ⟨h1, h2, h3, h4⟩ := h i
  cases hF : F i
  rw [hF] at h1 h2 h3 h4
  simp only at h1 h2 h3 h4
  simp only [h1, h2, h3, h4]

section
variable {D : Type}

theorem Rel.opened {ρ : Map} {d : Ab} {R : Heap D} {w : World} (r : Rel ρ (some (.obj (.ab d)) :: R) w) : ∃ V ρ', d.shows V ∧ Step ρ (some (.obj (.ab d)) :: R) w 0 ρ' (opn R.length R V) w := by
  have hlen := r.len
  match ρ, hlen with
  | F0 :: ρR, hlen =>
  have hn : ρR.length = R.length := by simpa using hlen
  obtain ⟨_, hlt, V, ρc, F', hsh, hown, hs, hF', hlo, hfoot⟩ := r.at_ 0 _ F0 0 rfl rfl rfl
  have hVl := shows_len hsh
  have hVc := hs.len
  match V, ρc, hF', hVc with
  | (o0, c0) :: ext, Fc :: ρe, hF', hVc =>
  simp only [List.getElem?_cons_zero, Option.some.injEq] at hF'
  subst hF'
  have hel : ρe.length = ext.length := by simpa using hVc
  have ho0 : o0 = true := hown _ List.mem_cons_self
  subst ho0
  obtain ⟨G0, hG0⟩ : ∃ G0 : Nat → Loc, G0 = fun i => { F0 i with foot := (Fc i).foot } := ⟨_, rfl⟩
  have hG : ∀ i, G0 i = Fc i := fun i => by rw [hG0]; exact Loc.same hlo i
  have hGc : G0 = Fc := funext hG
  refine ⟨(true, c0) :: ext, G0 :: (ρR ++ ρe), hsh, ?_⟩
  -- where things stand
  have goes : Goes (F0 :: ρR) (G0 :: (ρR ++ ρe)) := by
    intro i F h
    cases i with
    | zero =>
      simp only [List.getElem?_cons_zero, Option.some.injEq] at h
      subst h
      exact ⟨G0, rfl, fun i => by rw [hG0]; exact ⟨rfl, rfl, rfl, rfl⟩⟩
    | succ i =>
      simp only [List.getElem?_cons_succ] at h
      exact ⟨F, by rw [List.getElem?_cons_succ, List.getElem?_append_left (List.getElem?_eq_some_iff.1 h).1]; exact h, Lo.refl F⟩
  have small : ∀ (i : Nat) (G : Nat → Loc), (Fc :: ρe)[i]? = some G → (G0 :: (ρR ++ ρe))[sg R.length i]? = some G := by
    intro i G h
    cases i with
    | zero => simp only [List.getElem?_cons_zero, Option.some.injEq] at h; subst h; rw [sg_zero, ← hGc]; rfl
    | succ i =>
      simp only [List.getElem?_cons_succ] at h
      have hi := (List.getElem?_eq_some_iff.1 h).1
      simp only [List.length_cons] at hVl
      rw [sg_succ (by omega), show R.length + (i + 1) = (R.length + i) + 1 by omega, List.getElem?_cons_succ, List.getElem?_append_right (by omega), hn, Nat.add_sub_cancel_left]
      exact h
  have gby : GoesBy (sg R.length) (Fc :: ρe) (G0 :: (ρR ++ ρe)) := fun i G h => ⟨G, small i G h, Lo.refl G⟩
  have what : ∀ (p : Nat) (b : Blk D) (F : Nat → Loc), (opn R.length R ((true, c0) :: ext))[p]? = some (some b) → (G0 :: (ρR ++ ρe))[p]? = some F →
      (∃ i c, ((true, c0) :: ext)[i]? = some (true, c) ∧ p = sg R.length i ∧ b = .cells true 1 (fun _ => renCont (sg R.length) c) ∧ (Fc :: ρe)[i]? = some F ∧ (i = 0 ∨ R.length < p)) ∨
      (∃ j, p = j + 1 ∧ j < R.length ∧ R[j]? = some (some b) ∧ ρR[j]? = some F) := by
    intro p b F hb hF
    cases p with
    | zero =>
      simp only [opn, List.getElem?_cons_zero, Option.some.injEq] at hb hF
      exact .inl ⟨0, c0, rfl, rfl, hb.symm, by rw [← hF, hGc]; rfl, .inl rfl⟩
    | succ p =>
      simp only [opn, List.getElem?_cons_succ] at hb hF
      rcases Nat.lt_or_ge p R.length with hlt | hge
      · rw [List.getElem?_append_left hlt] at hb
        rw [List.getElem?_append_left (by omega)] at hF
        exact .inr ⟨p, rfl, hlt, hb, hF⟩
      · rw [List.getElem?_append_right hge, List.getElem?_map] at hb
        rw [List.getElem?_append_right (by omega), hn] at hF
        have hi := (List.getElem?_eq_some_iff.1 hF).1
        cases hx : ext[p - R.length]? with
        | none => rw [hx] at hb; cases hb
        | some x =>
          rw [hx] at hb
          simp only [Option.map_some, Option.some.injEq] at hb
          have hx1 : x.1 = true := hown x (List.mem_cons_of_mem _ (List.mem_of_getElem? hx))
          simp only [List.length_cons] at hVl
          refine .inl ⟨p - R.length + 1, x.2, ?_, ?_, hb.symm, by rw [List.getElem?_cons_succ]; exact hF, .inr (by omega)⟩
          · rw [List.getElem?_cons_succ, hx, ← hx1]
          · rw [sg_succ (by omega)]; omega
  have inF : ∀ (i : Nat) (G : Nat → Loc) (k : Nat), (Fc :: ρe)[i]? = some G → (G 0).foot k → (F0 0).foot k := fun i G k hG hk => (hfoot k).2 ⟨i, G, hG, hk⟩
  refine ⟨goes, ⟨?_, ?_, ?_⟩, Ext.refl w _, ?_, ?_, ?_⟩
  · simp [opn, hn, hel]
  · intro p b F idx hb hF
    rcases what p b F hb hF with ⟨i, c, hc, rfl, rfl, hG, _⟩ | ⟨j, rfl, hj, hb', hF'⟩
    · intro hi
      have hi0 : idx = 0 := by have : idx < 1 := hi; omega
      subst hi0
      exact (hs.at_ i true c F hc hG).ren gby
    · exact (r.at_ (j + 1) b F idx (by simpa using hb') (by simpa using hF')).keep goes (Nat.le_refl _) fun _ _ _ => rfl
  · intro p b F idx p' b' F' idx' hb hF hl ho hb' hF' hl' hne k hk hk'
    rcases what p b F hb hF with ⟨i, c, hc, rfl, rfl, hG, _⟩ | ⟨j, rfl, hj, hbj, hFj⟩ <;> rcases what p' b' F' hb' hF' with ⟨i', c', hc', rfl, rfl, hG', _⟩ | ⟨j', rfl, hj', hbj', hFj'⟩
    · have h1 : idx = 0 := by have : idx < 1 := hl; omega
      have h2 : idx' = 0 := by have : idx' < 1 := hl'; omega
      subst h1 h2
      exact hs.apart i i' c c' true F F' hc hG hc' hG' (fun e => hne (by rw [e])) k hk hk'
    · have h1 : idx = 0 := by have : idx < 1 := hl; omega
      subst h1
      exact r.apart 0 _ F0 0 (j' + 1) b' F' idx' rfl rfl rfl rfl (by simpa using hbj') (by simpa using hFj') hl' (by simp) k (inF i F k hG hk) hk'
    · have h2 : idx' = 0 := by have : idx' < 1 := hl'; omega
      subst h2
      exact r.apart (j + 1) b F idx 0 _ F0 0 (by simpa using hbj) (by simpa using hFj) hl ho rfl rfl rfl (by simp) k hk (inF i' F' k hG' hk')
    · exact r.apart (j + 1) b F idx (j' + 1) b' F' idx' (by simpa using hbj) (by simpa using hFj) hl ho (by simpa using hbj') (by simpa using hFj') hl' hne k hk hk'
  · rintro p k ⟨b, F, idx, hb, ho, hl, hF, hk⟩
    rcases what p b F hb hF with ⟨i, c, hc, rfl, rfl, hG, _⟩ | ⟨j, rfl, hj, hbj, hFj⟩
    · have h1 : idx = 0 := by have : idx < 1 := hl; omega
      subst h1
      exact .inr (.inl ⟨0, _, F0, 0, Nat.le_refl _, rfl, rfl, rfl, rfl, inF i F k hG hk⟩)
    · exact .inr (.inr ⟨b, F, idx, by simpa using hbj, ho, hl, by simpa using hFj, hk⟩)
  · intro p b hp hb
    obtain ⟨F, hF⟩ : ∃ F, (G0 :: (ρR ++ ρe))[p]? = some F := by
      have : p < (G0 :: (ρR ++ ρe)).length := by simp at hp ⊢; omega
      exact ⟨_, List.getElem?_eq_getElem this⟩
    rcases what p b F hb hF with ⟨i, c, hc, rfl, rfl, hG, hi⟩ | ⟨j, rfl, hj, hbj, hFj⟩
    · rcases hi with rfl | hi
      · refine ⟨_, rfl, rfl, fun idx h => ?_, fun h => by cases h⟩
        have h : idx < 1 := h
        show idx = 0
        omega
      · simp at hp; omega
    · refine ⟨b, by simpa using hbj, rfl, fun _ h => h, fun _ G G' hG hG' => ?_⟩
      simp only [List.getElem?_cons_succ] at hG hG'
      rw [List.getElem?_append_left (by omega)] at hG'
      rw [hG] at hG'
      exact (Option.some.inj hG').symm
  · intro p b hp hb
    obtain ⟨F, hF⟩ : ∃ F, (G0 :: (ρR ++ ρe))[p]? = some F := by
      have h1 := (List.getElem?_eq_some_iff.1 hb).1
      have : p < (G0 :: (ρR ++ ρe)).length := by simp [opn] at h1; simp; omega
      exact ⟨_, List.getElem?_eq_getElem this⟩
    rcases what p b F hb hF with ⟨i, c, hc, rfl, rfl, hG, hi⟩ | ⟨j, rfl, hj, hbj, hFj⟩
    · rfl
    · simp at hp; omega
  | [], _, hF', hVc => simp at hVc; subst hVc; simp at hF'
  | _ :: _, [], hF', _ => simp at hF'

theorem ofView_get {V : View} {i : Nat} {b : Blk D} (h : (ofView D V)[i]? = some (some b)) : ∃ own c, V[i]? = some (own, c) ∧ b = .cells own 1 fun _ => c := by
  induction V generalizing i with
  | nil => simp [ofView] at h
  | cons x l ih =>
    obtain ⟨own, c⟩ := x
    cases i with
    | zero => simp only [ofView, List.getElem?_cons_zero, Option.some.injEq] at h; exact ⟨own, c, rfl, h.symm⟩
    | succ i => simp only [ofView, List.getElem?_cons_succ] at h; simpa using ih h

theorem ofView_at {V : View} {i : Nat} {own : Bool} {c : Cont} (h : V[i]? = some (own, c)) : (ofView D V)[i]? = some (some (.cells own 1 fun _ => c)) := by
  induction V generalizing i with
  | nil => simp at h
  | cons x l ih =>
    obtain ⟨o, c'⟩ := x
    cases i with
    | zero => simp only [List.getElem?_cons_zero, Option.some.injEq, Prod.mk.injEq] at h; obtain ⟨rfl, rfl⟩ := h; rfl
    | succ i => simp only [ofView, List.getElem?_cons_succ]; exact ih (by simpa using h)

theorem ofView_length (V : View) : (ofView D V).length = V.length := by
  induction V with
  | nil => rfl
  | cons x l ih => obtain ⟨o, c⟩ := x; simp [ofView, ih]

theorem SmallAt.of_rel {ρ : Map} {V : View} {w : World} (r : Rel ρ (ofView D V) w) : SmallAt ρ w V := by
  refine ⟨by rw [r.len, ofView_length], ?_, ?_⟩
  · intro i own c F hc hF
    exact r.at_ i _ F 0 (ofView_at hc) hF (by show 0 < 1; omega)
  · intro i j c c' own F F' hc hF hc' hF' hne k hk hk'
    exact r.apart i _ F 0 j _ F' 0 (ofView_at hc) hF (by show 0 < 1; omega) rfl (ofView_at hc') hF' (by show 0 < 1; omega) (by simpa using hne) k hk hk'

theorem Part.own {θ : List Nat} {Hc H : Heap D} (h : Part θ Hc H) {i j : Nat} {b : Blk D} (hj : θ[i]? = some j) (hb : Hc[i]? = some (some b)) : ∃ b', H[j]? = some (some b') ∧ b'.own = b.own ∧ ∀ idx, b.live idx ↔ b'.live idx := by
  obtain ⟨b', h1, h2⟩ := h.same i j b hj hb
  exact ⟨b', h1, by rw [h2.own, renB_own], fun idx => by rw [← renB_live (rid θ H.length) b idx]; exact h2.live idx⟩

/-- Blocks are put together: κ: where each block of the new heap stands; θ: what the object at place p is made of. -/
theorem Step.closed {ρ ρo : Map} {K H1 T : Heap D} {w w' : World} {low p : Nat} {θ κ : List Nat} {V' : View} {d' : Ab} (r : Rel ρ K w) (hs : Step ρ K w low ρo H1 w') (hθ : Part θ (ofView D V') H1) (hown : ∀ x ∈ V', x.1 = true) (hsh : d'.shows V')
    (hκ : Part κ T H1) (hp : T[p]? = some none) (hroot : ∃ j, θ[0]? = some j ∧ κ[p]? = some j) (hid : ∀ i, i < K.length → κ[i]? = some i) (hdis : ∀ (i j : Nat), i ≠ p → κ[i]? = some j → j ∉ θ) (hold : p < K.length → ∃ o, K[p]? = some (some (.obj o))) :
    ∃ ρ', Step ρ K w 0 ρ' (T.set p (some (.obj (.ab d')))) w' ∧ ∀ v rv, RV ρo (renV (rid κ H1.length) v) rv → RV ρ' v rv := by
  obtain ⟨j0, hj0, hjp⟩ := hroot
  have ro := hs.rel
  have rκ := hκ.rel ro
  have rθ := hθ.rel ro
  have hpT : p < T.length := (List.getElem?_eq_some_iff.1 hp).1
  have getκ : ∀ {i : Nat}, (smallMap κ ρo)[i]? = (match κ[i]? with | some j => ρo[j]? | none => none) := smallMap_get ro hκ
  have getθ : ∀ {i : Nat}, (smallMap θ ρo)[i]? = (match θ[i]? with | some j => ρo[j]? | none => none) := smallMap_get ro hθ
  obtain ⟨Fr, hFr⟩ : ∃ Fr, ρo[j0]? = some Fr := by
    have := hθ.lt 0 j0 hj0
    rw [← ro.len] at this
    exact ⟨_, List.getElem?_eq_getElem this⟩
  obtain ⟨Fn, hFn⟩ : ∃ Fn : Nat → Loc, Fn = fun i => { Fr i with foot := fun k => ∃ (i : Nat) (G : Nat → Loc), (smallMap θ ρo)[i]? = some G ∧ (G 0).foot k } := ⟨_, rfl⟩
  have hloF : Lo Fr Fn := fun i => by rw [hFn]; exact ⟨rfl, rfl, rfl, rfl⟩
  have hfn : ∀ k, (Fn 0).foot k ↔ ∃ (i : Nat) (G : Nat → Loc), (smallMap θ ρo)[i]? = some G ∧ (G 0).foot k := fun k => by rw [hFn]
  have hlk : (smallMap κ ρo).length = T.length := rκ.len
  have getN : ∀ (i : Nat), i ≠ p → ((smallMap κ ρo).set p Fn)[i]? = (smallMap κ ρo)[i]? := fun i h => List.getElem?_set_ne (Ne.symm h)
  have getP : ((smallMap κ ρo).set p Fn)[p]? = some Fn := List.getElem?_set_self (by omega)
  have goesN : Goes (smallMap κ ρo) ((smallMap κ ρo).set p Fn) := by
    intro i F h
    by_cases e : i = p
    · subst e
      rw [getκ, hjp] at h
      simp only at h
      rw [hFr] at h
      cases h
      exact ⟨Fn, getP, hloF⟩
    · exact ⟨F, by rw [getN i e]; exact h, Lo.refl F⟩
  have get : ∀ (i : Nat) (b : Blk D), (T.set p (some (.obj (.ab d'))))[i]? = some (some b) → (i = p ∧ b = .obj (.ab d')) ∨ (i ≠ p ∧ T[i]? = some (some b)) := by
    intro i b h
    by_cases e : i = p
    · subst e
      rw [List.getElem?_set_self hpT] at h
      simp only [Option.some.injEq] at h
      exact .inl ⟨rfl, h.symm⟩
    · rw [List.getElem?_set_ne (Ne.symm e)] at h
      exact .inr ⟨e, h⟩
  have atT : ∀ {i : Nat} {b : Blk D}, T[i]? = some (some b) → ∃ j, κ[i]? = some j := fun {i b} h => by
    have := (List.getElem?_eq_some_iff.1 h).1
    rw [← hκ.len] at this
    exact ⟨_, List.getElem?_eq_getElem this⟩
  -- the small blocks of the object, in the heap ahead
  have parts : ∀ (i : Nat) (G : Nat → Loc), (smallMap θ ρo)[i]? = some G → ∃ j b, θ[i]? = some j ∧ ρo[j]? = some G ∧ H1[j]? = some (some b) ∧ b.own = true ∧ b.live 0 := by
    intro i G h
    rw [getθ] at h
    cases hi : θ[i]? with
    | none => rw [hi] at h; cases h
    | some j =>
      rw [hi] at h
      have hlt : i < V'.length := by
        have := (List.getElem?_eq_some_iff.1 hi).1
        rw [hθ.len, ofView_length] at this
        exact this
      have hb := ofView_at (D := D) (i := i) (own := V'[i].1) (c := V'[i].2) (by rw [List.getElem?_eq_getElem hlt])
      obtain ⟨b', h1, h2, h3⟩ := hθ.own hi hb
      exact ⟨j, b', rfl, h, h1, h2.trans (hown _ (List.getElem_mem hlt)), (h3 0).1 (by show 0 < 1; omega)⟩
  have hApart : ∀ (i : Nat) (b : Blk D) (F : Nat → Loc) (idx k : Nat), i ≠ p → T[i]? = some (some b) → (smallMap κ ρo)[i]? = some F → b.live idx → (Fn 0).foot k → ¬ (F idx).foot k := by
    intro i b F idx k hne hb hF hl hk hk'
    obtain ⟨i', G, hG, hkG⟩ := (hfn k).1 hk
    obtain ⟨j', b', hj', hG', hb', ho', hl'⟩ := parts i' G hG
    obtain ⟨j, hj⟩ := atT hb
    rw [getκ, hj] at hF
    obtain ⟨b2, e1, e2, e3⟩ := hκ.own hj hb
    refine ro.apart j' b' G 0 j b2 F idx hb' hG' hl' ho' e1 hF ((e3 idx).1 hl) ?_ k hkG hk'
    intro e
    simp only [Prod.mk.injEq] at e
    exact hdis i j hne hj (by rw [← e.1]; exact List.mem_of_getElem? hj')
  have relN : Rel ((smallMap κ ρo).set p Fn) (T.set p (some (.obj (.ab d')))) w' := by
    refine ⟨by simp [hlk], ?_, ?_⟩
    · intro i b F idx hb hF
      rcases get i b hb with ⟨rfl, rfl⟩ | ⟨hne, hb⟩
      · rw [getP] at hF
        cases hF
        intro _
        refine ⟨trivial, fun k hk => ?_, V', smallMap θ ρo, Fr, hsh, hown, SmallAt.of_rel rθ, ?_, hloF, hfn⟩
        · obtain ⟨i', G, hG, hkG⟩ := (hfn k).1 hk
          obtain ⟨j', b', hj', hG', hb', ho', hl'⟩ := parts i' G hG
          exact ro.lt hb' hG' hl' hkG
        · rw [getθ, hj0]; exact hFr
      · rw [getN i hne] at hF
        exact (rκ.at_ i b F idx hb hF).keep goesN (Nat.le_refl _) fun _ _ _ => rfl
    · intro i b F idx i' b' F' idx' hb hF hl ho hb' hF' hl' hne k hk hk'
      rcases get i b hb with ⟨rfl, rfl⟩ | ⟨h1, hbT⟩ <;> rcases get i' b' hb' with ⟨rfl, rfl⟩ | ⟨h2, hbT'⟩
      · have e1 : idx = 0 := hl
        have e2 : idx' = 0 := hl'
        exact hne (by rw [e1, e2])
      · have e1 : idx = 0 := hl
        subst e1
        rw [getP] at hF
        cases hF
        rw [getN i' h2] at hF'
        exact hApart i' b' F' idx' k h2 hbT' hF' hl' hk hk'
      · have e2 : idx' = 0 := hl'
        subst e2
        rw [getP] at hF'
        cases hF'
        rw [getN i h1] at hF
        exact hApart i b F idx k h1 hbT hF hl hk' hk
      · rw [getN i h1] at hF
        rw [getN i' h2] at hF'
        exact rκ.apart i b F idx i' b' F' idx' hbT hF hl ho hbT' hF' hl' hne k hk hk'
  have up : ∀ {id k : Nat}, ownAt ρo H1 id k → w.heap.size ≤ k ∨ ownR ρ K 0 k := by
    intro id k h
    rcases hs.each id k h with h | h | ⟨b, F, idx, h⟩
    · exact .inl h
    · exact .inr (h.mono (Nat.zero_le _))
    · exact .inr ⟨id, b, F, idx, Nat.zero_le _, h⟩
  refine ⟨(smallMap κ ρo).set p Fn, ⟨?_, relN, hs.ext.mono fun k _ h => h.mono (Nat.zero_le _), ?_, ?_, ?_⟩, fun v rv h => (RV.unren (small_unren ro hκ) h).goes goesN⟩
  · intro i F h
    have hi : i < K.length := by rw [← r.len]; exact (List.getElem?_eq_some_iff.1 h).1
    obtain ⟨F1, h1, l1⟩ := hs.goes i F h
    obtain ⟨F2, h2, l2⟩ := goesN i F1 (by rw [getκ, hid i hi]; exact h1)
    exact ⟨F2, h2, l1.trans l2⟩
  · rintro i k ⟨b, F, idx, hb, ho, hl, hF, hk⟩
    rcases get i b hb with ⟨rfl, rfl⟩ | ⟨h1, hb⟩
    · have e1 : idx = 0 := hl
      subst e1
      rw [getP] at hF
      cases hF
      obtain ⟨i', G, hG, hkG⟩ := (hfn k).1 hk
      obtain ⟨j', b', hj', hG', hb', ho', hl'⟩ := parts i' G hG
      exact (up ⟨b', G, 0, hb', ho', hl', hG', hkG⟩).imp id .inl
    · rw [getN i h1] at hF
      obtain ⟨j, hj⟩ := atT hb
      rw [getκ, hj] at hF
      obtain ⟨b2, e1, e2, e3⟩ := hκ.own hj hb
      exact (up ⟨b2, F, idx, e1, e2.trans ho, (e3 idx).1 hl, hF, hk⟩).imp id .inl
  · intro i b hi hb
    rcases get i b hb with ⟨rfl, rfl⟩ | ⟨h1, hb⟩
    · obtain ⟨o, ho⟩ := hold hi
      exact ⟨_, ho, rfl, fun _ h => h, fun h => by cases h⟩
    · obtain ⟨b2, e1, e2, e3⟩ := hκ.own (hid i hi) hb
      obtain ⟨b0, f1, f2, f3, f4⟩ := hs.old i b2 hi e1
      refine ⟨b0, f1, by rw [← e2]; exact f2, fun idx hx => f3 idx ((e3 idx).1 hx), fun ho F F' hF hF' => ?_⟩
      rw [getN i h1, getκ, hid i hi] at hF'
      exact f4 (e2.trans ho) F F' hF hF'
  · intro i b hi hb
    rcases get i b hb with ⟨rfl, rfl⟩ | ⟨h1, hb⟩
    · rfl
    · obtain ⟨j, hj⟩ := atT hb
      obtain ⟨b2, e1, e2, _⟩ := hκ.own hj hb
      rw [← e2]
      refine hs.mine j b2 ?_ e1
      rcases Nat.lt_or_ge j K.length with hlt | hge
      · have := hκ.inj i j j hj (hid j hlt)
        omega
      · exact hge

/-- A call with an object at the first place: what it does with each way in which that may lie. -/
theorem CanOk.ab {P : Program} {f : FuncId} {d d' : Ab} {R T : Heap D} {args : List AV} {v : AV}
    (h : ∀ V, d.shows V → ∃ v1 H1 low es κt V', CanOk P f (opn R.length R V) args v1 H1 low ∧ Part (0 :: es) (ofView D V') H1 ∧ (∀ x ∈ V', x.1 = true) ∧ d'.shows V' ∧ Part (0 :: κt) (none :: T) H1 ∧ (∀ i, i < R.length → κt[i]? = some (i + 1)) ∧
      (∀ j ∈ κt, j ∉ (0 :: es)) ∧ v1 = renV (rid (0 :: κt) H1.length) v) :
    CanOk P f (some (.obj (.ab d)) :: R) args v (some (.obj (.ab d')) :: T) 0 := by
  intro ρ w as r ha
  obtain ⟨V, ρ', hV, ho⟩ := r.opened
  obtain ⟨v1, H1, low, es, κt, V', hc, hθ, hown, hsh, hκ, hid, hdis, rfl⟩ := h V hV
  refine (hc ρ' w as ho.rel (ha.mono fun _ _ => RV.goes ho.goes)).mono fun e w' he => ?_
  obtain ⟨rv, ρo, rfl, hs, hr⟩ := he
  obtain ⟨ρ2, h2, h3⟩ := Step.closed (p := 0) r (Step.trans r ho hs) hθ hown hsh hκ rfl ⟨0, rfl, rfl⟩ (fun i hi => by
    cases i with
    | zero => rfl
    | succ i => rw [List.getElem?_cons_succ]; exact hid i (by simpa using hi)) (fun i j hne hj => by
    cases i with
    | zero => exact absurd rfl hne
    | succ i => rw [List.getElem?_cons_succ] at hj; exact hdis j (List.mem_of_getElem? hj)) (fun _ => ⟨_, rfl⟩)
  exact ⟨rv, ρ2, rfl, h2, h3 v rv hr⟩

/-- A call that touches nothing, and answers no address. -/
theorem CanOk.abR {P : Program} {f : FuncId} {d : Ab} {R : Heap D} {args : List AV} {v : AV} (hv : flatV v = true)
    (h : ∀ V, d.shows V → ∃ H1 low, CanOk P f (opn R.length R V) args v H1 low ∧ (opn R.length R V).length ≤ low) : CanOk P f (some (.obj (.ab d)) :: R) args v (some (.obj (.ab d)) :: R) (R.length + 1) := by
  intro ρ w as r ha
  obtain ⟨V, ρ', hV, ho⟩ := r.opened
  obtain ⟨H1, low, hc, hl⟩ := h V hV
  refine (hc ρ' w as ho.rel (ha.mono fun _ _ => RV.goes ho.goes)).mono fun e w' he => ?_
  obtain ⟨rv, ρo, rfl, hs, hr⟩ := he
  have hext : Ext w w' fun _ => False := hs.ext.mono fun k hk o => (ownR.none (o.mono hl)).elim
  refine ⟨rv, ρ, rfl, ⟨Goes.refl ρ, ⟨r.len, ?_, r.apart⟩, hext.mono fun _ _ h => h.elim, ?_, ?_, ?_⟩, RV.flatten hv hr⟩
  · intro id b F idx hb hF
    exact (r.at_ id b F idx hb hF).keep (Goes.refl ρ) hext.size fun hl k hk => hext.block k (r.lt hb hF hl hk) (fun h => h)
  · intro id k o
    exact .inr (.inr o)
  · intro id b hid hb
    exact ⟨b, hb, rfl, fun _ h => h, fun _ F F' hF hF' => by rw [hF] at hF'; exact (Option.some.inj hF').symm⟩
  · intro id b hge hb
    have := (List.getElem?_eq_some_iff.1 hb).1
    simp at this hge
    omega
end
end
end Go.Proofs.Ytnoonoghemgbbaa.Sx

/-
  A symbolic evaluator over the model's code: part 30: summaries by canonical form, with objects.
-/
set_option linter.unusedVariables false
set_option linter.unusedSimpArgs false
namespace Go.Proofs.Ytnoonoghemgbbaa.Sx
open Go
noncomputable section

/-- Entry by entry. -/
def PartL {D : Type} (f : Nat → Nat) : List Nat → Heap D → Heap D → Prop
  | [], [], _ => True
  | j :: θ, some b :: Hc, H => H[j]? = some (some (renB f b)) ∧ PartL f θ Hc H
  | j :: θ, none :: Hc, H => j < H.length ∧ PartL f θ Hc H
  | _, _, _ => False

inductive VB where
  | b (own : Bool) (c : Cont)
  | o (x : Ob)

def ofVB (D : Type) : List VB → Heap D
  | [] => []
  | .b own c :: l => some (.cells own 1 fun _ => c) :: ofVB D l
  | .o x :: l => some (.obj x) :: ofVB D l

def smallO {D : Type} (θ : List Nat) (H : Heap D) : List Nat → Option (List VB)
  | [] => some []
  | id :: l => match H[id]? with
    | some (some (.cells own 1 c)) => match plainCont (c 0) && (idsCont (c 0)).all (knows θ) with
      | true => match smallO θ H l with
        | some m => some (.b own (normCont (renCont (bk θ) (c 0))) :: m)
        | none => none
      | false => none
    | some (some (.obj (.ab d))) => match smallO θ H l with
      | some m => some (.o (.ab d) :: m)
      | none => none
    | _ => none

def canonO {D : Type} (args : List AV) (H : Heap D) : Option (List Nat × (List AV × List VB)) :=
  let θ := reachA H 64 (args.flatMap idsV) []
  match distinctL θ && (Nat.ble θ.length 1000000000 && (args.flatMap idsV).all (knows θ)) with
  | true => match smallO θ H θ with
    | some Hc => some (θ, (args.map (renV (bk θ)), Hc))
    | none => none
  | false => none

def objFind {D : Type} (g : List AV → List VB → Option (List (Way D))) (args : List AV) (H : Heap D) : Option (List Nat × (List AV × List VB)) :=
  match canonO args H with
  | some (θ, x) => match g x.1 x.2 with
    | some _ => some (θ, x)
    | none => none
  | none => none

def objWays {D : Type} (g : List AV → List VB → Option (List (Way D))) (x : List AV × List VB) : List (Way D) := match g x.1 x.2 with
  | some l => l
  | none => []

/-- A summary by canonical form, with objects. -/
def objSum {D : Type} (g : List AV → List VB → Option (List (Way D))) : Sum D := mkSum (objFind g) (objWays g)

section
variable {D : Type}

theorem PartL.at_ {f : Nat → Nat} {H : Heap D} : ∀ {θ : List Nat} {Hc : Heap D}, PartL f θ Hc H → θ.length = Hc.length ∧ ∀ (i j : Nat) (b : Option (Blk D)), θ[i]? = some j → Hc[i]? = some b → j < H.length ∧ ∀ b0, b = some b0 → H[j]? = some (some (renB f b0))
  | [], [], _ => ⟨rfl, fun i j b h => by simp at h⟩
  | j :: θ, some b :: Hc, ⟨h1, h2⟩ => by
    obtain ⟨g1, g2⟩ := PartL.at_ h2
    refine ⟨by simp [g1], fun i k c hk hc => ?_⟩
    cases i with
    | zero =>
      simp only [List.getElem?_cons_zero, Option.some.injEq] at hk hc
      subst hk hc
      exact ⟨(List.getElem?_eq_some_iff.1 h1).1, fun b0 e => by cases e; exact h1⟩
    | succ i => exact g2 i k c (by simpa using hk) (by simpa using hc)
  | j :: θ, none :: Hc, ⟨h1, h2⟩ => by
    obtain ⟨g1, g2⟩ := PartL.at_ h2
    refine ⟨by simp [g1], fun i k c hk hc => ?_⟩
    cases i with
    | zero =>
      simp only [List.getElem?_cons_zero, Option.some.injEq] at hk hc
      subst hk hc
      exact ⟨h1, fun b0 e => by cases e⟩
    | succ i => exact g2 i k c (by simpa using hk) (by simpa using hc)
  | [], _ :: _, h => h.elim
  | _ :: _, [], h => h.elim

theorem PartL.part {θ : List Nat} {Hc H : Heap D} (h : PartL (rid θ H.length) θ Hc H) (few : H.length ≤ 1000000000) (nodup : θ.Nodup) : Part θ Hc H :=
  Part.of h.at_.1 few nodup fun i j b hj hb => ⟨(h.at_.2 i j b hj hb).1, fun b0 e => ⟨_, (h.at_.2 i j b hj hb).2 b0 e, Weak.refl _⟩⟩

theorem smallO_ok {θ : List Nat} {H : Heap D} (hθ : θ.length ≤ 1000000000) : ∀ {l : List Nat} {Hc : List VB}, smallO θ H l = some Hc → l.length = (ofVB D Hc).length ∧
    ∀ (i j : Nat) (b : Option (Blk D)), l[i]? = some j → (ofVB D Hc)[i]? = some b → j < H.length ∧ ∀ b0, b = some b0 → ∃ b', H[j]? = some (some b') ∧ Weak b' (renB (rid θ H.length) b0)
  | [], Hc, h => by
    simp only [smallO, Option.some.injEq] at h
    subst h
    exact ⟨rfl, fun i j b h => by simp at h⟩
  | id :: l, Hc, h => by
    unfold smallO at h
    split at h
    · rename_i own c hid
      split at h
      · rename_i hok
        rw [Bool.and_eq_true] at hok
        split at h
        · rename_i m hm
          cases h
          obtain ⟨h1, h2⟩ := smallO_ok hθ hm
          refine ⟨by simp [h1, ofVB], fun i j b hj hb => ?_⟩
          cases i with
          | zero =>
            simp only [ofVB, List.getElem?_cons_zero, Option.some.injEq] at hj hb
            subst hj hb
            exact ⟨(List.getElem?_eq_some_iff.1 hid).1, fun b0 e => by cases e; exact ⟨_, hid, Weak.norm hθ hok.1 hok.2⟩⟩
          | succ i => exact h2 i j b (by simpa using hj) (by simpa [ofVB] using hb)
        · cases h
      · cases h
    · rename_i d hid
      split at h
      · rename_i m hm
        cases h
        obtain ⟨h1, h2⟩ := smallO_ok hθ hm
        refine ⟨by simp [h1, ofVB], fun i j b hj hb => ?_⟩
        cases i with
        | zero =>
          simp only [ofVB, List.getElem?_cons_zero, Option.some.injEq] at hj hb
          subst hj hb
          exact ⟨(List.getElem?_eq_some_iff.1 hid).1, fun b0 e => by cases e; exact ⟨_, hid, Weak.refl _⟩⟩
        | succ i => exact h2 i j b (by simpa using hj) (by simpa [ofVB] using hb)
      · cases h
    · cases h

theorem objSum_valid {P : Program} {f : FuncId} {g : List AV → List VB → Option (List (Way D))}
    (h : ∀ args Hc l, g args Hc = some l → WaysOk P f (ofVB D Hc) args l) : Valid P f (objSum g) := by
  refine mkSum_valid (π := List AV × List VB) (fun x => ofVB D x.2) (fun x => x.1) ?_ ?_
  · intro args H θ x hfew hf
    unfold objFind at hf
    split at hf
    · rename_i θ' x' hc
      split at hf
      · rename_i l hg
        cases hf
        unfold canonO at hc
        simp only at hc
        split at hc
        · rename_i hb
          rw [Bool.and_eq_true, Bool.and_eq_true] at hb
          split at hc
          · rename_i Hc hs
            simp only [Option.some.injEq, Prod.mk.injEq] at hc
            obtain ⟨rfl, rfl⟩ := hc
            have hθ := Nat.le_of_ble_eq_true hb.2.1
            obtain ⟨h1, h2⟩ := smallO_ok hθ hs
            refine ⟨Part.of h1 hfew (distinctL_ok hb.1) h2, fun ρ as ha => ?_⟩
            simp only
            rw [map_back (ids := idsV) (q := knows _) (fun _ => renV_back fun i => rid_bk hθ) hb.2.2]
            exact ha
          · cases hc
        · cases hc
      · cases hf
    · cases hf
  · intro x k y hy hc
    unfold objWays at hy
    split at hy
    · rename_i l hg
      exact (h x.1 x.2 l hg).get k y hy hc
    · simp at hy

/-- A call that makes an object. -/
theorem CanOk.made {P : Program} {f : FuncId} {d' : Ab} {R T H1 : Heap D} {args : List AV} {v v1 : AV} {low p j : Nat} {es κ : List Nat} {V' : View} (hc : CanOk P f R args v1 H1 low) (few : H1.length ≤ 1000000000) (nd : (j :: es).Nodup)
    (hθ : PartL (rid (j :: es) H1.length) (j :: es) (ofView D V') H1) (hown : ∀ x ∈ V', x.1 = true) (hsh : d'.shows V') (ndκ : κ.Nodup) (hκ : PartL (rid κ H1.length) κ T H1) (hp : T[p]? = some none) (hj : κ[p]? = some j) (hid : ∀ i, i < R.length → κ[i]? = some i)
    (hdis : ∀ (i k : Nat), i ≠ p → κ[i]? = some k → k ∉ (j :: es)) (hpR : R.length ≤ p) (hv : v1 = renV (rid κ H1.length) v) : CanOk P f R args v (T.set p (some (.obj (.ab d')))) 0 := by
  intro ρ w as r ha
  refine (hc ρ w as r ha).mono fun e w' he => ?_
  obtain ⟨rv, ρo, rfl, hs, hr⟩ := he
  subst hv
  obtain ⟨ρ2, h2, h3⟩ := Step.closed (p := p) r hs (hθ.part few nd) hown hsh (hκ.part few ndκ) hp ⟨j, rfl, hj⟩ hid hdis (fun h => by omega)
  exact ⟨rv, ρ2, rfl, h2, h3 v rv hr⟩

/-- What is to be shown of each way in which an object may lie. -/
structure Shut (P : Program) (f : FuncId) (Ho : Heap D) (n : Nat) (args : List AV) (v : AV) (d' : Ab) (T : Heap D) where
  v1 : AV
  H1 : Heap D
  low : Nat
  es : List Nat
  κt : List Nat
  V' : View
  can : CanOk P f Ho args v1 H1 low
  few : H1.length ≤ 1000000000
  nodup : (0 :: es).Nodup
  hθ : PartL (rid (0 :: es) H1.length) (0 :: es) (ofView D V') H1
  own : ∀ x ∈ V', x.1 = true
  shows : d'.shows V'
  nodupκ : (0 :: κt).Nodup
  hκ : PartL (rid (0 :: κt) H1.length) (0 :: κt) (none :: T) H1
  hid : ∀ i, i < n → κt[i]? = some (i + 1)
  dis : ∀ j ∈ κt, j ∉ (0 :: es)
  hv : v1 = renV (rid (0 :: κt) H1.length) v

theorem Shut.can_ {P : Program} {f : FuncId} {d d' : Ab} {R T : Heap D} {args : List AV} {v : AV} (h : ∀ V, d.shows V → Nonempty (Shut P f (opn R.length R V) R.length args v d' T)) :
    CanOk P f (some (.obj (.ab d)) :: R) args v (some (.obj (.ab d')) :: T) 0 :=
  CanOk.ab fun V hV => by
    obtain ⟨s⟩ := h V hV
    exact ⟨s.v1, s.H1, s.low, s.es, s.κt, s.V', s.can, s.hθ.part s.few s.nodup, s.own, s.shows, s.hκ.part s.few s.nodupκ, s.hid, s.dis, s.hv⟩
end
end
end Go.Proofs.Ytnoonoghemgbbaa.Sx
