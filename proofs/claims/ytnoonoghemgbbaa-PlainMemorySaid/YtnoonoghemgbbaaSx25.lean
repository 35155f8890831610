/-
  A symbolic evaluator over the model's code: part 25: runs as equations: what is closed is left to the kernel, what is not is said.
-/
import Derived.Test.YtnoonoghemgbbaaSx24
set_option linter.unusedVariables false
set_option linter.unusedSimpArgs false
namespace Go.Proofs.Ytnoonoghemgbbaa.Sx
open Go
noncomputable section

def AllP : List Prop → Prop
  | [] => True
  | p :: l => p ∧ AllP l

/-- The conditions that are said: so many are passed over, then one is said, and so on. -/
def picked : List Nat → VC → List Prop
  | [], _ => []
  | _ :: _, [] => []
  | 0 :: ks, c :: l => c.p :: picked ks l
  | (k + 1) :: ks, _ :: l => picked (k :: ks) l

def lefts : List Nat → VC → List (Σ X : Type, X)
  | _, [] => []
  | [], c :: l => ⟨c.X, c.l⟩ :: lefts [] l
  | 0 :: ks, _ :: l => lefts ks l
  | (k + 1) :: ks, c :: l => ⟨c.X, c.l⟩ :: lefts (k :: ks) l

def rights : List Nat → VC → List (Σ X : Type, X)
  | _, [] => []
  | [], c :: l => ⟨c.X, c.r⟩ :: rights [] l
  | 0 :: ks, _ :: l => rights ks l
  | (k + 1) :: ks, c :: l => ⟨c.X, c.r⟩ :: rights (k :: ks) l

theorem of_sides : ∀ (ks : List Nat) (vc : VC), lefts ks vc = rights ks vc → AllP (picked ks vc) → VC.ok vc
  | _, [], _, _ => trivial
  | [], c :: l, h, hp => by
    simp only [lefts, rights, List.cons.injEq, Sigma.mk.injEq, heq_eq_eq, true_and] at h
    exact ⟨c.h h.1, of_sides [] l h.2 (by cases l <;> exact trivial)⟩
  | 0 :: ks, c :: l, h, hp => ⟨hp.1, of_sides ks l h hp.2⟩
  | (k + 1) :: ks, c :: l, h, hp => by
    simp only [lefts, rights, List.cons.injEq, Sigma.mk.injEq, heq_eq_eq, true_and] at h
    exact ⟨c.h h.1, of_sides (k :: ks) l h.2 hp⟩

def said {β : Type} (ks : List Nat) (r : Option (VC × β)) : Option (List Prop × β) :=
  match r with
  | some (vc, y) => some (picked ks vc, y)
  | none => none
def leftOf {β : Type} (ks : List Nat) (r : Option (VC × β)) : List (Σ X : Type, X) :=
  match r with
  | some (vc, _) => lefts ks vc
  | none => []
def rightOf {β : Type} (ks : List Nat) (r : Option (VC × β)) : List (Σ X : Type, X) :=
  match r with
  | some (vc, _) => rights ks vc
  | none => []

/-- A run goes so, under the conditions that are said. -/
structure Good {β : Type} (r : Option (VC × β)) (ks : List Nat) (ps : List Prop) (y : β) : Prop where
  out : said ks r = some (ps, y)
  eqs : leftOf ks r = rightOf ks r

theorem Good.ok {β : Type} {r : Option (VC × β)} {ks : List Nat} {ps : List Prop} {y : β} (h : Good r ks ps y) (hp : AllP ps) : ∃ vc, r = some (vc, y) ∧ VC.ok vc := by
  obtain ⟨h1, h2⟩ := h
  cases r with
  | none => cases h1
  | some x =>
    obtain ⟨vc, z⟩ := x
    simp only [said, Option.some.injEq, Prod.mk.injEq] at h1
    obtain ⟨rfl, rfl⟩ := h1
    exact ⟨vc, rfl, of_sides ks vc h2 hp⟩

section
variable {D : Type}

theorem Good.can {P : Program} {f : FuncId} {s : Sum D} (hs : Valid P f s) {args : List AV} {H H' : Heap D} {dec d : Dec} {v : AV} {low : Nat} {ks : List Nat} {ps : List Prop}
    (h : Good (s args H dec) ks ps (v, H', low, d)) (hp : AllP ps) : CanOk P f H args v H' low := by
  obtain ⟨vc, e, hv⟩ := h.ok hp
  exact hs.can e hv

/-- The loops of code, each ahead of those in it. -/
def loopsOf : Code → List Code
  | .seq x y => loopsOf x ++ loopsOf y
  | .cond _ x y => loopsOf x ++ loopsOf y
  | .block _ x => loopsOf x
  | .loop x => x :: loopsOf x
  | _ => []

def bodyOf (P : Program) (f : FuncId) (k : Nat) : Code :=
  match P.funcs[f]? with
  | some fn => match fn.body with
    | some c => match (loopsOf c)[k]? with
      | some b => b
      | none => .skip
    | none => .skip
  | none => .skip

/-- A loop of which it is known what it does to one state. -/
def oneLoop (t0 : List AV) (H0 : Heap D) (ex : Ex) (t' : List AV) (H' : Heap D) (low : Nat) : LSum D := fun t H dec => some ([cq t t0, cq H H0], ex, t', H', low, dec)

theorem oneLoop_valid {P : Program} {body : Code} {t0 t' : List AV} {H0 H' : Heap D} {ex : Ex} {low : Nat} (h : Runs P (.loop body) t0 H0 ex t' H' low) : LValid P body (oneLoop t0 H0 ex t' H' low) := by
  intro t H dec p ex1 t1 H1 low1 d hs hp
  simp only [oneLoop, Option.some.injEq, Prod.mk.injEq] at hs
  obtain ⟨rfl, rfl, rfl, rfl, rfl, rfl⟩ := hs
  obtain ⟨h1, h2, _⟩ := hp
  have h1 : t = t0 := h1
  have h2 : H = H0 := h2
  subst h1 h2
  exact h

theorem Runs.round {P : Program} {body : Code} {t t1 t2 : List AV} {H H1 H2 : Heap D} {ex : Ex} {l1 l2 : Nat} (hb : Runs P body t H .normal t1 H1 l1) (hl : Runs P (.loop body) t1 H1 ex t2 H2 l2) :
    Runs P (.loop body) t H ex t2 H2 (min l1 l2) := by
  obtain ⟨m, hm⟩ := hl
  refine ⟨m + 1, fun q B ρ w a r ht hd => ?_⟩
  refine wpIn_mono (hb.wp r ht hd) fun e a' w' he => ?_
  obtain ⟨rfl, hd', ρ', hs, ht'⟩ := he
  exact rounds_mono (fun e a w h => h.trans r hs) (hm q B ρ' w' a' hs.rel ht' hd')

theorem Runs.last {P : Program} {body : Code} {t t1 : List AV} {H H1 : Heap D} {ex : Ex} {l1 : Nat} (hb : Runs P body t H ex t1 H1 l1) (hex : ex ≠ .normal) : Runs P (.loop body) t H ex t1 H1 l1 := by
  refine ⟨1, fun q B ρ w a r ht hd => ?_⟩
  refine wpIn_mono (hb.wp r ht hd) fun e a' w' he => ?_
  obtain ⟨rfl, rest⟩ := he
  cases ex with
  | normal => exact absurd rfl hex
  | exit id => exact ⟨rfl, rest⟩
  | ret => exact ⟨rfl, rest⟩

theorem Runs.low {P : Program} {body : Code} {t t1 : List AV} {H H1 : Heap D} {ex : Ex} {l1 l2 : Nat} (hb : Runs P (.loop body) t H ex t1 H1 l1) (hl : l2 ≤ l1) : Runs P (.loop body) t H ex t1 H1 l2 := by
  obtain ⟨m, hm⟩ := hb
  exact ⟨m, fun q B ρ w a r ht hd => rounds_mono (fun e a w h => ⟨h.1, h.2.1, h.2.2.imp fun ρ' h => ⟨h.1.mono hl, h.2⟩⟩) (hm q B ρ w a r ht hd)⟩

/-- The ways of a call, one by one. -/
def WaysOk (P : Program) (f : FuncId) (H : Heap D) (args : List AV) : List (Way D) → Prop
  | [] => True
  | y :: l => (VC.ok y.cond → CanOk P f H args y.v y.H y.low) ∧ WaysOk P f H args l

theorem WaysOk.get {P : Program} {f : FuncId} {H : Heap D} {args : List AV} : ∀ {l : List (Way D)}, WaysOk P f H args l → ∀ (k : Nat) (y : Way D), l[k]? = some y → VC.ok y.cond → CanOk P f H args y.v y.H y.low
  | [], _, k, y, h => by simp at h
  | x :: l, hl, k, y, h => by
    cases k with
    | zero => simp only [List.getElem?_cons_zero, Option.some.injEq] at h; subst h; exact hl.1
    | succ k => exact hl.2.get k y (by simpa using h)

theorem canon_of {P : Program} {f : FuncId} {g : List AV → View → Option (List (Way D))} (h : ∀ args Hc l, g args Hc = some l → WaysOk P f (ofView D Hc) args l) : Valid P f (canonSum g) :=
  canonSum_valid fun args Hc l hg k y hy hc => (h args Hc l hg).get k y hy hc

/-- The ways of a quiet call. -/
def QWaysOk (D : Type) (P : Program) (f : FuncId) (args : List AV) : List QWay → Prop
  | [] => True
  | y :: l => (VC.ok y.cond → flatV y.v = true ∧ ∃ Hg low, CanOk P f ([] : Heap D) args y.v Hg low) ∧ QWaysOk D P f args l

theorem QWaysOk.get {P : Program} {f : FuncId} {args : List AV} : ∀ {l : List QWay}, QWaysOk D P f args l → ∀ (k : Nat) (y : QWay), l[k]? = some y → VC.ok y.cond →
    flatV y.v = true ∧ ∃ Hg low, CanOk P f ([] : Heap D) args y.v Hg low
  | [], _, k, y, h => by simp at h
  | x :: l, hl, k, y, h => by
    cases k with
    | zero => simp only [List.getElem?_cons_zero, Option.some.injEq] at h; subst h; exact hl.1
    | succ k => exact hl.2.get k y (by simpa using h)

theorem quiet_of {P : Program} {f : FuncId} {g : List AV → Option (List QWay)} (h : ∀ args l, g args = some l → flatVs args = true ∧ QWaysOk D P f args l) : Valid P f (quietSum (D := D) g) :=
  quietSum_valid (fun args l hg => (h args l hg).1) fun args l k y hg hy hc => (h args l hg).2.get k y hy hc

/-- Summaries, by the number of the function. -/
def look : List (Nat × Sum D) → FuncId → Option (Sum D)
  | [], _ => none
  | (k, s) :: l, f => match Nat.beq k f with
    | true => some s
    | false => look l f

def AllV (P : Program) : List (Nat × Sum D) → Prop
  | [] => True
  | (k, s) :: l => Valid P k s ∧ AllV P l

theorem AllV.look {P : Program} : ∀ {l : List (Nat × Sum D)}, AllV P l → ∀ f s, look l f = some s → Valid P f s
  | [], _, f, s, h => by cases h
  | (k, s') :: l, hl, f, s, h => by
    unfold Sx.look at h
    cases hb : Nat.beq k f with
    | true =>
      simp only [hb, Option.some.injEq] at h
      subst h
      have := Nat.eq_of_beq_eq_true hb
      subst this
      exact hl.1
    | false =>
      simp only [hb] at h
      exact hl.2.look f s h

end
end
end Go.Proofs.Ytnoonoghemgbbaa.Sx
