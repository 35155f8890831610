/-
  A symbolic evaluator over the model's code: part 26: loops by an invariant over abstract states.
-/
import Derived.Test.YtnoonoghemgbbaaSx25
set_option linter.unusedVariables false
set_option linter.unusedSimpArgs false
namespace Go.Proofs.Ytnoonoghemgbbaa.Sx
open Go
noncomputable section

/-- States of which some temporaries are not looked at. -/
def junkAt : List Nat → List AV → List AV
  | [], t => t
  | i :: is, t => junkAt is (t.set i .junk)

theorem All2.setL {α β : Type} {R : α → β → Prop} {a : α} (ha : ∀ b, R a b) : ∀ {l : List α} {m : List β} (i : Nat), All2 R l m → All2 R (l.set i a) m
  | [], [], _, h => h
  | _ :: _, _ :: _, 0, h => ⟨ha _, h.2⟩
  | _ :: _, _ :: _, i + 1, h => ⟨h.1, All2.setL ha i h.2⟩
  | [], _ :: _, _, h => h.elim
  | _ :: _, [], _, h => h.elim

section
variable {D : Type}

theorem TR.junk {ρ : Map} {a : Act} : ∀ {is : List Nat} {t : List AV}, TR ρ t a → TR ρ (junkAt is t) a
  | [], _, h => h
  | i :: is, t, h => TR.junk (is := is) (All2.setL (fun _ => trivial) i h : TR ρ (t.set i .junk) a)

theorem Runs.pre {P : Program} {c : Code} {t t' : List AV} {H H' : Heap D} {ex : Ex} {low : Nat} (is : List Nat) (h : Runs P c (junkAt is t) H ex t' H' low) : Runs P c t H ex t' H' low := by
  cases c with
  | loop body => obtain ⟨m, hm⟩ := h; exact ⟨m, fun q B ρ w a r ht hd => hm q B ρ w a r ht.junk hd⟩
  | _ => exact fun q B ρ w a r ht hd => h q B ρ w a r ht.junk hd

theorem Done.junk {B : Nat} {ρ : Map} {H H' : Heap D} {w : World} {ex : Ex} {t' : List AV} {low : Nat} {e : Exit} {a : Act} {w' : World} (is : List Nat) (h : Done B ρ H w ex t' H' low e a w') : Done B ρ H w ex (junkAt is t') H' low e a w' := by
  obtain ⟨h1, h2, ρ', h3, h4⟩ := h
  exact ⟨h1, h2, ρ', h3, h4.junk⟩

theorem Runs.post {P : Program} {c : Code} {t t' : List AV} {H H' : Heap D} {ex : Ex} {low : Nat} (is : List Nat) (h : Runs P c t H ex t' H' low) : Runs P c t H ex (junkAt is t') H' low := by
  cases c with
  | loop body => obtain ⟨m, hm⟩ := h; exact ⟨m, fun q B ρ w a r ht hd => rounds_mono (fun _ _ _ => Done.junk is) (hm q B ρ w a r ht hd)⟩
  | _ => exact fun q B ρ w a r ht hd => wpIn_mono (h q B ρ w a r ht hd) fun _ _ _ => Done.junk is

/-- A loop of which it is known what it does to one state (but for some temporaries). -/
def someLoop (is : List Nat) (t0 : List AV) (H0 : Heap D) (ex : Ex) (t' : List AV) (H' : Heap D) (low : Nat) : LSum D := fun t H dec => some ([cq (junkAt is t) t0, cq H H0], ex, t', H', low, dec)

theorem someLoop_valid {P : Program} {body : Code} {is : List Nat} {t0 t' : List AV} {H0 H' : Heap D} {ex : Ex} {low : Nat} (h : Runs P (.loop body) t0 H0 ex t' H' low) : LValid P body (someLoop is t0 H0 ex t' H' low) := by
  intro t H dec p ex1 t1 H1 low1 d hs hp
  simp only [someLoop, Option.some.injEq, Prod.mk.injEq] at hs
  obtain ⟨rfl, rfl, rfl, rfl, rfl, rfl⟩ := hs
  obtain ⟨h1, h2, _⟩ := hp
  have h1 : junkAt is t = t0 := h1
  have h2 : H = H0 := h2
  subst h1 h2
  exact Runs.pre is h

/-- Code that calls functions, draws, and has loops. -/
abbrev codeR (P : Program) (S : FuncId → Option (Sum D)) (L : Nat → Option (Code × LSum D)) (fuel n : Nat) (c : Code) : LSum D :=
  codeA P (runF P S (fun _ _ => none) fuel n) (drawR P (runF P S (fun _ _ => none) fuel n)) fuel false L noY c

theorem Good.runs {P : Program} (hmix : P.follows .mixedOrders = true) {S : FuncId → Option (Sum D)} (hS : ∀ f s, S f = some s → Valid P f s) {L : Nat → Option (Code × LSum D)} (hL : ∀ k b s, L k = some (b, s) → LValid P b s)
    {fuel n : Nat} {c : Code} {t t' : List AV} {H H' : Heap D} {dec d : Dec} {ex : Ex} {low : Nat} {ks : List Nat} {ps : List Prop}
    (h : Good (codeR P S L fuel n c t H dec) ks ps (ex, t', H', low, d)) (hp : AllP ps) : Runs P c t H ex t' H' low := by
  obtain ⟨vc, e, hv⟩ := h.ok hp
  have hE := runF_valid hmix hS (L := fun _ _ => none) (fun _ _ _ _ h => by cases h) fuel n
  exact (codeA_ok hE (drawR_ok hmix hE) fuel false L noY [] c hL (noY_valid _ _) e hv).runs

/-- A run behind which some temporaries are not looked at. -/
def junkE (is : List Nat) (r : ER D) : ER D :=
  match r with
  | some (vc, ex, t, H, l, d) => some (vc, ex, junkAt is t, H, l, d)
  | none => none

theorem Good.runsJ {P : Program} (hmix : P.follows .mixedOrders = true) {S : FuncId → Option (Sum D)} (hS : ∀ f s, S f = some s → Valid P f s) {L : Nat → Option (Code × LSum D)} (hL : ∀ k b s, L k = some (b, s) → LValid P b s)
    {fuel n : Nat} {c : Code} {is : List Nat} {t t' : List AV} {H H' : Heap D} {dec d : Dec} {ex : Ex} {low : Nat} {ks : List Nat} {ps : List Prop}
    (h : Good (junkE is (codeR P S L fuel n c t H dec)) ks ps (ex, t', H', low, d)) (hp : AllP ps) : Runs P c t H ex t' H' low := by
  obtain ⟨vc, e, hv⟩ := h.ok hp
  unfold junkE at e
  split at e
  · rename_i vc1 ex1 t1 H1 l1 d1 hr
    simp only [Option.some.injEq, Prod.mk.injEq] at e
    obtain ⟨rfl, rfl, rfl, rfl, rfl, rfl⟩ := e
    have hE := runF_valid hmix hS (L := fun _ _ => none) (fun _ _ _ _ h => by cases h) fuel n
    exact Runs.post is (codeA_ok hE (drawR_ok hmix hE) fuel false L noY [] c hL (noY_valid _ _) hr hv).runs
  · cases e

/-- Without what becomes of the heap. -/
def quietE (r : ML D) : Option (VC × (AV × Dec)) :=
  match r with
  | some (vc, v, _, _, d) => some (vc, v, d)
  | none => none

theorem Good.quiet {P : Program} {f : FuncId} {s : Sum D} (hs : Valid P f s) {args : List AV} {H : Heap D} {dec d : Dec} {v : AV} {ks : List Nat} {ps : List Prop}
    (h : Good (quietE (s args H dec)) ks ps (v, d)) (hp : AllP ps) : ∃ H' low, CanOk P f H args v H' low := by
  obtain ⟨vc, e, hv⟩ := h.ok hp
  unfold quietE at e
  split at e
  · rename_i hr
    simp only [Option.some.injEq, Prod.mk.injEq] at e
    obtain ⟨rfl, rfl, rfl⟩ := e
    exact ⟨_, _, hs.can hr hv⟩
  · cases e

/-- One loop of one function. -/
def atLoop (f k : Nat) (b : Code × LSum D) : FuncId → Nat → Option (Code × LSum D) := fun f' k' =>
  match Nat.beq f f', Nat.beq k k' with
  | true, true => some b
  | _, _ => none

theorem atLoop_ok {P : Program} {f k : Nat} {b : Code} {s : LSum D} (h : LValid P b s) : ∀ f' k' b' s', atLoop f k (b, s) f' k' = some (b', s') → LValid P b' s' := by
  intro f' k' b' s' he
  unfold atLoop at he
  split at he
  · cases he; exact h
  · cases he
end
end
end Go.Proofs.Ytnoonoghemgbbaa.Sx
