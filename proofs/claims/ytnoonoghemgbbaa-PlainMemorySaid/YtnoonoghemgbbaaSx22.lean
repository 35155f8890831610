/-
  A symbolic evaluator over the model's code: part 22: whole functions, regions that draw among them.
-/
import Derived.Test.YtnoonoghemgbbaaSx21
set_option linter.unusedVariables false
set_option linter.unusedSimpArgs false
namespace Go.Proofs.Ytnoonoghemgbbaa.Sx
open Go
noncomputable section
section
variable {D : Type}

abbrev runF (P : Program) (S : FuncId → Option (Sum D)) (L : FuncId → Nat → Option (Code × LSum D)) (fuel n : Nat) (f : FuncId) : Sum D := evalF P S L (fun E => drawR P E) fuel n f

theorem runF_valid {P : Program} (hmix : P.follows .mixedOrders = true) {S : FuncId → Option (Sum D)} (hS : ∀ f s, S f = some s → Valid P f s) {L : FuncId → Nat → Option (Code × LSum D)} (hL : ∀ f k b s, L f k = some (b, s) → LValid P b s)
    (fuel n : Nat) (f : FuncId) : Valid P f (runF P S L fuel n f) :=
  evalF_valid hS hL (fun _ hE => drawR_ok hmix hE) fuel n f
end
end
end Go.Proofs.Ytnoonoghemgbbaa.Sx
