/-
  A symbolic evaluator over the model's code: part 12: regions, code, calls.
-/
import Derived.Test.YtnoonoghemgbbaaSx11
set_option linter.unusedVariables false
set_option linter.unusedSimpArgs false
namespace Go.Proofs.Ytnoonoghemgbbaa.Sx
open Go
noncomputable section

inductive Ex where
  | normal
  | exit (id : Nat)
  | ret

def Ex.real : Ex → Exit
  | .normal => .normal
  | .exit id => .exit id
  | .ret => .ret

/-- Conditions, one by one. -/
abbrev VC := List Cd
def VC.ok : VC → Prop
  | [] => True
  | c :: l => c.p ∧ VC.ok l

abbrev ML (D : Type) := Option (VC × AV × Heap D × Nat × Dec)
abbrev Sum (D : Type) := List AV → Heap D → Dec → ML D
abbrev ER (D : Type) := Option (VC × Ex × List AV × Heap D × Nat × Dec)
abbrev RR (D : Type) := Option (VC × List AV × Heap D × Nat × Dec)
abbrev LSum (D : Type) := List AV → Heap D → Dec → ER D

def entersA (P : Program) (f : FuncId) : Bool :=
  match nth P.funcs.toList f with
  | some fn => match fn.body with
    | some _ => !(fn.name == "runtime.NumGoroutine")
    | none => false
  | none => false

def argsA (t : List AV) : List Operand → Option (List AV)
  | [] => some []
  | x :: l => match opnd t x, argsA t l with
    | some v, some m => some (v :: m)
    | _, _ => none

def capsA : List (Nat × Nat × Nat) → List AV
  | [] => []
  | (id, idx, off) :: l => .cell (.ptr false id idx off) :: capsA l

section
variable {D : Type}

/-- A call of a function of Go. -/
def goA (P : Program) (E : FuncId → Sum D) (t : List AV) (H : Heap D) (dec : Dec) : Op → ML D
  | .call c => match c.callee with
    | .value f => match cellOf t f with
      | some (.func g caps) => match entersA P g, argsA t c.args.toList with
        | true, some as => E g (as ++ capsA caps) H dec
        | _, _ => none
      | _ => none
    | _ => none
  | _ => none

/-- Operations without a condition. -/
def easy : Op → Bool
  | .move _ => true
  | .assign _ => true
  | .binOp .quo _ _ _ _ => false
  | .binOp .rem _ _ _ _ => false
  | .binOp .shl _ _ _ _ => false
  | .binOp .shr _ _ _ _ => false
  | .binOp .add _ _ _ _ => false
  | .binOp _ _ _ _ _ => true
  | .unOp _ _ _ => true
  | .convert _ _ _ => true
  | .extract _ _ => true
  | .field _ _ _ => true
  | .makeFunc _ _ _ => true
  | .build _ _ => true
  | .call _ => true
  | _ => false

def vcOf (op : Op) (p : Cd) : VC :=
  match easy op with
  | true => []
  | false => [p]

def easyM : Op → Bool
  | .alloc _ => true
  | .box _ _ => true
  | _ => false

def vcOfM (op : Op) (p : Cd) : VC :=
  match easyM op with
  | true => []
  | false => [p]

def opD (P : Program) (E : FuncId → Sum D) (t : List AV) (H : Heap D) (dec : Dec) (op : Op) : ML D :=
  match pureA P H t dec op with
  | some (p, v, d) => some (vcOf op p, v, H, H.length, d)
  | none => match memA P H t dec op with
    | some (p, v, H', l, d) => some (vcOfM op p, v, H', l, d)
    | none => goA P E t H dec op

/-- A call of the rest of a loop over a function. -/
def yldA (Y : Sum D) (t : List AV) (H : Heap D) (dec : Dec) : Op → ML D
  | .call c => match c.callee with
    | .value f => match cellOf t f with
      | some (.yld id) => match argsA t c.args.toList with
        | some as => Y (.cell (.ptr false id 0 0) :: as) H dec
        | none => none
      | _ => none
    | _ => none
  | _ => none

def noY : Sum D := fun _ _ _ => none

def opA (P : Program) (E : FuncId → Sum D) (Y : Sum D) (t : List AV) (H : Heap D) (dec : Dec) (op : Op) : ML D :=
  match opD P E t H dec op with
  | some x => some x
  | none => yldA Y t H dec op

def putA (t : List AV) (dst : Option Tmp) (v : AV) : List AV :=
  match dst with
  | some d => setL t d v
  | none => t

def guardA (ops : Array Oper) (t : List AV) (o : Oper) (dec : Dec) : Option (VC × Bool × Dec) :=
  match o.guard with
  | none => some ([], true, dec)
  | some (j, want) => match nth ops.toList j with
    | some oj => match oj.dst with
      | some d => match nth t d, dec with
        | some (.cell (.bool b)), 0 :: ds => some ([cd ((b == want) = false)], false, ds)
        | some (.cell (.bool b)), (_ + 1) :: ds => some ([cd ((b == want) = true)], true, ds)
        | some (.tup []), _ => some ([], false, dec)
        | _, _ => none
      | none => none
    | none => none

def regionA (P : Program) (E : FuncId → Sum D) (Y : Sum D) (ops : Array Oper) : List Oper → List AV → Heap D → Dec → RR D
  | [], t, H, dec => some ([], t, H, H.length, dec)
  | o :: rest, t, H, dec => match guardA ops t o dec with
    | none => none
    | some (p, false, d) => match regionA P E Y ops rest (putA t o.dst undefA) H d with
      | some (q, r) => some (p ++ q, r)
      | none => none
    | some (p, true, d) => match opA P E Y t H d o.op with
      | some (q, v, H', l, d') => match regionA P E Y ops rest (putA t o.dst v) H' d' with
        | some (s, t', H'', l', d'') => some (p ++ (q ++ s), t', H'', min l l', d'')
        | none => none
      | none => none

def setPs : List AV → List Tmp → List AV → List AV
  | t, p :: ps, v :: vs => setPs (setL t p v) ps vs
  | t, _, _ => t

/-- How a round of a loop over a function was left: what is done behind it. -/
def endOf : Ex → Ob
  | .normal => .loop .ready none
  | .exit id => .loop .done (some (.exit id))
  | .ret => .loop .done (some .ret)

def isNormal : Ex → Bool
  | .normal => true
  | _ => false

def isReady (H : Heap D) (lid : Nat) : Bool :=
  match nth H lid with
  | some (some (.obj (.loop .ready none))) => true
  | _ => false
def isBusy (H : Heap D) (lid : Nat) : Bool :=
  match nth H lid with
  | some (some (.obj (.loop .busy none))) => true
  | _ => false

/-- How a loop over a function is left. -/
def leftA (H : Heap D) (lid : Nat) : Option Ex :=
  match nth H lid with
  | some (some (.obj (.loop .ready none))) => some .normal
  | some (some (.obj (.loop .done (some .ret)))) => some .ret
  | some (some (.obj (.loop .done (some (.exit id))))) => some (.exit id)
  | _ => none

def av1 : AV → Option AV1
  | .cell c => some (.cell c)
  | .agg cs => some (.agg cs)
  | _ => none

def resA (P : Program) (H : Heap D) (t : List AV) : List ResultVar → Dec → Option (VC × List AV1 × Dec)
  | [], dec => some ([], [], dec)
  | .tmp i :: l, dec => match nth t i with
    | some v => match av1 v, resA P H t l dec with
      | some u, some (p, m, d) => some (p, u :: m, d)
      | _, _ => none
    | none => none
  | .cell i ty :: l, dec => match pureA P H t dec (.load ty (.tmp i)) with
    | some (p, v, d) => match av1 v, resA P H t l d with
      | some u, some (q, m, d') => some (p :: q, u :: m, d')
      | _, _ => none
    | none => none

def tupA : List AV1 → AV
  | [v] => v.av
  | l => .tup l

/-- The loops that are known by a summary. -/
abbrev LS (D : Type) := Nat → Option (Code × LSum D)
def noL : LS D := fun _ => none

/-- One round of a loop over a function: the code that takes the iterator's values, and the body. -/
def roundA (run : Bool → LS D → Sum D → Code → LSum D) (L : LS D) (Y : Sum D) (t : List AV) (lid : Nat) (ps : List Tmp) (assign body : Code) : Sum D := fun args H dec =>
  match args with
  | .cell (.ptr false id 0 0) :: vs => match Nat.beq id lid && (Nat.beq vs.length ps.length && isReady H lid) with
    | true => match run false L Y assign (setPs t ps vs) H dec with
      | some (p, .normal, t2, H2, l2, d2) => match isReady H2 lid with
        | true => match run false L Y body t2 (setL H2 lid (some (.obj (.loop .busy none)))) d2 with
          | some (q, ex, _, H4, l4, d4) => match isBusy H4 lid with
            | true => some (p ++ q, .cell (.bool (isNormal ex)), setL H4 lid (some (.obj (endOf ex))), min (min l2 l4) lid, d4)
            | false => none
          | none => none
        | false => none
      | _ => none
    | false => none
  | _ => none

/-- The whole of a loop over a function. -/
def rangeA (P : Program) (run : Bool → LS D → Sum D → Code → LSum D) (L : LS D) (Y : Sum D) (g : Operand) (ps : List Tmp) (assign body : Code) : LSum D := fun t H dec =>
  match cellOf t g with
  | some (.func gf caps) => match nth P.funcs.toList gf with
    | some fn => match fn.body, entersA P gf with
      | some c, true => match run true noL (roundA run L Y t H.length ps assign body) c ((.cell (.yld H.length) :: capsA caps) ++ List.replicate (fn.ntmps - (caps.length + 1)) undefA) (H ++ [some (.obj (.loop .ready none))]) dec with
        | some (_, .exit _, _) => none
        | some (p, _, t', H', l, d) => match resA P H' t' fn.results.toList d, leftA H' H.length with
          | some (q, _, d'), some ex => some (p ++ q, ex, t, setL H' H.length none, min l H.length, d')
          | _, _ => none
        | none => none
      | _, _ => none
    | none => none
  | _ => none

def codeA (P : Program) (E : FuncId → Sum D) (DR : Array Oper → List AV → Heap D → Dec → RR D) : Nat → Bool → LS D → Sum D → Code → LSum D
  | 0, _, _, _, _, _, _, _ => none
  | n + 1, top, L, Y, c, t, H, dec => match c with
    | .skip => some ([], .normal, t, H, H.length, dec)
    | .region _ ops false => match regionA P E Y ops ops.toList t H dec with
      | some (p, t', H', l, d) => some (p, .normal, t', H', l, d)
      | none => none
    | .region _ ops true => match DR ops t H dec with
      | some (p, t', H', l, d) => some (p, .normal, t', H', l, d)
      | none => none
    | .seq x y => match codeA P E DR n top L Y x t H dec with
      | some (p, .normal, t', H', l, d) => match codeA P E DR n top L Y y t' H' d with
        | some (q, ex, t'', H'', l', d') => some (p ++ q, ex, t'', H'', min l l', d')
        | none => none
      | r => r
    | .cond x thn els => match cellOf t x, dec with
      | some (.bool b), 0 :: d => match codeA P E DR n top L Y els t H d with
        | some (p, r) => some (cd (b = false) :: p, r)
        | none => none
      | some (.bool b), (_ + 1) :: d => match codeA P E DR n top L Y thn t H d with
        | some (p, r) => some (cd (b = true) :: p, r)
        | none => none
      | _, _ => none
    | .block id body => match codeA P E DR n top L Y body t H dec with
      | some (p, .exit id', r) => match Nat.beq id' id with
        | true => some (p, .normal, r)
        | false => some (p, .exit id', r)
      | r => r
    | .loop body => match dec with
      | 0 :: d => match codeA P E DR n top L Y body t H d with
        | some (p, .normal, t', H', l, d') => match codeA P E DR n top L Y (.loop body) t' H' d' with
          | some (q, ex, t'', H'', l', d'') => some (p ++ q, ex, t'', H'', min l l', d'')
          | none => none
        | r => r
      | (k + 1) :: d => match L k with
        | some (body', s) => match s t H d with
          | some (p, r) => some (cq body' body :: p, r)
          | none => none
        | none => none
      | [] => none
    | .rangeFunc g ps assign body => match top with
      | true => rangeA P (codeA P E DR n) L Y g ps.toList assign body t H dec
      | false => none
    | .exit id => some ([], .exit id, t, H, H.length, dec)
    | .ret => some ([], .ret, t, H, H.length, dec)
    | _ => none

def bodyA (P : Program) (E : FuncId → Sum D) (L : LS D) (DR : Array Oper → List AV → Heap D → Dec → RR D) (fuel : Nat) (f : FuncId) : Sum D := fun args H dec =>
  match nth P.funcs.toList f with
  | some fn => match fn.body with
    | some c => match codeA P E DR fuel true L noY c (args ++ List.replicate (fn.ntmps - args.length) undefA) H dec with
      | some (p, .exit _, _) => none
      | some (p, _, t, H', l, d) => match resA P H' t fn.results.toList d with
        | some (q, vs, d') => some (p ++ q, tupA vs, H', l, d')
        | none => none
      | none => none
    | none => none
  | none => none

end
end
end Go.Proofs.Ytnoonoghemgbbaa.Sx
