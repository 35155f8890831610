/-
  A symbolic evaluator over the model's code: part 7: operations that turn memory: what they do to an abstract heap.
-/
import Derived.Test.YtnoonoghemgbbaaSx6
set_option linter.unusedVariables false
set_option linter.unusedSimpArgs false
namespace Go.Proofs.Ytnoonoghemgbbaa.Sx
open Go
noncomputable section

instance (cap : Option Nat) (x : Nat) : Decidable (match cap with | some c => c < x | none => False) :=
  match cap with
  | some c => inferInstanceAs (Decidable (c < x))
  | none => isFalse id
instance (cap : Option Nat) (x : Nat) : Decidable (match cap with | some c => x ≤ c | none => True) :=
  match cap with
  | some c => inferInstanceAs (Decidable (x ≤ c))
  | none => isTrue trivial

def toInts (k : IntKind) : List Cell → Option (List Int) := colInts k

def Cont.put (c : Cont) (off : Nat) (xs : List Cell) : Option (Cd × Cont) :=
  match c with
  | .raw cs => match Nat.ble (off + xs.length) cs.length with
    | true => some (cd True, .raw (cs.take off ++ xs ++ cs.drop (off + xs.length)))
    | false => none
  | .ints k l => match xs with
    | [.int k' n] => match kindEq k k' with
      | true => some (cd (off < l.length), .ints k (l.set off n))
      | false => none
    | _ => none
  | .fam _ _ _ => none

def Cont.sub (c : Cont) (off n : Nat) : Option (Cd × Cont) :=
  match c with
  | .raw cs => match Nat.ble (off + n) cs.length with
    | true => some (cd True, .raw ((cs.drop off).take n))
    | false => none
  | .ints k l => some (cd (off + n ≤ l.length), .ints k ((l.drop off).take n))
  | .fam m sz f => some (cd (off % sz = 0 ∧ n % sz = 0 ∧ off + n ≤ m * sz ∧ 0 < sz), .fam (n / sz) sz fun i => f (off / sz + i))

def Cont.cat : Cont → Cont → Option Cont
  | .raw [], c => some c
  | c, .raw [] => some c
  | .raw a, .raw b => some (.raw (a ++ b))
  | .ints k l, .ints k' m => match kindEq k k' with
    | true => some (.ints k (l ++ m))
    | false => none
  | .ints k l, .raw b => match toInts k b with
    | some m => some (.ints k (l ++ m))
    | none => none
  | .raw a, .ints k m => match toInts k a with
    | some l => some (.ints k (l ++ m))
    | none => none
  | _, _ => none

/-- Cells of a block become others, of the same number. -/
def Cont.over (c : Cont) (off : Nat) (x : Cont) : Option (Cd × Cont) :=
  match c, x with
  | .raw cs, .raw xs => match Nat.ble (off + xs.length) cs.length with
    | true => some (cd True, .raw (cs.take off ++ xs ++ cs.drop (off + xs.length)))
    | false => none
  | .ints k l, .ints k' m => match kindEq k k' with
    | true => some (cd (off + m.length ≤ l.length), .ints k (l.take off ++ m ++ l.drop (off + m.length)))
    | false => none
  | .ints k l, .raw xs => match toInts k xs with
    | some m => some (cd (off + m.length ≤ l.length), .ints k (l.take off ++ m ++ l.drop (off + m.length)))
    | none => none
  | _, _ => none

/-- Zeros: n elements of zero cells z. -/
def zerosA (z : List Cell) (n : Nat) : Cont :=
  match z with
  | [.int k x] => .ints k (List.replicate n x)
  | z => .fam n z.length fun _ => z

def repA (z : List Cell) : Nat → List Cell
  | 0 => []
  | n + 1 => z ++ repA z n

/-- Where the elements of a slice, or the bytes of a text, come from: the condition, the cells, how many elements. -/
def srcA {D : Type} (H : Heap D) (size : Nat) : Cell → Option (Cd × Cont × Nat)
  | .slice nl id idx off len _ sz => match contAt H id idx with
    | some (_, live, c) => match c.sub off (len * size) with
      | some (p, c') => some (cand (cd (nl = true ∨ sz = size)) (cand live p), c', len)
      | none => none
    | none => some (cd (nl = true), .raw [], 0)
  | .empty => some (cd True, .raw [], 0)
  | .str l => some (cd (size = 1), .ints .u8 (l.map fun b => (b.toNat : Int)), l.length)
  | _ => none

def bytesA (P : Program) (t : TypeId) : Option Nat :=
  match inf P t with
  | some i => some i.bytes
  | none => none

abbrev MR (D : Type) := Option (Cd × AV × Heap D × Nat × Dec)

def appendA {D : Type} (P : Program) (H : Heap D) (ty : TypeId) (s x : Cell) (dec : Dec) : MR D :=
  match und P ty with
  | some (.slice e) => match sizeA P e, bytesA P e, zeroA P e with
    | some size, some bytes, some z => match srcA H size x with
      | some (p, cx, n) => match dec, s with
        | 0 :: d, .slice nl id idx off len cap sz => match srcA H size (.slice nl id idx off len cap sz) with
          | some (q, cs, _) => match cs.cat cx with
            | some c => some (cand p (cand q (cd (z.length = size ∧ 0 < size ∧ (len + n) * bytes ≤ 140737488355328 ∧ (len + n) ≤ 9223372036854775807 ∧
                ((nl = true ∧ 0 < n) ∨ (nl = false ∧ (match cap with | some c => c < len + n | none => False)))))),
                .cell (.slice false H.length 0 0 (len + n) none size), H ++ [some (.cells true 1 fun _ => c)], H.length, d)
            | none => none
          | none => none
        | 1 :: d, .slice nl id idx off len cap sz => some (cand p (cd (n = 0)), .cell (.slice nl id idx off len cap sz), H, H.length, d)
        | 1 :: d, .empty => some (cand p (cd (n = 0)), .cell .empty, H, H.length, d)
        | 2 :: d, .slice nl id 0 off len none sz => match nth H id with
          | some (some (.cells true 1 cc)) => match (cc 0).sub off (len * size) with
            | some (q, cs) => match cs.cat cx with
              | some c => some (cand p (cand q (cd (nl = false ∧ sz = size ∧ z.length = size ∧ 0 < size ∧ (len + n) * bytes ≤ 140737488355328 ∧ (len + n) ≤ 9223372036854775807))),
                  .cell (.slice false H.length 0 0 (len + n) none size), setL H id none ++ [some (.cells true 1 fun _ => c)], id, d)
              | none => none
            | none => none
          | _ => none
        | 3 :: d, .slice nl id idx off len cap sz => match nth H id with
          | some (some (.cells true num cc)) => match (cc idx).over (off + len * size) cx with
            | some (q, c) => some (cand p (cand q (cd (nl = false ∧ sz = size ∧ idx < num ∧ 0 < size ∧ off + (len + n) * size ≤ (cc idx).len ∧ (match cap with | some k => len + n ≤ k | none => True)))),
                .cell (.slice nl id idx off (len + n) cap sz), setL H id (some (.cells true num (upd num cc idx c))), id, d)
            | none => none
          | _ => none
        | _, _ => none
      | none => none
    | _, _, _ => none
  | _ => none

def copyA {D : Type} (P : Program) (H : Heap D) (ty : TypeId) (s x : Cell) (dec : Dec) : MR D :=
  match und P ty with
  | some (.slice e) => match sizeA P e with
    | some size => match srcA H size x with
      | some (p, cx, n) => match dec, s with
        | 0 :: d, .slice _ _ _ _ len _ _ => some (cand p (cd (Nat.min n len = 0)), .cell (.int .i64 0), H, H.length, d)
        | 1 :: d, .slice nl id idx off len _ sz => match nth H id with
          | some (some (.cells true num cc)) => match cx.sub 0 (Nat.min n len * size) with
            | some (r, cy) => match (cc idx).over off cy with
              | some (q, c) => some (cand p (cand q (cand r (cd (nl = false ∧ sz = size ∧ idx < num)))),
                  .cell (.int .i64 (Nat.min n len)), setL H id (some (.cells true num (upd num cc idx c))), id, d)
              | none => none
            | none => none
          | _ => none
        | _, _ => none
      | none => none
    | none => none
  | _ => none

def clearA {D : Type} (P : Program) (H : Heap D) (ty : TypeId) (s : Cell) (dec : Dec) : MR D :=
  match und P ty with
  | some (.slice e) => match zeroA P e with
    | some z => match dec, s with
      | 0 :: d, .slice _ _ _ _ len _ _ => some (cd (len = 0), undefA, H, H.length, d)
      | 1 :: d, .slice nl id idx off len _ _ => match nth H id, z with
        | some (some (.cells true num cc)), [.int k x] => match (cc idx).over off (.ints k (List.replicate len x)) with
          | some (q, c) => some (cand q (cd (nl = false ∧ idx < num ∧ 0 < len)), undefA, setL H id (some (.cells true num (upd num cc idx c))), id, d)
          | none => none
        | _, _ => none
      | _, _ => none
    | none => none
  | _ => none

def isSl : Cell → Bool
  | .slice _ _ _ _ _ _ _ => true
  | .empty => true
  | _ => false

def memA {D : Type} (P : Program) (H : Heap D) (t : List AV) (dec : Dec) : Op → MR D
  | .alloc e => match zeroA P e with
    | some z => some (cd True, .cell (.ptr false H.length 0 0), H ++ [some (.cells true 1 fun _ => .raw z)], H.length, dec)
    | none => none
  | .box _ x => match cellsOf t x with
    | some z => some (cd True, .cell (.ptr false H.length 0 0), H ++ [some (.cells true 1 fun _ => .raw z)], H.length, dec)
    | none => none
  | .buildSlice ty len parts => match und P ty with
    | some (.slice e) => match sizeA P e, zeroA P e, partsA t parts.toList with
      | some n, some z, some ps => match fillA (fun i => some (i * n, n)) (repA z len) ps with
        | some cs => some (cd (len * n ≤ 16777216 ∧ z.length = n ∧ 0 < n), .cell (.slice false H.length 0 0 len (some len) n), H ++ [some (.cells true 1 fun _ => .raw cs)], H.length, dec)
        | none => none
      | _, _, _ => none
    | _ => none
  | .makeSlice ty l c => match und P ty, cellOf t l, cellOf t c with
    | some (.slice e), some (.int _ ln), some (.int _ cp) => match sizeA P e, bytesA P e, zeroA P e with
      | some n, some b, some z => some (cd (0 ≤ ln ∧ ln ≤ cp ∧ b * cp ≤ 281474976710656 ∧ cp ≤ 9223372036854775807 ∧ z.length = n ∧ 0 < n),
          .cell (.slice false H.length 0 0 ln.toNat (some cp.toNat) n), H ++ [some (.cells true 1 fun _ => zerosA z cp.toNat)], H.length, dec)
      | _, _, _ => none
    | _, _, _ => none
  | .store ty a x => match cellOf t a, cellsOf t x, sizeA P ty with
    | some (.ptr nl id idx off), some xs, some n => match nth H id with
      | some (some (.cells true num cc)) => match (cc idx).put off xs with
        | some (p, c) => some (cand (cd (nl = false ∧ idx < num ∧ xs.length = n)) p, undefA, setL H id (some (.cells true num (upd num cc idx c))), id, dec)
        | none => none
      | _ => none
    | _, _, _ => none
  | .convert s d x => match und P s, und P d, cellOf t x with
    | some .string, some (.slice e), some (.str l) => match und P e with
      | some (.int .u8) => some (cd ((l.length : Int) ≤ 9223372036854775807), .cell (.slice false H.length 0 0 l.length none 1), H ++ [some (.cells true 1 fun _ => .ints .u8 (l.map fun b => (b.toNat : Int)))], H.length, dec)
      | _ => none
    | some (.slice e), some .string, some c => match und P e, srcA H 1 c, isSl c with
      | some (.int .u8), some (p, .ints .u8 l, n), true => some (cand p (cd (l.length = n)), .cell (.str (l.map fun n => UInt8.ofNat n.toNat)), H, H.length, dec)
      | some (.int .u8), some (p, .raw cs, n), true => match toInts .u8 cs with
        | some l => some (cand p (cd (l.length = n)), .cell (.str (l.map fun n => UInt8.ofNat n.toNat)), H, H.length, dec)
        | none => none
      | _, _, _ => none
    | _, _, _ => none
  | .call c => match c.callee, c.args.toList, c.argTypes.toList with
    | .builtin .append, [s, x], [ty, tx] => match cellOf t s, cellOf t x, und P tx with
      | some sc, some xc, some (.slice _) => appendA P H ty sc xc dec
      | some sc, some (.str l), some .string => appendA P H ty sc (.str l) dec
      | _, _, _ => none
    | .builtin .copy, [s, x], [ty, _] => match cellOf t s, cellOf t x with
      | some sc, some xc => copyA P H ty sc xc dec
      | _, _ => none
    | .builtin .clear, [s], [ty] => match cellOf t s with
      | some sc => clearA P H ty sc dec
      | none => none
    | _, _, _ => none
  | _ => none
end
end Go.Proofs.Ytnoonoghemgbbaa.Sx
