/-
  A symbolic evaluator over the model's code: part 3: what one operation does to abstract values and heaps.
  Every test and every bound is a condition that is handed out; what is chosen at a test is told by a list of decisions.
-/
import Derived.Test.YtnoonoghemgbbaaSx2
set_option linter.unusedVariables false
set_option linter.unusedSimpArgs false
namespace Go.Proofs.Ytnoonoghemgbbaa.Sx
open Go
noncomputable section

abbrev Dec := List Nat

/-- The i-th one of a list; the same list with another one in its place: told by the recursor itself, which the kernel is quick at. -/
def nth {α : Type} (l : List α) : Nat → Option α := List.rec (motive := fun _ => Nat → Option α) (fun _ => none) (fun a _ ih n => Nat.rec (motive := fun _ => Option α) (some a) (fun m _ => ih m) n) l
def setL {α : Type} (l : List α) (i : Nat) (x : α) : List α := List.rec (motive := fun _ => Nat → List α) (fun _ => []) (fun a l ih n => Nat.rec (motive := fun _ => List α) (x :: l) (fun m _ => a :: ih m) n) l i

theorem nth_eq {α : Type} : ∀ (l : List α) (i : Nat), nth l i = l[i]?
  | [], _ => rfl
  | _ :: _, 0 => rfl
  | _ :: l, i + 1 => (nth_eq l i).trans rfl

theorem setL_eq {α : Type} : ∀ (l : List α) (i : Nat) (x : α), setL l i x = l.set i x
  | [], _, _ => rfl
  | _ :: _, 0, _ => rfl
  | a :: l, i + 1, x => by
    show a :: setL l i x = a :: l.set i x
    rw [setL_eq l i x]

/-- What a program says of its types. -/
def inf (P : Program) (t : TypeId) : Option TypeInfo :=
  match nth P.types.toList t with
  | some i => some i
  | none => P.info? t
theorem inf_eq (P : Program) (t : TypeId) : inf P t = P.info? t := by
  unfold inf
  split
  · rename_i i h
    rw [nth_eq, Array.getElem?_toList] at h
    obtain ⟨hlt, _⟩ := Array.getElem?_eq_some_iff.1 h
    show some i = Tables.info? _ t
    unfold Tables.info?
    rw [if_pos hlt, h]
  · rfl

def und (P : Program) (t : TypeId) : Option TypeDesc :=
  match inf P t with
  | some i => match i.desc with
    | .named _ u => match inf P u with
      | some j => some j.desc
      | none => none
    | d => some d
  | none => none

theorem und_eq (P : Program) (t : TypeId) : und P t = P.underlying t := by
  unfold und Program.underlying
  simp only [inf_eq]
  cases h : P.info? t with
  | none => rfl
  | some i =>
    obtain ⟨desc, _⟩ := i
    cases desc <;> first
      | rfl
      | (rename_i u; simp only; cases P.info? u <;> rfl)

/-- A condition, and an equation that is enough for it. -/
structure Cd where
  p : Prop
  X : Type
  l : X
  r : X
  h : l = r → p
instance : CoeSort Cd Prop := ⟨Cd.p⟩
abbrev cd (p : Prop) [Decidable p] : Cd := ⟨p, Bool, decide p, true, of_decide_eq_true⟩
abbrev cand (x y : Cd) : Cd := ⟨x.p ∧ y.p, x.X × y.X, (x.l, y.l), (x.r, y.r), fun h => ⟨x.h (congrArg Prod.fst h), y.h (congrArg Prod.snd h)⟩⟩
abbrev cq {α : Type} (a b : α) : Cd := ⟨a = b, α, a, b, id⟩

def ofV1 : Value → Option Cell
  | .bool b => some (.bool b)
  | .int k n => some (.int k n)
  | .string s => some (.str s.data.toList)
  | .pointer none => some (.ptr true NIL 0 0)
  | .slice none 0 0 => some (.slice true NIL 0 0 0 none 1)
  | .map none => some (.map true NIL 0)
  | .nilFunc => some .nilFunc
  | _ => none

def ofVs : List Value → Option (List Cell)
  | [] => some []
  | v :: l => match ofV1 v, ofVs l with
    | some c, some cs => some (c :: cs)
    | _, _ => none

def ofV : Value → Option AV
  | .agg cs => match ofVs cs.toList with
    | some l => some (.agg l)
    | none => none
  | .tuple vs => match vs.toList with
    | [] => some (.tup [])
    | _ => none
  | v => match ofV1 v with
    | some c => some (.cell c)
    | none => none

def opnd (t : List AV) : Operand → Option AV
  | .tmp i => nth t i
  | .const v => ofV v
  | .func f => some (.cell (.func f []))
  | .global _ => none

def cellOf (t : List AV) (x : Operand) : Option Cell :=
  match opnd t x with
  | some (.cell c) => some c
  | _ => none

def cellsOf (t : List AV) (x : Operand) : Option (List Cell) :=
  match opnd t x with
  | some (.cell c) => some [c]
  | some (.agg cs) => some cs
  | _ => none

def undefA : AV := .tup []

def isAggA (P : Program) (t : TypeId) : Option Bool :=
  match und P t with
  | some (.struct _) => some true
  | some (.array _ _) => some true
  | some _ => some false
  | none => none

def sizeA (P : Program) (t : TypeId) : Option Nat :=
  match inf P t with
  | some i => some i.size
  | none => none

def zeroA (P : Program) (t : TypeId) : Option (List Cell) :=
  match inf P t with
  | some i => match i.zero with
    | some v => ofVs v.cells.toList
    | none => none
  | none => none

/-! ### Cells of a block -/
def Cont.get (c : Cont) (off : Nat) (dec : Dec) : Option (Cd × Cell × Dec) :=
  match c with
  | .raw cs => match nth cs off with
    | some x => some (cd True, x, dec)
    | none => none
  | .ints k l => some (cd (off < l.length), .int k (l.getD off 0), dec)
  | .fam n sz f => match dec with
    | s :: d => match nth (f (off / sz)) s with
      | some x => some (cd (off / sz < n ∧ off % sz = s ∧ s < sz), x, d)
      | none => none
    | [] => none

def Cont.getNs (c : Cont) : Nat → Nat → Dec → Option (Cd × List Cell × Dec)
  | _, 0, dec => some (cd True, [], dec)
  | off, n + 1, dec => match c.get off dec with
    | some (p, x, d) => match c.getNs (off + 1) n d with
      | some (q, xs, d') => some (cand p q, x :: xs, d')
      | none => none
    | none => none

def takeN : Nat → List Cell → Option (List Cell)
  | 0, _ => some []
  | n + 1, x :: l => match takeN n l with
    | some m => some (x :: m)
    | none => none
  | _ + 1, [] => none

def Cont.getN (c : Cont) (off n : Nat) (dec : Dec) : Option (Cd × List Cell × Dec) :=
  match c with
  | .raw cs => match takeN n (cs.drop off) with
    | some xs => some (cd True, xs, dec)
    | none => none
  | .ints k l => (Cont.ints k l).getNs off n dec
  | .fam a b f => (Cont.fam a b f).getNs off n dec

def contAt {D : Type} (H : Heap D) (id idx : Nat) : Option (Bool × Cd × Cont) :=
  match nth H id with
  | some (some (.cells own num c)) => some (own, cd (idx < num), c idx)
  | _ => none

def mkV (agg : Bool) (cs : List Cell) : Option AV :=
  match agg, cs with
  | true, cs => some (.agg cs)
  | false, [c] => some (.cell c)
  | false, _ => none

/-! ### Numbers, texts, and what is asked of them -/
def intBin (op : BinOp) (k : IntKind) (x y : Int) : Option (Cd × Cell) :=
  match op with
  | .add => some (cd True, .int k (k.wrap (x + y)))
  | .sub => some (cd True, .int k (k.wrap (x - y)))
  | .mul => some (cd True, .int k (k.wrap (x * y)))
  | .quo => some (cd (y ≠ 0), .int k (k.wrap (x.tdiv y)))
  | .rem => some (cd (y ≠ 0), .int k (x.tmod y))
  | .and => some (cd True, .int k (k.wrap (BitVec.ofInt k.bits x &&& BitVec.ofInt k.bits y).toNat))
  | .or => some (cd True, .int k (k.wrap (BitVec.ofInt k.bits x ||| BitVec.ofInt k.bits y).toNat))
  | .xor => some (cd True, .int k (k.wrap (BitVec.ofInt k.bits x ^^^ BitVec.ofInt k.bits y).toNat))
  | .andNot => some (cd True, .int k (k.wrap (BitVec.ofInt k.bits x &&& ~~~(BitVec.ofInt k.bits y)).toNat))
  | .eql => some (cd True, .bool (x == y))
  | .neq => some (cd True, .bool (x != y))
  | .lss => some (cd True, .bool (x < y))
  | .leq => some (cd True, .bool (x ≤ y))
  | .gtr => some (cd True, .bool (x > y))
  | .geq => some (cd True, .bool (x ≥ y))
  | _ => none

def shiftBin (op : BinOp) (k : IntKind) (x y : Int) : Option (Cd × Cell) :=
  match op with
  | .shl => some (cd (0 ≤ y), .int k (k.wrap (x * 2 ^ (min y.toNat k.bits))))
  | .shr => some (cd (0 ≤ y), .int k (x.fdiv (2 ^ (min y.toNat k.bits))))
  | _ => none

def strBin (op : BinOp) (x y : List UInt8) : Option (Cd × Cell) :=
  match op with
  | .add => some (cd (((x.length + y.length : Nat) : Int) ≤ 9223372036854775807), .str (x ++ y))
  | .eql => some (cd True, .bool (x == y))
  | .neq => some (cd True, .bool !(x == y))
  | _ => none

def eqlNil (op : BinOp) (b : Bool) : Option (Cd × Cell) :=
  match op with
  | .eql => some (cd True, .bool b)
  | .neq => some (cd True, .bool !b)
  | _ => none

def kindEq (a b : IntKind) : Bool :=
  match a, b with
  | .i8, .i8 | .i16, .i16 | .i32, .i32 | .i64, .i64 | .u8, .u8 | .u16, .u16 | .u32, .u32 | .u64, .u64 => true
  | _, _ => false

def isShift : BinOp → Bool
  | .shl | .shr => true
  | _ => false

def binA (P : Program) (op : BinOp) (ty : TypeId) (a b : Cell) : Option (Cd × Cell) :=
  match a, b with
  | .int k x, .int k' y => match isShift op with
    | true => shiftBin op k x y
    | false => match kindEq k k' with
      | true => intBin op k x y
      | false => none
  | .str x, .str y => strBin op x y
  | .bool x, .bool y => match und P ty with
    | some .bool => match op with
      | .eql => some (cd True, .bool (x == y))
      | .neq => some (cd True, .bool !(x == y))
      | _ => none
    | _ => none
  | .slice nl _ _ _ _ _ _, .slice true _ _ _ _ _ _ => match und P ty with
    | some (.slice _) => eqlNil op nl
    | _ => none
  | .empty, .slice true _ _ _ _ _ _ => match und P ty with
    | some (.slice _) => eqlNil op false
    | _ => none
  | .ptr nl _ _ _, .ptr true _ _ _ => match und P ty with
    | some (.pointer _) => eqlNil op nl
    | _ => none
  | .func _ _, .nilFunc => match und P ty with
    | some (.func _ _ _) => eqlNil op false
    | _ => none
  | .nilFunc, .nilFunc => match und P ty with
    | some (.func _ _ _) => eqlNil op true
    | _ => none
  | _, _ => none

def unA (op : UnOp) (a : Cell) : Option Cell :=
  match op, a with
  | .neg, .int k n => some (.int k (k.wrap (0 - n)))
  | .xor, .int k n => some (.int k (k.wrap (BitVec.ofInt k.bits (if k.signed then -1 else k.max) ^^^ BitVec.ofInt k.bits n).toNat))
  | .not, .bool b => some (.bool !b)
  | _, _ => none

def convA (P : Program) (s d : TypeId) (a : Cell) : Option Cell :=
  match und P s, und P d, a with
  | some _, some (.int k), .int _ n => some (.int k (k.wrap n))
  | some _, some .string, .str l => some (.str l)
  | _, _, _ => none

def AV1.av : AV1 → AV
  | .cell c => .cell c
  | .agg cs => .agg cs

def partA (P : Program) (t : TypeId) (cs : List Cell) (off : Nat) : Option AV :=
  match isAggA P t, sizeA P t with
  | some true, some n => some (.agg ((cs.drop off).take n))
  | some false, some _ => match nth cs off with
    | some c => some (.cell c)
    | none => none
  | _, _ => none

/-- A column of a table: every 'sz'-th cell. -/
def column (sz : Nat) : Nat → List Cell → List Cell
  | 0, _ => []
  | n + 1, cs => match cs with
    | [] => []
    | c :: _ => c :: column sz n (cs.drop sz)

def colInts (k : IntKind) : List Cell → Option (List Int)
  | [] => some []
  | .int k' n :: l => match kindEq k k', colInts k l with
    | true, some ns => some (n :: ns)
    | _, _ => none
  | _ => none
def colBools : List Cell → Option (List Bool)
  | [] => some []
  | .bool b :: l => match colBools l with
    | some ns => some (b :: ns)
    | _ => none
  | _ => none
def colStrs : List Cell → Option (List (List UInt8))
  | [] => some []
  | .str b :: l => match colStrs l with
    | some ns => some (b :: ns)
    | _ => none
  | _ => none

/-- The cell of a column at a place that is not known. -/
def colAt (col : List Cell) (i : Nat) : Option Cell :=
  match col with
  | .int k _ :: _ => match colInts k col with
    | some l => some (.int k (l.getD i 0))
    | none => none
  | .bool _ :: _ => match colBools col with
    | some l => some (.bool (l.getD i false))
    | none => none
  | .str _ :: _ => match colStrs col with
    | some l => some (.str (l.getD i []))
    | none => none
  | _ => none

def rowAt (sz len : Nat) (cs : List Cell) (i : Nat) : Nat → Nat → Option (List Cell)
  | _, 0 => some []
  | s, m + 1 => match colAt (column sz len (cs.drop s)) i, rowAt sz len cs i (s + 1) m with
    | some c, some l => some (c :: l)
    | _, _ => none

/-- An element of an array that is a value: decision 0: its place is not known (the columns are of one kind each); d + 1: it is d. -/
def indexA (P : Program) (ty : TypeId) (a : AV) (i : Int) (dec : Dec) : Option (Cd × AV × Dec) :=
  match und P ty, a with
  | some .string, .cell (.str l) => some (cd (0 ≤ i ∧ i < l.length), .cell (.int .u8 (l.getD i.toNat 0).toNat), dec)
  | some (.array len elem), .agg cs => match dec, sizeA P elem, isAggA P elem with
    | 0 :: d, some sz, some ag => match rowAt sz len cs i.toNat 0 sz with
      | some row => match mkV ag row with
        | some v => some (cd (0 ≤ i ∧ i < len ∧ cs.length = len * sz ∧ 0 < sz), v, d)
        | none => none
      | none => none
    | (j + 1) :: d, some sz, some _ => match partA P elem cs (j * sz) with
      | some v => some (cd (i = j ∧ j < len), v, d)
      | none => none
    | _, _, _ => none
  | _, _ => none

def natOf (t : List AV) : Option Operand → Nat → Option (Cd × Nat)
  | none, d => some (cd True, d)
  | some x, _ => match cellOf t x with
    | some (.int _ n) => some (cd (0 ≤ n), n.toNat)
    | _ => none

/-- A part of a slice: decision 0: as it stands; 1: an empty one, of which nothing more is known. -/
def sliceA (nl : Bool) (id idx off len : Nat) (cap : Option Nat) (sz size : Nat) (lo hi : Nat) (mx : Option Nat) (mode : Nat) : Option (Cd × Cell) :=
  match mode with
  | 0 => match cap, mx with
    | none, none => some (cd (sz = size ∧ lo ≤ hi ∧ hi ≤ len ∧ (lo = 0 ∨ lo < len)), .slice nl id idx (off + lo * size) (hi - lo) none sz)
    | none, some m => some (cd (sz = size ∧ lo ≤ hi ∧ hi ≤ m ∧ m ≤ len ∧ (lo = 0 ∨ lo < m)), .slice nl id idx (off + lo * size) (hi - lo) (some (m - lo)) sz)
    | some c, none => some (cd (sz = size ∧ lo ≤ hi ∧ hi ≤ c ∧ (nl = true → hi = 0) ∧ (lo = 0 ∨ lo < c)), .slice nl id idx (off + lo * size) (hi - lo) (some (c - lo)) sz)
    | some c, some m => some (cd (sz = size ∧ lo ≤ hi ∧ hi ≤ m ∧ m ≤ c ∧ (nl = true → m = 0) ∧ (lo = 0 ∨ lo < m)), .slice nl id idx (off + lo * size) (hi - lo) (some (m - lo)) sz)
  | _ => some (cd (nl = false ∧ lo = hi ∧ hi ≤ len ∧ mx = none), .empty)

/-- A part of a slice that goes beyond its length, but not beyond what is known of its block. -/
def sliceB {D : Type} (H : Heap D) (nl : Bool) (id idx off sz size lo hi : Nat) : Option (Cd × Cell) :=
  match contAt H id idx with
  | some (true, live, c) => some (cand live (cd (nl = false ∧ sz = size ∧ 0 < size ∧ lo ≤ hi ∧ (lo = 0 ∨ lo < hi) ∧ off + hi * size ≤ c.len)), .slice false id idx (off + lo * size) (hi - lo) none sz)
  | _ => none

def allPtr (t : List AV) : List Operand → Option (List (Nat × Nat × Nat))
  | [] => some []
  | x :: l => match cellOf t x, allPtr t l with
    | some (.ptr false id idx off), some m => some ((id, idx, off) :: m)
    | _, _ => none

/-- Parts of an aggregate, laid over its zero. -/
def fillA (place : Nat → Option (Nat × Nat)) (cells : List Cell) : List (Nat × List Cell) → Option (List Cell)
  | [] => some cells
  | (i, v) :: rest => match place i with
    | none => none
    | some (off, size) => match v.length == size && Nat.ble (off + v.length) cells.length with
      | true => fillA place (cells.take off ++ v ++ cells.drop (off + v.length)) rest
      | false => none

/-- Parts that stand one behind the other. -/
def inRow (place : Nat → Option (Nat × Nat)) : Nat → List (Nat × List Cell) → Option (List Cell × Nat)
  | off, [] => some ([], off)
  | off, (i, v) :: rest => match place i with
    | none => none
    | some (o, size) => match Nat.beq o off && Nat.beq v.length size with
      | true => match inRow place (off + size) rest with
        | some (m, n) => some (v ++ m, n)
        | none => none
      | false => none

def fillQ (place : Nat → Option (Nat × Nat)) (cells : List Cell) (ps : List (Nat × List Cell)) : Option (List Cell) :=
  match inRow place 0 ps with
  | some (m, n) => match Nat.beq n cells.length with
    | true => some m
    | false => fillA place cells ps
  | none => fillA place cells ps

def partsA (t : List AV) : List (Nat × Operand) → Option (List (Nat × List Cell))
  | [] => some []
  | (i, x) :: l => match cellsOf t x, partsA t l with
    | some c, some m => some ((i, c) :: m)
    | _, _ => none

def fieldsA (P : Program) (fs : List Field) (i : Nat) : Option (Nat × Nat) :=
  match nth fs i with
  | some f => match sizeA P f.type with
    | some n => some (f.offset, n)
    | none => none
  | none => none

def sizesOk (P : Program) : List Field → Bool
  | [] => true
  | f :: l => match sizeA P f.type with
    | some _ => sizesOk P l
    | none => false

def buildA (P : Program) (t : List AV) (ty : TypeId) (parts : List (Nat × Operand)) : Option AV :=
  match zeroA P ty, und P ty, partsA t parts with
  | some z, some (.struct fs), some ps => match sizesOk P fs.toList with
    | true => match fillQ (fieldsA P fs.toList) z ps with
      | some cs => some (.agg cs)
      | none => none
    | false => none
  | some z, some (.array _ elem), some ps => match sizeA P elem with
    | some n => match fillQ (fun i => some (i * n, n)) z ps with
      | some cs => some (.agg cs)
      | none => none
    | none => none
  | _, _, _ => none

def lenA (P : Program) (ty : TypeId) (a : AV) : Option Int :=
  match und P ty, a with
  | some .string, .cell (.str l) => some l.length
  | some (.slice _), .cell (.slice _ _ _ _ len _ _) => some len
  | some (.slice _), .cell .empty => some 0
  | some (.array n _), _ => some n
  | _, _ => none

def minA : Cell → Cell → Option Cell
  | .int k x, .int _ y => some (.int k (if y < x then y else x))
  | _, _ => none
def maxA : Cell → Cell → Option Cell
  | .int k x, .int _ y => some (.int k (if y > x then y else x))
  | _, _ => none
def foldA (f : Cell → Cell → Option Cell) : Cell → List Cell → Option Cell
  | c, [] => some c
  | c, x :: l => match f c x with
    | some y => foldA f y l
    | none => none
def listA (t : List AV) : List Operand → Option (List Cell)
  | [] => some []
  | x :: l => match cellOf t x, listA t l with
    | some c, some m => some (c :: m)
    | _, _ => none

/-- What an operation answers that turns no memory. -/
def pureA {D : Type} (P : Program) (H : Heap D) (t : List AV) (dec : Dec) : Op → Option (Cd × AV × Dec)
  | .move x => match opnd t x with
    | some v => some (cd True, v, dec)
    | none => none
  | .assign x => match opnd t x with
    | some v => some (cd True, v, dec)
    | none => none
  | .pick c a b => match cellOf t c, dec with
    | some (.bool x), 0 :: d => match opnd t b with
      | some v => some (cd (x = false), v, d)
      | none => none
    | some (.bool x), (_ + 1) :: d => match opnd t a with
      | some v => some (cd (x = true), v, d)
      | none => none
    | _, _ => none
  | .nilCheck x => match cellOf t x with
    | some (.ptr nl id idx off) => some (cd (nl = false), .cell (.ptr nl id idx off), dec)
    | some (.func f caps) => some (cd True, .cell (.func f caps), dec)
    | _ => none
  | .binOp op ty x y _ => match cellOf t x, cellOf t y with
    | some a, some b => match binA P op ty a b with
      | some (p, c) => some (p, .cell c, dec)
      | none => none
    | _, _ => none
  | .unOp op _ x => match cellOf t x with
    | some a => match unA op a with
      | some c => some (cd True, .cell c, dec)
      | none => none
    | none => none
  | .convert s d x => match cellOf t x with
    | some a => match convA P s d a with
      | some c => some (cd True, .cell c, dec)
      | none => none
    | none => none
  | .extract x i => match opnd t x with
    | some (.tup l) => match nth l i with
      | some v => some (cd True, v.av, dec)
      | none => none
    | _ => none
  | .field ty x f => match und P ty, opnd t x with
    | some (.struct fs), some (.agg cs) => match nth fs.toList f with
      | some fd => match partA P fd.type cs fd.offset with
        | some v => some (cd True, v, dec)
        | none => none
      | none => none
    | _, _ => none
  | .index ty x i => match opnd t x, cellOf t i with
    | some a, some (.int _ n) => indexA P ty a n dec
    | _, _ => none
  | .makeFunc (.func f) first caps => match first.toList, allPtr t caps.toList with
    | [], some l => some (cd True, .cell (.func f l), dec)
    | _, _ => none
  | .slice ty x lo hi mx => match und P ty, cellOf t x with
    | some .string, some (.str l) => match natOf t lo 0, natOf t hi l.length, mx with
      | some (p, i), some (q, j), none => some (cand p (cand q (cd (i ≤ j ∧ j ≤ l.length))), .cell (.str ((l.drop i).take (j - i))), dec)
      | _, _, _ => none
    | some (.slice e), some (.slice nl id idx off len cap sz) => match sizeA P e, natOf t lo 0, natOf t hi len, natOf t mx 0, dec with
      | some size, some (p, i), some (q, j), some _, 2 :: d => match cap, mx, sliceB H nl id idx off sz size i j with
        | none, none, some (s, c) => some (cand p (cand q s), .cell c, d)
        | _, _, _ => none
      | some size, some (p, i), some (q, j), some (r, m), mode :: d => match sliceA nl id idx off len cap sz size i j (match mx with | none => none | some _ => some m) mode with
        | some (s, c) => some (cand p (cand q (cand r (cand (cd (mx.isSome = true → hi.isSome = true)) s))), .cell c, d)
        | none => none
      | _, _, _, _, _ => none
    | some (.array n e), some (.ptr nl id idx off) => match sizeA P e, lo, hi, mx with
      | some size, none, none, none => some (cd (nl = false ∧ 0 < n), .cell (.slice false id idx off n (some n) size), dec)
      | _, _, _, _ => none
    | _, _ => none
  | .fieldAddr s x f => match und P s, cellOf t x with
    | some (.struct fs), some (.ptr nl id idx off) => match nth fs.toList f with
      | some fd => match sizeA P fd.type with
        | some (_ + 1) => some (cd (nl = false), .cell (.ptr false id idx (off + fd.offset)), dec)
        | _ => none
      | none => none
    | _, _ => none
  | .indexAddr ty x i => match und P ty, cellOf t x, cellOf t i with
    | some (.slice e), some (.slice nl id idx off len _ _), some (.int _ n) => match sizeA P e with
      | some size => some (cd (nl = false ∧ 0 ≤ n ∧ n < len), .cell (.ptr false id idx (off + n.toNat * size)), dec)
      | none => none
    | some (.array len e), some (.ptr nl id idx off), some (.int _ n) => match sizeA P e with
      | some size => some (cd (nl = false ∧ 0 ≤ n ∧ n < len), .cell (.ptr false id idx (off + n.toNat * size)), dec)
      | none => none
    | _, _, _ => none
  | .load ty a => match cellOf t a, isAggA P ty, sizeA P ty with
    | some (.ptr nl id idx off), some ag, some n => match contAt H id idx with
      | some (_, live, c) => match c.getN off (cond ag n 1) dec with
        | some (p, cs, d) => match mkV ag cs with
          | some v => some (cand (cd (nl = false)) (cand live p), v, d)
          | none => none
        | none => none
      | none => none
    | _, _, _ => none
  | .build ty parts => match buildA P t ty parts.toList with
    | some v => some (cd True, v, dec)
    | none => none
  | .call c => match c.callee with
    | .builtin .len => match c.args.toList, c.argTypes.toList with
      | [x], [ty] => match opnd t x with
        | some a => match lenA P ty a with
          | some n => some (cd True, .cell (.int .i64 n), dec)
          | none => none
        | none => none
      | _, _ => none
    | .builtin .min => match listA t c.args.toList with
      | some (x :: l) => match foldA minA x l with
        | some y => some (cd True, .cell y, dec)
        | none => none
      | _ => none
    | .builtin .max => match listA t c.args.toList with
      | some (x :: l) => match foldA maxA x l with
        | some y => some (cd True, .cell y, dec)
        | none => none
      | _ => none
    | _ => none
  | _ => none

end
end Go.Proofs.Ytnoonoghemgbbaa.Sx
