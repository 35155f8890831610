/-
  A symbolic evaluator over the model's code: part 1: abstract values, heaps, and what they stand for in a world.
-/
import Derived.Orders
import Derived.Laws.Rows
import Derived.Laws.CopyRow
import Derived.Laws.Append
import Derived.Laws.Cells
import Derived.KernelRfl
set_option linter.unusedVariables false
set_option linter.unusedSimpArgs false
namespace Go.Proofs.Ytnoonoghemgbbaa.Sx
open Go

/-- Where an abstract block lies in a world: the real block, by how much offsets are shifted, the end of what it may use, and the real blocks that it depends on. -/
structure Loc where
  blk : Nat
  sh : Nat
  fin : Nat
  foot : Nat → Prop
  aux : Loop

/-- One cell of memory, or a value of one cell. Addresses: block, index in a family of blocks, offset. -/
inductive Cell where
  | bool (b : Bool)
  | int (k : IntKind) (n : Int)
  | str (l : List UInt8)
  | ptr (nl : Bool) (id idx off : Nat)
  | slice (nl : Bool) (id idx off len : Nat) (cap : Option Nat) (sz : Nat)
  | empty
  | func (f : FuncId) (caps : List (Nat × Nat × Nat))
  | nilFunc
  | anyp
  | map (nl : Bool) (id idx : Nat)
  | yld (id : Nat)

inductive AV1 where
  | cell (c : Cell)
  | agg (cs : List Cell)

inductive AV where
  | cell (c : Cell)
  | agg (cs : List Cell)
  | tup (vs : List AV1)
  | junk

/-- What a block holds: cells one by one; whole numbers of one kind; structs. -/
inductive Cont where
  | raw (cs : List Cell)
  | ints (k : IntKind) (l : List Int)
  | fam (n sz : Nat) (f : Nat → List Cell)

def Cont.len : Cont → Nat
  | .raw cs => cs.length
  | .ints _ l => l.length
  | .fam n sz _ => n * sz

/-- The cell at a place, as a proposition. -/
def Cont.At : Cont → Nat → Cell → Prop
  | .raw cs, j, c => cs[j]? = some c
  | .ints k l, j, c => ∃ n, l[j]? = some n ∧ c = .int k n
  | .fam n sz f, j, c => ∃ i s, i < n ∧ s < sz ∧ j = i * sz + s ∧ (f i)[s]? = some c

/-- Every place below the length holds a cell. -/
def Cont.wf : Cont → Prop
  | .raw _ => True
  | .ints _ _ => True
  | .fam n sz f => ∀ i, i < n → (f i).length = sz

/-- The block of what is nil: there is none such. -/
abbrev NIL : Nat := 1000000007

/-- Data that some blocks hold together: a stack (its cells, how many there may be, what is thrown); memory (RAM, window). -/
inductive Ab where
  | stk (cells : List Int) (most over under : Int)
  | mem (ram win : List Int)

/-- How such data may lie: the first block is what is pointed at. -/
def Ab.shows : Ab → List (Bool × Cont) → Prop
  | .stk cs m o u, V => ((cs.length : Int) ≤ m ∧ 0 < m ∧ m ≤ 65536 ∧ o ≠ 0 ∧ u ≠ 0) ∧
      ((cs = [] ∧ V = [(true, .raw [.slice true NIL 0 0 0 none 1, .int .i64 m, .int .i32 o, .int .i32 u])]) ∨
       (∃ len l, len ≤ l.length ∧ l.take len = cs ∧ V = [(true, .raw [.slice false 1 0 0 len none 1, .int .i64 m, .int .i32 o, .int .i32 u]), (true, .ints .u32 l)]))
  | .mem ram win, V => (4 ≤ ram.length ∧ ram.length ≤ 65536 ∧ win.length ≤ 65536) ∧
      ((win = [] ∧ V = [(true, .raw [.slice false 1 0 0 ram.length none 1, .slice true NIL 0 0 0 none 1]), (true, .ints .u8 ram)]) ∨
       V = [(true, .raw [.slice false 1 0 0 ram.length none 1, .slice false 2 0 0 win.length none 1]), (true, .ints .u8 ram), (true, .ints .u8 win)])

/-- An object that is no cells: a map (keys and values in the order of their coming), a text that is gone over, a loop over a function. -/
inductive Ob where
  | map (es : List (AV1 × AV1))
  | iter (s : List UInt8) (pos : Nat)
  | loop (st : LoopState) (pend : Option Code)
  | ab (d : Ab)

/-- An entry of the abstract heap: a family of blocks of cells (written by us alone, or only read), or an object. -/
inductive Blk (D : Type) where
  | cells (own : Bool) (num : Nat) (c : Nat → Cont)
  | obj (o : Ob)

abbrev Heap (D : Type) := List (Option (Blk D))
abbrev Map := List (Nat → Loc)

def All2 {α β : Type} (R : α → β → Prop) : List α → List β → Prop
  | [], [] => True
  | a :: l, b :: m => R a b ∧ All2 R l m
  | _, _ => False

def RCap (ρ : Map) (p : Nat × Nat × Nat) (v : Value) : Prop := ∃ F, ρ[p.1]? = some F ∧ v = .pointer (some ⟨(F p.2.1).blk, (F p.2.1).sh + p.2.2, none⟩)

/-- What a cell stands for. -/
def RC (ρ : Map) : Cell → Value → Prop
  | .bool b, v => v = .bool b
  | .int k n, v => v = .int k n
  | .str l, v => v = .string ⟨l.toArray⟩
  | .ptr nl id idx off, v => (nl = true ∧ v = .pointer none) ∨ (nl = false ∧ ∃ F, ρ[id]? = some F ∧ v = .pointer (some ⟨(F idx).blk, (F idx).sh + off, none⟩))
  | .slice nl id idx off len cap sz, v => (nl = true ∧ len = 0 ∧ v = .slice none 0 0) ∨
      (nl = false ∧ ∃ F r, ρ[id]? = some F ∧ v = .slice (some ⟨(F idx).blk, (F idx).sh + off, none⟩) len r ∧ len ≤ r ∧ (match cap with | some c => r = c | none => r = ((F idx).fin - ((F idx).sh + off)) / sz))
  | .empty, v => ∃ a c, v = .slice (some a) 0 c
  | .func f caps, v => ∃ vs : List Value, v = .func (.func f) #[] vs.toArray ∧ All2 (RCap ρ) caps vs
  | .nilFunc, v => v = .nilFunc
  | .anyp, v => ∃ p, v = .pointer p
  | .map nl id idx, v => (nl = true ∧ v = .map none) ∨ (nl = false ∧ ∃ F, ρ[id]? = some F ∧ v = .map (some (F idx).blk))
  | .yld id, v => ∃ F, ρ[id]? = some F ∧ v = .func (.yield (F 0).blk) #[] #[]

def R1 (ρ : Map) : AV1 → Value → Prop
  | .cell c, v => RC ρ c v
  | .agg cs, v => ∃ vs : List Value, v = .agg vs.toArray ∧ All2 (RC ρ) cs vs

def RV (ρ : Map) : AV → Value → Prop
  | .cell c, v => RC ρ c v
  | .agg cs, v => ∃ vs : List Value, v = .agg vs.toArray ∧ All2 (RC ρ) cs vs
  | .tup l, v => ∃ vs : List Value, v = .tuple vs.toArray ∧ All2 (R1 ρ) l vs
  | .junk, _ => True

/-- Two maps of a block say the same of where its cells lie. -/
def Lo (F F' : Nat → Loc) : Prop := ∀ idx, (F' idx).blk = (F idx).blk ∧ (F' idx).sh = (F idx).sh ∧ (F' idx).fin = (F idx).fin ∧ (F' idx).aux = (F idx).aux

theorem Lo.refl (F : Nat → Loc) : Lo F F := fun _ => ⟨rfl, rfl, rfl, rfl⟩
theorem Lo.trans {F G K : Nat → Loc} (h : Lo F G) (k : Lo G K) : Lo F K := fun i => ⟨(k i).1.trans (h i).1, (k i).2.1.trans (h i).2.1, (k i).2.2.1.trans (h i).2.2.1, (k i).2.2.2.trans (h i).2.2.2⟩

/-- ρ' goes on where ρ ends. -/
def Goes (ρ ρ' : Map) : Prop := ∀ (i : Nat) (F : Nat → Loc), ρ[i]? = some F → ∃ F', ρ'[i]? = some F' ∧ Lo F F'
def GoesE (ρ ρ' : Map) : Prop := ∀ (i : Nat) (F : Nat → Loc), ρ[i]? = some F → ρ'[i]? = some F

theorem GoesE.goes {ρ ρ' : Map} (h : GoesE ρ ρ') : Goes ρ ρ' := fun i F e => ⟨F, h i F e, Lo.refl F⟩
theorem GoesE.refl (ρ : Map) : GoesE ρ ρ := fun _ _ h => h
theorem GoesE.app (ρ e : Map) : GoesE ρ (ρ ++ e) := fun i F h => by
  rw [List.getElem?_append_left (List.getElem?_eq_some_iff.1 h).1]; exact h
theorem Goes.refl (ρ : Map) : Goes ρ ρ := (GoesE.refl ρ).goes
theorem Goes.trans {a b c : Map} (h : Goes a b) (k : Goes b c) : Goes a c := fun i F e =>
  let ⟨_, e1, l1⟩ := h i F e
  let ⟨F2, e2, l2⟩ := k i _ e1
  ⟨F2, e2, l1.trans l2⟩
theorem Goes.app (ρ e : Map) : Goes ρ (ρ ++ e) := (GoesE.app ρ e).goes

section All2
variable {α β γ : Type} {R : α → β → Prop}
theorem All2.mono {R' : α → β → Prop} (h : ∀ a b, R a b → R' a b) : ∀ {l : List α} {m : List β}, All2 R l m → All2 R' l m
  | [], [], _ => trivial
  | _ :: _, _ :: _, ⟨h1, h2⟩ => ⟨h _ _ h1, All2.mono h h2⟩
  | [], _ :: _, h0 => h0.elim
  | _ :: _, [], h0 => h0.elim
theorem All2.length : ∀ {l : List α} {m : List β}, All2 R l m → l.length = m.length
  | [], [], _ => rfl
  | _ :: _, _ :: _, ⟨_, h2⟩ => by simp [All2.length h2]
  | [], _ :: _, h0 => h0.elim
  | _ :: _, [], h0 => h0.elim
theorem All2.get : ∀ {l : List α} {m : List β}, All2 R l m → ∀ {i : Nat} {a : α}, l[i]? = some a → ∃ b, m[i]? = some b ∧ R a b
  | [], [], _, i, a, h => by simp at h
  | a :: l, b :: m, ⟨h1, h2⟩, 0, x, h => by simp at h; subst h; exact ⟨b, rfl, h1⟩
  | a :: l, b :: m, ⟨h1, h2⟩, i + 1, x, h => by simpa using All2.get h2 (by simpa using h)
  | [], _ :: _, h0, _, _, _ => h0.elim
  | _ :: _, [], h0, _, _, _ => h0.elim
theorem All2.set : ∀ {l : List α} {m : List β}, All2 R l m → ∀ (i : Nat) {a : α} {b : β}, R a b → All2 R (l.set i a) (m.set i b)
  | [], [], _, i, a, b, _ => trivial
  | a :: l, b :: m, ⟨_, h2⟩, 0, x, y, h => ⟨h, h2⟩
  | a :: l, b :: m, ⟨h1, h2⟩, i + 1, x, y, h => ⟨h1, All2.set h2 i h⟩
  | [], _ :: _, h0, _, _, _, _ => h0.elim
  | _ :: _, [], h0, _, _, _, _ => h0.elim
theorem All2.app : ∀ {l : List α} {m : List β} {l' : List α} {m' : List β}, All2 R l m → All2 R l' m' → All2 R (l ++ l') (m ++ m')
  | [], [], _, _, _, h => h
  | _ :: _, _ :: _, _, _, ⟨h1, h2⟩, h => ⟨h1, All2.app h2 h⟩
  | [], _ :: _, _, _, h0, _ => h0.elim
  | _ :: _, [], _, _, h0, _ => h0.elim
theorem All2.drop : ∀ {l : List α} {m : List β}, All2 R l m → ∀ n, All2 R (l.drop n) (m.drop n)
  | [], [], _, n => by simp [All2]
  | a :: l, b :: m, h, 0 => h
  | a :: l, b :: m, ⟨_, h2⟩, n + 1 => by simpa using All2.drop h2 n
  | [], _ :: _, h0, _ => h0.elim
  | _ :: _, [], h0, _ => h0.elim
theorem All2.take : ∀ {l : List α} {m : List β}, All2 R l m → ∀ n, All2 R (l.take n) (m.take n)
  | [], [], _, n => by simp [All2]
  | a :: l, b :: m, h, 0 => by simp [All2]
  | a :: l, b :: m, ⟨h1, h2⟩, n + 1 => by simpa using ⟨h1, All2.take h2 n⟩
  | [], _ :: _, h0, _ => h0.elim
  | _ :: _, [], h0, _ => h0.elim
theorem All2.of_get : ∀ {l : List α} {m : List β}, l.length = m.length → (∀ (i : Nat) (a : α) (b : β), l[i]? = some a → m[i]? = some b → R a b) → All2 R l m
  | [], [], _, _ => trivial
  | a :: l, b :: m, hl, h => ⟨h 0 a b rfl rfl, All2.of_get (by simpa using hl) fun i x y hx hy => h (i + 1) x y (by simpa using hx) (by simpa using hy)⟩
  | [], _ :: _, hl, _ => by simp at hl
  | _ :: _, [], hl, _ => by simp at hl
theorem All2.replicate {a : α} {b : β} (h : R a b) : ∀ n, All2 R (List.replicate n a) (List.replicate n b)
  | 0 => trivial
  | n + 1 => ⟨h, All2.replicate h n⟩
end All2

theorem RCap.goes {ρ ρ' : Map} (g : Goes ρ ρ') {p : Nat × Nat × Nat} {v : Value} : RCap ρ p v → RCap ρ' p v
  | ⟨F, h, e⟩ =>
    let ⟨F', h', l⟩ := g _ _ h
    ⟨F', h', by rw [(l _).1, (l _).2.1]; exact e⟩

theorem RC.goes {ρ ρ' : Map} (g : Goes ρ ρ') {c : Cell} {v : Value} (h : RC ρ c v) : RC ρ' c v := by
  cases c with
  | ptr nl id idx off =>
    rcases h with h | ⟨h1, F, h2, h3⟩
    · exact .inl h
    · obtain ⟨F', h', l⟩ := g _ _ h2
      exact .inr ⟨h1, F', h', by rw [(l _).1, (l _).2.1]; exact h3⟩
  | slice nl id idx off len cap sz =>
    rcases h with h | ⟨h1, F, r, h2, h3, h4, h5⟩
    · exact .inl h
    · obtain ⟨F', h', l⟩ := g _ _ h2
      refine .inr ⟨h1, F', r, h', by rw [(l _).1, (l _).2.1]; exact h3, h4, ?_⟩
      rw [(l _).2.1, (l _).2.2.1]; exact h5
  | func f caps =>
    obtain ⟨vs, e, h⟩ := h
    exact ⟨vs, e, h.mono fun _ _ => RCap.goes g⟩
  | map nl id idx =>
    rcases h with h | ⟨h1, F, h2, h3⟩
    · exact .inl h
    · obtain ⟨F', h', l⟩ := g _ _ h2
      exact .inr ⟨h1, F', h', by rw [(l _).1]; exact h3⟩
  | yld id =>
    obtain ⟨F, h2, h3⟩ := h
    obtain ⟨F', h', l⟩ := g _ _ h2
    exact ⟨F', h', by rw [(l _).1]; exact h3⟩
  | bool b => exact h
  | int k n => exact h
  | str l => exact h
  | empty => exact h
  | nilFunc => exact h
  | anyp => exact h

theorem R1.goes {ρ ρ' : Map} (g : Goes ρ ρ') {c : AV1} {v : Value} (h : R1 ρ c v) : R1 ρ' c v := by
  cases c with
  | cell c => exact RC.goes g h
  | agg cs => obtain ⟨vs, e, h⟩ := h; exact ⟨vs, e, h.mono fun _ _ => RC.goes g⟩

theorem RV.goes {ρ ρ' : Map} (g : Goes ρ ρ') {c : AV} {v : Value} (h : RV ρ c v) : RV ρ' c v := by
  cases c with
  | cell c => exact RC.goes g h
  | agg cs => obtain ⟨vs, e, h⟩ := h; exact ⟨vs, e, h.mono fun _ _ => RC.goes g⟩
  | tup l => obtain ⟨vs, e, h⟩ := h; exact ⟨vs, e, h.mono fun _ _ => R1.goes g⟩
  | junk => trivial

/-- Every cell stands for a value of one cell. -/
theorem RC.one {ρ : Map} {c : Cell} {v : Value} (h : RC ρ c v) : v.oneCell' = true := by
  cases c with
  | ptr nl id idx off =>
    rcases h with ⟨_, rfl⟩ | ⟨_, F, _, rfl⟩ <;> rfl
  | slice nl id idx off len cap sz =>
    rcases h with ⟨_, _, rfl⟩ | ⟨_, F, r, _, rfl, _⟩ <;> rfl
  | func f caps => obtain ⟨vs, rfl, _⟩ := h; rfl
  | map nl id idx => rcases h with ⟨_, rfl⟩ | ⟨_, F, _, rfl⟩ <;> rfl
  | yld id => obtain ⟨F, _, rfl⟩ := h; rfl
  | bool b => cases h; rfl
  | int k n => cases h; rfl
  | str l => cases h; rfl
  | empty => obtain ⟨a, c, rfl⟩ := h; rfl
  | nilFunc => cases h; rfl
  | anyp => obtain ⟨p, rfl⟩ := h; rfl

theorem RC.cells {ρ : Map} {c : Cell} {v : Value} (h : RC ρ c v) : v.cells = #[v] := by
  have := h.one
  cases v <;> first | rfl | simp [Value.oneCell'] at this

/-! ### What a heap stands for -/
section
variable {D : Type}

/-- The cells of a block, as they lie in a world. -/
def ContAt (ρ : Map) (w : World) (L : Loc) (c : Cont) : Prop :=
  ∀ j x, c.At j x → ∃ v, w.cell? ⟨L.blk, L.sh + j, none⟩ = some v ∧ RC ρ x v

/-- No cell of a block may not be written. -/
def Warm (n : Nat) (fr : Nat × Nat) : Prop := ∀ o, o < n → ¬ (fr.1 ≤ o ∧ o < fr.2)

def OwnAt (w : World) (L : Loc) (c : Cont) : Prop :=
  (∀ k, L.foot k ↔ k = L.blk) ∧ L.sh + c.len ≤ L.fin ∧ ∃ cs e fr, w.heap[L.blk]? = some (.cells cs e fr) ∧ L.fin ≤ cs.size ∧ Warm cs.size fr

def RE (ρ : Map) (e : AV1 × AV1) (m : MapEntry) : Prop := R1 ρ e.1 m.key ∧ R1 ρ e.2 m.val

/-- Entries of a map have marks of their own, below the map's clock. -/
def Born (l : List MapEntry) (clock : Nat) : Prop := (∀ m ∈ l, m.born < clock) ∧ l.Pairwise fun a b => a.born ≠ b.born

/-- Cells of a block. -/
def CellsAt (ρ : Map) (w : World) (L : Loc) (own : Bool) (c : Cont) : Prop :=
  c.wf ∧ (0 < c.len → L.foot L.blk) ∧ (∀ k, L.foot k → k < w.heap.size) ∧ ContAt ρ w L c ∧ (own = true → OwnAt w L c)

/-- A small heap of cells. -/
structure SmallAt (ρ : Map) (w : World) (V : List (Bool × Cont)) : Prop where
  len : ρ.length = V.length
  at_ : ∀ (i : Nat) (own : Bool) (c : Cont) (F : Nat → Loc), V[i]? = some (own, c) → ρ[i]? = some F → CellsAt ρ w (F 0) own c
  apart : ∀ (i j : Nat) (c c' : Cont) (own : Bool) (F F' : Nat → Loc), V[i]? = some (true, c) → ρ[i]? = some F → V[j]? = some (own, c') → ρ[j]? = some F' → i ≠ j → ∀ k, (F 0).foot k → ¬ (F' 0).foot k

def AbAt (w : World) (F : Nat → Loc) (d : Ab) : Prop :=
  ∃ V ρ F', d.shows V ∧ (∀ x ∈ V, x.1 = true) ∧ SmallAt ρ w V ∧ ρ[0]? = some F' ∧ Lo F' F ∧ ∀ k, (F 0).foot k ↔ ∃ (i : Nat) (G : Nat → Loc), ρ[i]? = some G ∧ (G 0).foot k

def ObAt (ρ : Map) (w : World) (F : Nat → Loc) : Ob → Prop
  | .map es => ∃ arr clock, w.heap[(F 0).blk]? = some (.map arr clock) ∧ All2 (RE ρ) es arr.toList ∧ Born arr.toList clock
  | .iter s pos => w.heap[(F 0).blk]? = some (.stringIter ⟨s.toArray⟩ pos)
  | .loop st pend => w.heap[(F 0).blk]? = some (.loop { (F 0).aux with state := st, pending := pend })
  | .ab d => AbAt w F d

/-- Where an object lies. -/
def FootOk (L : Loc) : Ob → Prop
  | .ab _ => True
  | _ => ∀ k, L.foot k ↔ k = L.blk

def BlkAt (ρ : Map) (w : World) (F : Nat → Loc) (idx : Nat) : Blk D → Prop
  | .cells own num c => idx < num → CellsAt ρ w (F idx) own (c idx)
  | .obj o => idx = 0 → FootOk (F 0) o ∧ (∀ k, (F 0).foot k → k < w.heap.size) ∧ ObAt ρ w F o

def Blk.own : Blk D → Bool
  | .cells own _ _ => own
  | .obj _ => true
def Blk.live : Blk D → Nat → Prop
  | .cells _ num _, idx => idx < num
  | .obj _, idx => idx = 0

structure Rel (ρ : Map) (H : Heap D) (w : World) : Prop where
  len : ρ.length = H.length
  at_ : ∀ (id : Nat) (b : Blk D) (F : Nat → Loc) (idx : Nat), H[id]? = some (some b) → ρ[id]? = some F → BlkAt ρ w F idx b
  apart : ∀ (id : Nat) (b : Blk D) (F : Nat → Loc) (idx : Nat) (id' : Nat) (b' : Blk D) (F' : Nat → Loc) (idx' : Nat), H[id]? = some (some b) → ρ[id]? = some F → b.live idx → b.own = true →
    H[id']? = some (some b') → ρ[id']? = some F' → b'.live idx' → (id, idx) ≠ (id', idx') → ∀ k, (F idx).foot k → ¬ (F' idx').foot k

/-- The real blocks that are ours from abstract block s on. -/
def ownR (ρ : Map) (H : Heap D) (s k : Nat) : Prop :=
  ∃ (id : Nat) (b : Blk D) (F : Nat → Loc) (idx : Nat), s ≤ id ∧ H[id]? = some (some b) ∧ b.own = true ∧ b.live idx ∧ ρ[id]? = some F ∧ (F idx).foot k

/-- The real blocks of one entry that are ours. -/
def ownAt (ρ : Map) (H : Heap D) (id k : Nat) : Prop :=
  ∃ (b : Blk D) (F : Nat → Loc) (idx : Nat), H[id]? = some (some b) ∧ b.own = true ∧ b.live idx ∧ ρ[id]? = some F ∧ (F idx).foot k

/-- Nothing has turned but blocks that T lets. -/
structure Ext (w w' : World) (T : Nat → Prop) : Prop where
  os : w'.os = w.os
  tape : w'.tape = w.tape
  output : w'.output = w.output
  size : w.heap.size ≤ w'.heap.size
  block : ∀ k, k < w.heap.size → ¬ T k → w'.heap[k]? = w.heap[k]?

theorem Ext.refl (w : World) (T : Nat → Prop) : Ext w w T := ⟨rfl, rfl, rfl, Nat.le_refl _, fun _ _ _ => rfl⟩
theorem Ext.mono {w w' : World} {T T' : Nat → Prop} (h : Ext w w' T) (ht : ∀ k, k < w.heap.size → T k → T' k) : Ext w w' T' :=
  ⟨h.os, h.tape, h.output, h.size, fun k hk hn => h.block k hk fun t => hn (ht k hk t)⟩
theorem Ext.trans {a b c : World} {T T' : Nat → Prop} (h : Ext a b T) (g : Ext b c T') : Ext a c (fun k => T k ∨ T' k) :=
  ⟨g.os.trans h.os, g.tape.trans h.tape, g.output.trans h.output, Nat.le_trans h.size g.size,
    fun k hk hn => (g.block k (Nat.lt_of_lt_of_le hk h.size) fun t => hn (.inr t)).trans (h.block k hk fun t => hn (.inl t))⟩
theorem Ext.cell {w w' : World} {T : Nat → Prop} (h : Ext w w' T) {a : Addr} (ha : a.block < w.heap.size) (hn : ¬ T a.block) : w'.cell? a = w.cell? a := by
  simp [World.cell?, h.block a.block ha hn]

/-- From one state to another: low: no block of ours below it was touched. -/
structure Step (ρ : Map) (H : Heap D) (w : World) (low : Nat) (ρ' : Map) (H' : Heap D) (w' : World) : Prop where
  goes : Goes ρ ρ'
  rel : Rel ρ' H' w'
  ext : Ext w w' (ownR ρ H low)
  each : ∀ id k, ownAt ρ' H' id k → w.heap.size ≤ k ∨ ownR ρ H low k ∨ ownAt ρ H id k
  old : ∀ (id : Nat) (b' : Blk D), id < H.length → H'[id]? = some (some b') → ∃ b, H[id]? = some (some b) ∧ b'.own = b.own ∧ (∀ idx, b'.live idx → b.live idx) ∧
    (b'.own = false → ∀ F F', ρ[id]? = some F → ρ'[id]? = some F' → F' = F)
  mine : ∀ (id : Nat) (b' : Blk D), H.length ≤ id → H'[id]? = some (some b') → b'.own = true

theorem Rel.lt {ρ : Map} {H : Heap D} {w : World} (h : Rel ρ H w) {id : Nat} {b : Blk D} {F : Nat → Loc} {idx k : Nat} (hb : H[id]? = some (some b)) (hF : ρ[id]? = some F) (hl : b.live idx) (hk : (F idx).foot k) : k < w.heap.size := by
  have := h.at_ id b F idx hb hF
  cases b with
  | cells own num c => exact (this hl).2.2.1 k hk
  | obj o => have hl0 : idx = 0 := hl; subst hl0; exact (this hl).2.1 k hk

theorem ownR.lt {ρ : Map} {H : Heap D} {w : World} (h : Rel ρ H w) {s k : Nat} (o : ownR ρ H s k) : k < w.heap.size := by
  obtain ⟨id, b, F, idx, _, hb, _, hl, hF, hk⟩ := o
  exact h.lt hb hF hl hk

theorem ownR.mono {ρ : Map} {H : Heap D} {s s' k : Nat} (h : s' ≤ s) : ownR ρ H s k → ownR ρ H s' k
  | ⟨id, b, F, idx, h1, h2⟩ => ⟨id, b, F, idx, Nat.le_trans h h1, h2⟩

theorem ownR.none {ρ : Map} {H : Heap D} {k : Nat} : ¬ ownR ρ H H.length k := by
  rintro ⟨id, b, F, idx, h1, h2, _⟩
  have := (List.getElem?_eq_some_iff.1 h2).1
  omega

theorem Rel.mapAt {ρ : Map} {H : Heap D} {w : World} (h : Rel ρ H w) {id : Nat} {b : Option (Blk D)} (hb : H[id]? = some b) : ∃ F, ρ[id]? = some F := by
  have := (List.getElem?_eq_some_iff.1 hb).1
  exact ⟨ρ[id]'(by rw [h.len]; exact this), List.getElem?_eq_getElem _⟩

theorem Step.make {ρ ρ' : Map} {H H' : Heap D} {w w' : World} {low : Nat} (r : Rel ρ H w) (goes : GoesE ρ ρ') (rel : Rel ρ' H' w') (ext : Ext w w' (ownR ρ H low))
    (fresh : ∀ k, ownR ρ' H' H.length k → w.heap.size ≤ k ∨ ownR ρ H low k)
    (old : ∀ (id : Nat) (b' : Blk D), id < H.length → H'[id]? = some (some b') → ∃ b, H[id]? = some (some b) ∧ b'.own = b.own ∧ ∀ idx, b'.live idx → b.live idx)
    (mine : ∀ (id : Nat) (b' : Blk D), H.length ≤ id → H'[id]? = some (some b') → b'.own = true) : Step ρ H w low ρ' H' w' := by
  refine ⟨goes.goes, rel, ext, ?_, ?_, mine⟩
  · rintro id k ⟨b', F', idx, h2, h3, h4, h5, h6⟩
    rcases Nat.lt_or_ge id H.length with hlt | hge
    · obtain ⟨b, hb, ho, hl⟩ := old id b' hlt h2
      obtain ⟨F, hF⟩ := r.mapAt hb
      have e := goes id F hF
      rw [h5] at e
      cases e
      exact .inr (.inr ⟨b, F', idx, hb, by rw [← ho]; exact h3, hl idx h4, hF, h6⟩)
    · exact (fresh k ⟨id, b', F', idx, hge, h2, h3, h4, h5, h6⟩).imp (fun h => h) .inl
  · intro id b' hid hb
    obtain ⟨b, hb0, ho, hl⟩ := old id b' hid hb
    refine ⟨b, hb0, ho, hl, fun _ F F' hF hF' => ?_⟩
    have := goes id F hF
    rw [hF'] at this
    cases this
    rfl

theorem Step.refl {ρ : Map} {H : Heap D} {w : World} (h : Rel ρ H w) (low : Nat) : Step ρ H w low ρ H w :=
  Step.make h (GoesE.refl ρ) h (Ext.refl w _) (fun _ o => (ownR.none o).elim) (fun id b' _ h => ⟨b', h, rfl, fun _ h => h⟩) (fun id b' hge hb => by have := (List.getElem?_eq_some_iff.1 hb).1; omega)

theorem Step.mono {ρ ρ' : Map} {H H' : Heap D} {w w' : World} {low low' : Nat} (h : Step ρ H w low ρ' H' w') (hl : low' ≤ low) : Step ρ H w low' ρ' H' w' :=
  ⟨h.goes, h.rel, h.ext.mono fun _ _ => ownR.mono hl, fun i k o => (h.each i k o).imp id fun o => o.imp (ownR.mono hl) id, h.old, h.mine⟩

theorem Step.len {ρ ρ' : Map} {H H' : Heap D} {w w' : World} {low : Nat} (h : Step ρ H w low ρ' H' w') (r : Rel ρ H w) : H.length ≤ H'.length := by
  rw [← h.rel.len, ← r.len]
  rcases Nat.lt_or_ge ρ'.length ρ.length with hlt | hge
  · obtain ⟨F', this, _⟩ := h.goes _ _ (List.getElem?_eq_getElem hlt)
    rw [List.getElem?_eq_none (Nat.le_refl _)] at this
    cases this
  · exact hge

theorem Step.owned {ρ ρ' : Map} {H H' : Heap D} {w w' : World} {low : Nat} (h : Step ρ H w low ρ' H' w') (s k : Nat) (o : ownR ρ' H' s k) : w.heap.size ≤ k ∨ ownR ρ H (min low s) k := by
  obtain ⟨id, b, F, idx, h1, h2⟩ := o
  rcases h.each id k ⟨b, F, idx, h2⟩ with a | a | ⟨b, F, idx, a⟩
  · exact .inl a
  · exact .inr (a.mono (Nat.min_le_left _ _))
  · exact .inr ⟨id, b, F, idx, Nat.le_trans (Nat.min_le_right _ _) h1, a⟩

theorem Step.fresh {ρ ρ' : Map} {H H' : Heap D} {w w' : World} {low k : Nat} (h : Step ρ H w low ρ' H' w') (o : ownR ρ' H' H.length k) : w.heap.size ≤ k ∨ ownR ρ H low k := by
  rcases h.owned _ _ o with h1 | h1
  · exact .inl h1
  · refine .inr ?_
    obtain ⟨id, b, F, idx, a1, a2, a3⟩ := h1
    have := (List.getElem?_eq_some_iff.1 a2).1
    exact ⟨id, b, F, idx, by omega, a2, a3⟩

theorem Step.trans {ρ ρ1 ρ2 : Map} {H H1 H2 : Heap D} {w w1 w2 : World} {l1 l2 : Nat} (r : Rel ρ H w) (h : Step ρ H w l1 ρ1 H1 w1) (g : Step ρ1 H1 w1 l2 ρ2 H2 w2) :
    Step ρ H w (min l1 l2) ρ2 H2 w2 := by
  refine ⟨h.goes.trans g.goes, g.rel, (h.ext.trans g.ext).mono ?_, ?_, ?_, ?_⟩
  · intro k hk t
    rcases t with t | t
    · exact t.mono (Nat.min_le_left _ _)
    · rcases h.owned _ _ t with h | h
      · omega
      · exact h
  · intro i k o
    rcases g.each i k o with h1 | h1 | h1
    · exact .inl (Nat.le_trans h.ext.size h1)
    · rcases h.owned _ _ h1 with h2 | h2
      · exact .inl h2
      · exact .inr (.inl h2)
    · rcases h.each i k h1 with h2 | h2 | h2
      · exact .inl h2
      · exact .inr (.inl (h2.mono (Nat.min_le_left _ _)))
      · exact .inr (.inr h2)
  · intro id b' hid hb
    have hle := h.len r
    obtain ⟨b1, e1, o1, l1, f1⟩ := g.old id b' (by omega) hb
    obtain ⟨b, e, o, l, f⟩ := h.old id b1 hid e1
    refine ⟨b, e, o1.trans o, fun idx hx => l idx (l1 idx hx), fun ho F F2 hF hF2 => ?_⟩
    obtain ⟨F1, hF1, _⟩ := h.goes id F hF
    rw [f1 ho F1 F2 hF1 hF2]
    exact f (by rw [← o1]; exact ho) F F1 hF hF1
  · intro id b' hge hb
    rcases Nat.lt_or_ge id H1.length with hlt | hge1
    · obtain ⟨b1, e1, o1, _⟩ := g.old id b' hlt hb
      rw [o1]; exact h.mine id b1 hge e1
    · exact g.mine id b' hge1 hb

theorem RE.goes {ρ ρ' : Map} (g : Goes ρ ρ') {e : AV1 × AV1} {m : MapEntry} (h : RE ρ e m) : RE ρ' e m := ⟨R1.goes g h.1, R1.goes g h.2⟩

theorem At.pos {c : Cont} {j : Nat} {x : Cell} (hx : c.At j x) : 0 < c.len := by
  cases c with
  | raw cs => have := (List.getElem?_eq_some_iff.1 hx).1; simp only [Cont.len]; omega
  | ints k l => obtain ⟨n, hn, _⟩ := hx; have := (List.getElem?_eq_some_iff.1 hn).1; simp only [Cont.len]; omega
  | fam n sz f => obtain ⟨i, s, hi, hs, _⟩ := hx; simp only [Cont.len]; exact Nat.mul_pos (by omega) (by omega)

/-- Cells that stay where they are stay what they are. -/
theorem CellsAt.keep {ρ ρ' : Map} {w w' : World} {L : Loc} {own : Bool} {c : Cont} (h : CellsAt ρ w L own c) (g : Goes ρ ρ') (hs : w.heap.size ≤ w'.heap.size) (hk : ∀ k, L.foot k → w'.heap[k]? = w.heap[k]?) : CellsAt ρ' w' L own c := by
  obtain ⟨h0, h1, h2, h3, h4⟩ := h
  have keepc : ∀ o, 0 < c.len → w'.cell? ⟨L.blk, o, none⟩ = w.cell? ⟨L.blk, o, none⟩ := fun o hl => by simp [World.cell?, hk L.blk (h1 hl)]
  refine ⟨h0, h1, fun k hf => Nat.lt_of_lt_of_le (h2 k hf) hs, ?_, fun ho => ?_⟩
  · intro j x hx
    obtain ⟨v, hv, hr⟩ := h3 j x hx
    exact ⟨v, by rw [keepc _ (At.pos hx)]; exact hv, hr.goes g⟩
  · obtain ⟨g1, g2, cs, e, fr, g3, g4⟩ := h4 ho
    exact ⟨g1, g2, cs, e, fr, by rw [hk L.blk ((g1 _).2 rfl)]; exact g3, g4⟩

theorem SmallAt.keep {ρ : Map} {w w' : World} {V : List (Bool × Cont)} (h : SmallAt ρ w V) (hs : w.heap.size ≤ w'.heap.size) (hk : ∀ (i : Nat) (G : Nat → Loc) (k : Nat), ρ[i]? = some G → (G 0).foot k → w'.heap[k]? = w.heap[k]?) : SmallAt ρ w' V :=
  ⟨h.len, fun i own c F hc hF => (h.at_ i own c F hc hF).keep (Goes.refl ρ) hs fun k hf => hk i F k hF hf, h.apart⟩

theorem AbAt.keep {w w' : World} {F : Nat → Loc} {d : Ab} (h : AbAt w F d) (hs : w.heap.size ≤ w'.heap.size) (hk : ∀ k, (F 0).foot k → w'.heap[k]? = w.heap[k]?) : AbAt w' F d := by
  obtain ⟨V, ρ, F', h1, h2, h3, h4, h5, h6⟩ := h
  exact ⟨V, ρ, F', h1, h2, h3.keep hs fun i G k hG hf => hk k ((h6 k).2 ⟨i, G, hG, hf⟩), h4, h5, h6⟩

theorem ObAt.keep {ρ ρ' : Map} {w w' : World} {F : Nat → Loc} {o : Ob} (h : ObAt ρ w F o) (hf : FootOk (F 0) o) (g : Goes ρ ρ') (hs : w.heap.size ≤ w'.heap.size) (hk : ∀ k, (F 0).foot k → w'.heap[k]? = w.heap[k]?) : ObAt ρ' w' F o := by
  cases o with
  | map es =>
    obtain ⟨arr, clock, h1, h2, h3⟩ := h
    exact ⟨arr, clock, (hk _ ((hf _).2 rfl)).trans h1, h2.mono fun _ _ => RE.goes g, h3⟩
  | iter s pos => exact (hk _ ((hf _).2 rfl)).trans h
  | loop st pend => exact (hk _ ((hf _).2 rfl)).trans h
  | ab d => exact AbAt.keep h hs hk

/-- What stays where it is stays what it is. -/
theorem BlkAt.keep {ρ ρ' : Map} {w w' : World} {F : Nat → Loc} {idx : Nat} {b : Blk D} (h : BlkAt ρ w F idx b) (g : Goes ρ ρ') (hs : w.heap.size ≤ w'.heap.size)
    (hk : b.live idx → ∀ k, (F idx).foot k → w'.heap[k]? = w.heap[k]?) : BlkAt ρ' w' F idx b := by
  cases b with
  | obj o =>
    intro hi
    have hi0 : idx = 0 := hi
    subst hi0
    obtain ⟨h1, h2, h3⟩ := h hi
    exact ⟨h1, fun k hf => Nat.lt_of_lt_of_le (h2 k hf) hs, h3.keep h1 g hs (hk hi)⟩
  | cells own num c =>
    intro hi
    exact (h hi).keep g hs (hk hi)
/-- A draw turns nothing. -/
theorem Rel.drew {ρ : Map} {H : Heap D} {w : World} (h : Rel ρ H w) : Rel ρ H w.drew := by
  refine ⟨h.len, ?_, h.apart⟩
  intro id b F idx hb hF
  have := h.at_ id b F idx hb hF
  cases b with
  | cells own num c => exact this
  | obj o =>
    intro hi
    obtain ⟨h1, h2, h3⟩ := this hi
    exact ⟨h1, h2, h3.keep h1 (Goes.refl ρ) (Nat.le_refl _) fun _ _ => rfl⟩
theorem Ext.drew (w : World) (T : Nat → Prop) : Ext w w.drew T := ⟨rfl, rfl, rfl, Nat.le_refl _, fun _ _ _ => rfl⟩
theorem Step.drew {ρ : Map} {H : Heap D} {w : World} (h : Rel ρ H w) (low : Nat) : Step ρ H w low ρ H w.drew :=
  Step.make h (GoesE.refl ρ) h.drew (Ext.drew w _) (fun _ o => (ownR.none o).elim) (fun id b' _ h => ⟨b', h, rfl, fun _ h => h⟩) (fun id b' hge hb => by have := (List.getElem?_eq_some_iff.1 hb).1; omega)

end
end Go.Proofs.Ytnoonoghemgbbaa.Sx
