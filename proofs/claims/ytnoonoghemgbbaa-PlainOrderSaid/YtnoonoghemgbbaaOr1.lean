import Derived.Orders
import Derived.Laws.Rows
import Derived.Laws.CopyRow
import Derived.Laws.Append
import Derived.Laws.Cells
import Derived.KernelRfl
/-
  A symbolic evaluator over the model's code: part 1: abstract values, heaps, and what they stand for in a world.
-/
set_option linter.unusedVariables false
set_option linter.unusedSimpArgs false
namespace Go.Proofs.Ytnoonoghemgbbaa.Sx
open Go

/-- Where an abstract block lies in a world: the real block, by how much offsets are shifted, the end of what it may use, and the real blocks that it depends on. -/
structure Loc where
  blk : Nat
  sh : Nat
  fin : Nat
  foot : Nat → Prop
  aux : Loop

/-- One cell of memory, or a value of one cell. Addresses: block, index in a family of blocks, offset. -/
inductive Cell where
  | bool (b : Bool)
  | int (k : IntKind) (n : Int)
  | str (l : List UInt8)
  | ptr (nl : Bool) (id idx off : Nat)
  | slice (nl : Bool) (id idx off len : Nat) (cap : Option Nat) (sz : Nat)
  | empty
  | func (f : FuncId) (caps : List (Nat × Nat × Nat))
  | nilFunc
  | anyp
  | map (nl : Bool) (id idx : Nat)
  | yld (id : Nat)

inductive AV1 where
  | cell (c : Cell)
  | agg (cs : List Cell)

inductive AV where
  | cell (c : Cell)
  | agg (cs : List Cell)
  | tup (vs : List AV1)
  | junk

/-- What a block holds: cells one by one; whole numbers of one kind; structs. -/
inductive Cont where
  | raw (cs : List Cell)
  | ints (k : IntKind) (l : List Int)
  | fam (n sz : Nat) (f : Nat → List Cell)

def Cont.len : Cont → Nat
  | .raw cs => cs.length
  | .ints _ l => l.length
  | .fam n sz _ => n * sz

/-- The cell at a place, as a proposition. -/
def Cont.At : Cont → Nat → Cell → Prop
  | .raw cs, j, c => cs[j]? = some c
  | .ints k l, j, c => ∃ n, l[j]? = some n ∧ c = .int k n
  | .fam n sz f, j, c => ∃ i s, i < n ∧ s < sz ∧ j = i * sz + s ∧ (f i)[s]? = some c

/-- Every place below the length holds a cell. -/
def Cont.wf : Cont → Prop
  | .raw _ => True
  | .ints _ _ => True
  | .fam n sz f => ∀ i, i < n → (f i).length = sz

/-- The block of what is nil: there is none such. -/
abbrev NIL : Nat := 1000000007

/-- Data that some blocks hold together: a stack (its cells, how many there may be, what is thrown); memory (RAM, window). -/
inductive Ab where
  | stk (cells : List Int) (most over under : Int)
  | mem (ram win : List Int)

/-- How such data may lie: the first block is what is pointed at. -/
def Ab.shows : Ab → List (Bool × Cont) → Prop
  | .stk cs m o u, V => ((cs.length : Int) ≤ m ∧ 0 < m ∧ m ≤ 65536 ∧ o ≠ 0 ∧ u ≠ 0) ∧
      ((cs = [] ∧ V = [(true, .raw [.slice true NIL 0 0 0 none 1, .int .i64 m, .int .i32 o, .int .i32 u])]) ∨
       (∃ len l, len ≤ l.length ∧ l.take len = cs ∧ V = [(true, .raw [.slice false 1 0 0 len none 1, .int .i64 m, .int .i32 o, .int .i32 u]), (true, .ints .u32 l)]))
  | .mem ram win, V => (4 ≤ ram.length ∧ ram.length ≤ 65536 ∧ win.length ≤ 65536) ∧
      ((win = [] ∧ V = [(true, .raw [.slice false 1 0 0 ram.length none 1, .slice true NIL 0 0 0 none 1]), (true, .ints .u8 ram)]) ∨
       V = [(true, .raw [.slice false 1 0 0 ram.length none 1, .slice false 2 0 0 win.length none 1]), (true, .ints .u8 ram), (true, .ints .u8 win)])

/-- An object that is no cells: a map (keys and values in the order of their coming), a text that is gone over, a loop over a function. -/
inductive Ob where
  | map (es : List (AV1 × AV1))
  | iter (s : List UInt8) (pos : Nat)
  | loop (st : LoopState) (pend : Option Code)
  | ab (d : Ab)

/-- An entry of the abstract heap: a family of blocks of cells (written by us alone, or only read), or an object. -/
inductive Blk (D : Type) where
  | cells (own : Bool) (num : Nat) (c : Nat → Cont)
  | obj (o : Ob)

abbrev Heap (D : Type) := List (Option (Blk D))
abbrev Map := List (Nat → Loc)

def All2 {α β : Type} (R : α → β → Prop) : List α → List β → Prop
  | [], [] => True
  | a :: l, b :: m => R a b ∧ All2 R l m
  | _, _ => False

def RCap (ρ : Map) (p : Nat × Nat × Nat) (v : Value) : Prop := ∃ F, ρ[p.1]? = some F ∧ v = .pointer (some ⟨(F p.2.1).blk, (F p.2.1).sh + p.2.2, none⟩)

/-- What a cell stands for. -/
def RC (ρ : Map) : Cell → Value → Prop
  | .bool b, v => v = .bool b
  | .int k n, v => v = .int k n
  | .str l, v => v = .string ⟨l.toArray⟩
  | .ptr nl id idx off, v => (nl = true ∧ v = .pointer none) ∨ (nl = false ∧ ∃ F, ρ[id]? = some F ∧ v = .pointer (some ⟨(F idx).blk, (F idx).sh + off, none⟩))
  | .slice nl id idx off len cap sz, v => (nl = true ∧ len = 0 ∧ v = .slice none 0 0) ∨
      (nl = false ∧ ∃ F r, ρ[id]? = some F ∧ v = .slice (some ⟨(F idx).blk, (F idx).sh + off, none⟩) len r ∧ len ≤ r ∧ (match cap with | some c => r = c | none => r = ((F idx).fin - ((F idx).sh + off)) / sz))
  | .empty, v => v = .slice none 0 0 ∨ ∃ a c, v = .slice (some a) 0 c
  | .func f caps, v => ∃ vs : List Value, v = .func (.func f) #[] vs.toArray ∧ All2 (RCap ρ) caps vs
  | .nilFunc, v => v = .nilFunc
  | .anyp, v => ∃ p, v = .pointer p
  | .map nl id idx, v => (nl = true ∧ v = .map none) ∨ (nl = false ∧ ∃ F, ρ[id]? = some F ∧ v = .map (some (F idx).blk))
  | .yld id, v => ∃ F, ρ[id]? = some F ∧ v = .func (.yield (F 0).blk) #[] #[]

def R1 (ρ : Map) : AV1 → Value → Prop
  | .cell c, v => RC ρ c v
  | .agg cs, v => ∃ vs : List Value, v = .agg vs.toArray ∧ All2 (RC ρ) cs vs

def RV (ρ : Map) : AV → Value → Prop
  | .cell c, v => RC ρ c v
  | .agg cs, v => ∃ vs : List Value, v = .agg vs.toArray ∧ All2 (RC ρ) cs vs
  | .tup l, v => ∃ vs : List Value, v = .tuple vs.toArray ∧ All2 (R1 ρ) l vs
  | .junk, _ => True

/-- Two maps of a block say the same of where its cells lie. -/
def Lo (F F' : Nat → Loc) : Prop := ∀ idx, (F' idx).blk = (F idx).blk ∧ (F' idx).sh = (F idx).sh ∧ (F' idx).fin = (F idx).fin ∧ (F' idx).aux = (F idx).aux

theorem Lo.refl (F : Nat → Loc) : Lo F F := fun _ => ⟨rfl, rfl, rfl, rfl⟩
theorem Lo.trans {F G K : Nat → Loc} (h : Lo F G) (k : Lo G K) : Lo F K := fun i => ⟨(k i).1.trans (h i).1, (k i).2.1.trans (h i).2.1, (k i).2.2.1.trans (h i).2.2.1, (k i).2.2.2.trans (h i).2.2.2⟩

/-- ρ' goes on where ρ ends. -/
def Goes (ρ ρ' : Map) : Prop := ∀ (i : Nat) (F : Nat → Loc), ρ[i]? = some F → ∃ F', ρ'[i]? = some F' ∧ Lo F F'
def GoesE (ρ ρ' : Map) : Prop := ∀ (i : Nat) (F : Nat → Loc), ρ[i]? = some F → ρ'[i]? = some F

theorem GoesE.goes {ρ ρ' : Map} (h : GoesE ρ ρ') : Goes ρ ρ' := fun i F e => ⟨F, h i F e, Lo.refl F⟩
theorem GoesE.refl (ρ : Map) : GoesE ρ ρ := fun _ _ h => h
theorem GoesE.app (ρ e : Map) : GoesE ρ (ρ ++ e) := fun i F h => by
  rw [List.getElem?_append_left (List.getElem?_eq_some_iff.1 h).1]; exact h
theorem Goes.refl (ρ : Map) : Goes ρ ρ := (GoesE.refl ρ).goes
theorem Goes.trans {a b c : Map} (h : Goes a b) (k : Goes b c) : Goes a c := fun i F e =>
  let ⟨_, e1, l1⟩ := h i F e
  let ⟨F2, e2, l2⟩ := k i _ e1
  ⟨F2, e2, l1.trans l2⟩
theorem Goes.app (ρ e : Map) : Goes ρ (ρ ++ e) := (GoesE.app ρ e).goes

section All2
variable {α β γ : Type} {R : α → β → Prop}
theorem All2.mono {R' : α → β → Prop} (h : ∀ a b, R a b → R' a b) : ∀ {l : List α} {m : List β}, All2 R l m → All2 R' l m
  | [], [], _ => trivial
  | _ :: _, _ :: _, ⟨h1, h2⟩ => ⟨h _ _ h1, All2.mono h h2⟩
  | [], _ :: _, h0 => h0.elim
  | _ :: _, [], h0 => h0.elim
theorem All2.length : ∀ {l : List α} {m : List β}, All2 R l m → l.length = m.length
  | [], [], _ => rfl
  | _ :: _, _ :: _, ⟨_, h2⟩ => by simp [All2.length h2]
  | [], _ :: _, h0 => h0.elim
  | _ :: _, [], h0 => h0.elim
theorem All2.get : ∀ {l : List α} {m : List β}, All2 R l m → ∀ {i : Nat} {a : α}, l[i]? = some a → ∃ b, m[i]? = some b ∧ R a b
  | [], [], _, i, a, h => by simp at h
  | a :: l, b :: m, ⟨h1, h2⟩, 0, x, h => by simp at h; subst h; exact ⟨b, rfl, h1⟩
  | a :: l, b :: m, ⟨h1, h2⟩, i + 1, x, h => by simpa using All2.get h2 (by simpa using h)
  | [], _ :: _, h0, _, _, _ => h0.elim
  | _ :: _, [], h0, _, _, _ => h0.elim
theorem All2.set : ∀ {l : List α} {m : List β}, All2 R l m → ∀ (i : Nat) {a : α} {b : β}, R a b → All2 R (l.set i a) (m.set i b)
  | [], [], _, i, a, b, _ => trivial
  | a :: l, b :: m, ⟨_, h2⟩, 0, x, y, h => ⟨h, h2⟩
  | a :: l, b :: m, ⟨h1, h2⟩, i + 1, x, y, h => ⟨h1, All2.set h2 i h⟩
  | [], _ :: _, h0, _, _, _, _ => h0.elim
  | _ :: _, [], h0, _, _, _, _ => h0.elim
theorem All2.app : ∀ {l : List α} {m : List β} {l' : List α} {m' : List β}, All2 R l m → All2 R l' m' → All2 R (l ++ l') (m ++ m')
  | [], [], _, _, _, h => h
  | _ :: _, _ :: _, _, _, ⟨h1, h2⟩, h => ⟨h1, All2.app h2 h⟩
  | [], _ :: _, _, _, h0, _ => h0.elim
  | _ :: _, [], _, _, h0, _ => h0.elim
theorem All2.drop : ∀ {l : List α} {m : List β}, All2 R l m → ∀ n, All2 R (l.drop n) (m.drop n)
  | [], [], _, n => by simp [All2]
  | a :: l, b :: m, h, 0 => h
  | a :: l, b :: m, ⟨_, h2⟩, n + 1 => by simpa using All2.drop h2 n
  | [], _ :: _, h0, _ => h0.elim
  | _ :: _, [], h0, _ => h0.elim
theorem All2.take : ∀ {l : List α} {m : List β}, All2 R l m → ∀ n, All2 R (l.take n) (m.take n)
  | [], [], _, n => by simp [All2]
  | a :: l, b :: m, h, 0 => by simp [All2]
  | a :: l, b :: m, ⟨h1, h2⟩, n + 1 => by simpa using ⟨h1, All2.take h2 n⟩
  | [], _ :: _, h0, _ => h0.elim
  | _ :: _, [], h0, _ => h0.elim
theorem All2.of_get : ∀ {l : List α} {m : List β}, l.length = m.length → (∀ (i : Nat) (a : α) (b : β), l[i]? = some a → m[i]? = some b → R a b) → All2 R l m
  | [], [], _, _ => trivial
  | a :: l, b :: m, hl, h => ⟨h 0 a b rfl rfl, All2.of_get (by simpa using hl) fun i x y hx hy => h (i + 1) x y (by simpa using hx) (by simpa using hy)⟩
  | [], _ :: _, hl, _ => by simp at hl
  | _ :: _, [], hl, _ => by simp at hl
theorem All2.replicate {a : α} {b : β} (h : R a b) : ∀ n, All2 R (List.replicate n a) (List.replicate n b)
  | 0 => trivial
  | n + 1 => ⟨h, All2.replicate h n⟩
end All2

theorem RCap.goes {ρ ρ' : Map} (g : Goes ρ ρ') {p : Nat × Nat × Nat} {v : Value} : RCap ρ p v → RCap ρ' p v
  | ⟨F, h, e⟩ =>
    let ⟨F', h', l⟩ := g _ _ h
    ⟨F', h', by rw [(l _).1, (l _).2.1]; exact e⟩

theorem RC.goes {ρ ρ' : Map} (g : Goes ρ ρ') {c : Cell} {v : Value} (h : RC ρ c v) : RC ρ' c v := by
  cases c with
  | ptr nl id idx off =>
    rcases h with h | ⟨h1, F, h2, h3⟩
    · exact .inl h
    · obtain ⟨F', h', l⟩ := g _ _ h2
      exact .inr ⟨h1, F', h', by rw [(l _).1, (l _).2.1]; exact h3⟩
  | slice nl id idx off len cap sz =>
    rcases h with h | ⟨h1, F, r, h2, h3, h4, h5⟩
    · exact .inl h
    · obtain ⟨F', h', l⟩ := g _ _ h2
      refine .inr ⟨h1, F', r, h', by rw [(l _).1, (l _).2.1]; exact h3, h4, ?_⟩
      rw [(l _).2.1, (l _).2.2.1]; exact h5
  | func f caps =>
    obtain ⟨vs, e, h⟩ := h
    exact ⟨vs, e, h.mono fun _ _ => RCap.goes g⟩
  | map nl id idx =>
    rcases h with h | ⟨h1, F, h2, h3⟩
    · exact .inl h
    · obtain ⟨F', h', l⟩ := g _ _ h2
      exact .inr ⟨h1, F', h', by rw [(l _).1]; exact h3⟩
  | yld id =>
    obtain ⟨F, h2, h3⟩ := h
    obtain ⟨F', h', l⟩ := g _ _ h2
    exact ⟨F', h', by rw [(l _).1]; exact h3⟩
  | bool b => exact h
  | int k n => exact h
  | str l => exact h
  | empty => exact h
  | nilFunc => exact h
  | anyp => exact h

theorem R1.goes {ρ ρ' : Map} (g : Goes ρ ρ') {c : AV1} {v : Value} (h : R1 ρ c v) : R1 ρ' c v := by
  cases c with
  | cell c => exact RC.goes g h
  | agg cs => obtain ⟨vs, e, h⟩ := h; exact ⟨vs, e, h.mono fun _ _ => RC.goes g⟩

theorem RV.goes {ρ ρ' : Map} (g : Goes ρ ρ') {c : AV} {v : Value} (h : RV ρ c v) : RV ρ' c v := by
  cases c with
  | cell c => exact RC.goes g h
  | agg cs => obtain ⟨vs, e, h⟩ := h; exact ⟨vs, e, h.mono fun _ _ => RC.goes g⟩
  | tup l => obtain ⟨vs, e, h⟩ := h; exact ⟨vs, e, h.mono fun _ _ => R1.goes g⟩
  | junk => trivial

/-- Every cell stands for a value of one cell. -/
theorem RC.one {ρ : Map} {c : Cell} {v : Value} (h : RC ρ c v) : v.oneCell' = true := by
  cases c with
  | ptr nl id idx off =>
    rcases h with ⟨_, rfl⟩ | ⟨_, F, _, rfl⟩ <;> rfl
  | slice nl id idx off len cap sz =>
    rcases h with ⟨_, _, rfl⟩ | ⟨_, F, r, _, rfl, _⟩ <;> rfl
  | func f caps => obtain ⟨vs, rfl, _⟩ := h; rfl
  | map nl id idx => rcases h with ⟨_, rfl⟩ | ⟨_, F, _, rfl⟩ <;> rfl
  | yld id => obtain ⟨F, _, rfl⟩ := h; rfl
  | bool b => cases h; rfl
  | int k n => cases h; rfl
  | str l => cases h; rfl
  | empty => rcases h with rfl | ⟨a, c, rfl⟩ <;> rfl
  | nilFunc => cases h; rfl
  | anyp => obtain ⟨p, rfl⟩ := h; rfl

theorem RC.cells {ρ : Map} {c : Cell} {v : Value} (h : RC ρ c v) : v.cells = #[v] := by
  have := h.one
  cases v <;> first | rfl | simp [Value.oneCell'] at this

/-! ### What a heap stands for -/
section
variable {D : Type}

/-- The cells of a block, as they lie in a world. -/
def ContAt (ρ : Map) (w : World) (L : Loc) (c : Cont) : Prop :=
  ∀ j x, c.At j x → ∃ v, w.cell? ⟨L.blk, L.sh + j, none⟩ = some v ∧ RC ρ x v

/-- No cell of a block may not be written. -/
def Warm (n : Nat) (fr : Nat × Nat) : Prop := ∀ o, o < n → ¬ (fr.1 ≤ o ∧ o < fr.2)

def OwnAt (w : World) (L : Loc) (c : Cont) : Prop :=
  (∀ k, L.foot k ↔ k = L.blk) ∧ L.sh + c.len ≤ L.fin ∧ ∃ cs e fr, w.heap[L.blk]? = some (.cells cs e fr) ∧ L.fin ≤ cs.size ∧ Warm cs.size fr

def RE (ρ : Map) (e : AV1 × AV1) (m : MapEntry) : Prop := R1 ρ e.1 m.key ∧ R1 ρ e.2 m.val

/-- Entries of a map have marks of their own, below the map's clock. -/
def Born (l : List MapEntry) (clock : Nat) : Prop := (∀ m ∈ l, m.born < clock) ∧ l.Pairwise fun a b => a.born ≠ b.born

/-- Cells of a block. -/
def CellsAt (ρ : Map) (w : World) (L : Loc) (own : Bool) (c : Cont) : Prop :=
  c.wf ∧ (0 < c.len → L.foot L.blk) ∧ (∀ k, L.foot k → k < w.heap.size) ∧ ContAt ρ w L c ∧ (own = true → OwnAt w L c)

/-- A small heap of cells. -/
structure SmallAt (ρ : Map) (w : World) (V : List (Bool × Cont)) : Prop where
  len : ρ.length = V.length
  at_ : ∀ (i : Nat) (own : Bool) (c : Cont) (F : Nat → Loc), V[i]? = some (own, c) → ρ[i]? = some F → CellsAt ρ w (F 0) own c
  apart : ∀ (i j : Nat) (c c' : Cont) (own : Bool) (F F' : Nat → Loc), V[i]? = some (true, c) → ρ[i]? = some F → V[j]? = some (own, c') → ρ[j]? = some F' → i ≠ j → ∀ k, (F 0).foot k → ¬ (F' 0).foot k

def AbAt (w : World) (F : Nat → Loc) (d : Ab) : Prop :=
  ∃ V ρ F', d.shows V ∧ (∀ x ∈ V, x.1 = true) ∧ SmallAt ρ w V ∧ ρ[0]? = some F' ∧ Lo F' F ∧ ∀ k, (F 0).foot k ↔ ∃ (i : Nat) (G : Nat → Loc), ρ[i]? = some G ∧ (G 0).foot k

def ObAt (ρ : Map) (w : World) (F : Nat → Loc) : Ob → Prop
  | .map es => ∃ arr clock, w.heap[(F 0).blk]? = some (.map arr clock) ∧ All2 (RE ρ) es arr.toList ∧ Born arr.toList clock
  | .iter s pos => w.heap[(F 0).blk]? = some (.stringIter ⟨s.toArray⟩ pos)
  | .loop st pend => w.heap[(F 0).blk]? = some (.loop { (F 0).aux with state := st, pending := pend })
  | .ab d => AbAt w F d

/-- Where an object lies. -/
def FootOk (L : Loc) : Ob → Prop
  | .ab _ => True
  | _ => ∀ k, L.foot k ↔ k = L.blk

def BlkAt (ρ : Map) (w : World) (F : Nat → Loc) (idx : Nat) : Blk D → Prop
  | .cells own num c => idx < num → CellsAt ρ w (F idx) own (c idx)
  | .obj o => idx = 0 → FootOk (F 0) o ∧ (∀ k, (F 0).foot k → k < w.heap.size) ∧ ObAt ρ w F o

def Blk.own : Blk D → Bool
  | .cells own _ _ => own
  | .obj _ => true
def Blk.live : Blk D → Nat → Prop
  | .cells _ num _, idx => idx < num
  | .obj _, idx => idx = 0

structure Rel (ρ : Map) (H : Heap D) (w : World) : Prop where
  len : ρ.length = H.length
  at_ : ∀ (id : Nat) (b : Blk D) (F : Nat → Loc) (idx : Nat), H[id]? = some (some b) → ρ[id]? = some F → BlkAt ρ w F idx b
  apart : ∀ (id : Nat) (b : Blk D) (F : Nat → Loc) (idx : Nat) (id' : Nat) (b' : Blk D) (F' : Nat → Loc) (idx' : Nat), H[id]? = some (some b) → ρ[id]? = some F → b.live idx → b.own = true →
    H[id']? = some (some b') → ρ[id']? = some F' → b'.live idx' → (id, idx) ≠ (id', idx') → ∀ k, (F idx).foot k → ¬ (F' idx').foot k

/-- The real blocks that are ours from abstract block s on. -/
def ownR (ρ : Map) (H : Heap D) (s k : Nat) : Prop :=
  ∃ (id : Nat) (b : Blk D) (F : Nat → Loc) (idx : Nat), s ≤ id ∧ H[id]? = some (some b) ∧ b.own = true ∧ b.live idx ∧ ρ[id]? = some F ∧ (F idx).foot k

/-- The real blocks of one entry that are ours. -/
def ownAt (ρ : Map) (H : Heap D) (id k : Nat) : Prop :=
  ∃ (b : Blk D) (F : Nat → Loc) (idx : Nat), H[id]? = some (some b) ∧ b.own = true ∧ b.live idx ∧ ρ[id]? = some F ∧ (F idx).foot k

/-- Nothing has turned but blocks that T lets. -/
structure Ext (w w' : World) (T : Nat → Prop) : Prop where
  os : w'.os = w.os
  tape : w'.tape = w.tape
  output : w'.output = w.output
  size : w.heap.size ≤ w'.heap.size
  block : ∀ k, k < w.heap.size → ¬ T k → w'.heap[k]? = w.heap[k]?

theorem Ext.refl (w : World) (T : Nat → Prop) : Ext w w T := ⟨rfl, rfl, rfl, Nat.le_refl _, fun _ _ _ => rfl⟩
theorem Ext.mono {w w' : World} {T T' : Nat → Prop} (h : Ext w w' T) (ht : ∀ k, k < w.heap.size → T k → T' k) : Ext w w' T' :=
  ⟨h.os, h.tape, h.output, h.size, fun k hk hn => h.block k hk fun t => hn (ht k hk t)⟩
theorem Ext.trans {a b c : World} {T T' : Nat → Prop} (h : Ext a b T) (g : Ext b c T') : Ext a c (fun k => T k ∨ T' k) :=
  ⟨g.os.trans h.os, g.tape.trans h.tape, g.output.trans h.output, Nat.le_trans h.size g.size,
    fun k hk hn => (g.block k (Nat.lt_of_lt_of_le hk h.size) fun t => hn (.inr t)).trans (h.block k hk fun t => hn (.inl t))⟩
theorem Ext.cell {w w' : World} {T : Nat → Prop} (h : Ext w w' T) {a : Addr} (ha : a.block < w.heap.size) (hn : ¬ T a.block) : w'.cell? a = w.cell? a := by
  simp [World.cell?, h.block a.block ha hn]

/-- From one state to another: low: no block of ours below it was touched. -/
structure Step (ρ : Map) (H : Heap D) (w : World) (low : Nat) (ρ' : Map) (H' : Heap D) (w' : World) : Prop where
  goes : Goes ρ ρ'
  rel : Rel ρ' H' w'
  ext : Ext w w' (ownR ρ H low)
  each : ∀ id k, ownAt ρ' H' id k → w.heap.size ≤ k ∨ ownR ρ H low k ∨ ownAt ρ H id k
  old : ∀ (id : Nat) (b' : Blk D), id < H.length → H'[id]? = some (some b') → ∃ b, H[id]? = some (some b) ∧ b'.own = b.own ∧ (∀ idx, b'.live idx → b.live idx) ∧
    (b'.own = false → ∀ F F', ρ[id]? = some F → ρ'[id]? = some F' → F' = F)
  mine : ∀ (id : Nat) (b' : Blk D), H.length ≤ id → H'[id]? = some (some b') → b'.own = true

theorem Rel.lt {ρ : Map} {H : Heap D} {w : World} (h : Rel ρ H w) {id : Nat} {b : Blk D} {F : Nat → Loc} {idx k : Nat} (hb : H[id]? = some (some b)) (hF : ρ[id]? = some F) (hl : b.live idx) (hk : (F idx).foot k) : k < w.heap.size := by
  have := h.at_ id b F idx hb hF
  cases b with
  | cells own num c => exact (this hl).2.2.1 k hk
  | obj o => have hl0 : idx = 0 := hl; subst hl0; exact (this hl).2.1 k hk

theorem ownR.lt {ρ : Map} {H : Heap D} {w : World} (h : Rel ρ H w) {s k : Nat} (o : ownR ρ H s k) : k < w.heap.size := by
  obtain ⟨id, b, F, idx, _, hb, _, hl, hF, hk⟩ := o
  exact h.lt hb hF hl hk

theorem ownR.mono {ρ : Map} {H : Heap D} {s s' k : Nat} (h : s' ≤ s) : ownR ρ H s k → ownR ρ H s' k
  | ⟨id, b, F, idx, h1, h2⟩ => ⟨id, b, F, idx, Nat.le_trans h h1, h2⟩

theorem ownR.none {ρ : Map} {H : Heap D} {k : Nat} : ¬ ownR ρ H H.length k := by
  rintro ⟨id, b, F, idx, h1, h2, _⟩
  have := (List.getElem?_eq_some_iff.1 h2).1
  omega

theorem Rel.mapAt {ρ : Map} {H : Heap D} {w : World} (h : Rel ρ H w) {id : Nat} {b : Option (Blk D)} (hb : H[id]? = some b) : ∃ F, ρ[id]? = some F := by
  have := (List.getElem?_eq_some_iff.1 hb).1
  exact ⟨ρ[id]'(by rw [h.len]; exact this), List.getElem?_eq_getElem _⟩

theorem Step.make {ρ ρ' : Map} {H H' : Heap D} {w w' : World} {low : Nat} (r : Rel ρ H w) (goes : GoesE ρ ρ') (rel : Rel ρ' H' w') (ext : Ext w w' (ownR ρ H low))
    (fresh : ∀ k, ownR ρ' H' H.length k → w.heap.size ≤ k ∨ ownR ρ H low k)
    (old : ∀ (id : Nat) (b' : Blk D), id < H.length → H'[id]? = some (some b') → ∃ b, H[id]? = some (some b) ∧ b'.own = b.own ∧ ∀ idx, b'.live idx → b.live idx)
    (mine : ∀ (id : Nat) (b' : Blk D), H.length ≤ id → H'[id]? = some (some b') → b'.own = true) : Step ρ H w low ρ' H' w' := by
  refine ⟨goes.goes, rel, ext, ?_, ?_, mine⟩
  · rintro id k ⟨b', F', idx, h2, h3, h4, h5, h6⟩
    rcases Nat.lt_or_ge id H.length with hlt | hge
    · obtain ⟨b, hb, ho, hl⟩ := old id b' hlt h2
      obtain ⟨F, hF⟩ := r.mapAt hb
      have e := goes id F hF
      rw [h5] at e
      cases e
      exact .inr (.inr ⟨b, F', idx, hb, by rw [← ho]; exact h3, hl idx h4, hF, h6⟩)
    · exact (fresh k ⟨id, b', F', idx, hge, h2, h3, h4, h5, h6⟩).imp (fun h => h) .inl
  · intro id b' hid hb
    obtain ⟨b, hb0, ho, hl⟩ := old id b' hid hb
    refine ⟨b, hb0, ho, hl, fun _ F F' hF hF' => ?_⟩
    have := goes id F hF
    rw [hF'] at this
    cases this
    rfl

theorem Step.refl {ρ : Map} {H : Heap D} {w : World} (h : Rel ρ H w) (low : Nat) : Step ρ H w low ρ H w :=
  Step.make h (GoesE.refl ρ) h (Ext.refl w _) (fun _ o => (ownR.none o).elim) (fun id b' _ h => ⟨b', h, rfl, fun _ h => h⟩) (fun id b' hge hb => by have := (List.getElem?_eq_some_iff.1 hb).1; omega)

theorem Step.mono {ρ ρ' : Map} {H H' : Heap D} {w w' : World} {low low' : Nat} (h : Step ρ H w low ρ' H' w') (hl : low' ≤ low) : Step ρ H w low' ρ' H' w' :=
  ⟨h.goes, h.rel, h.ext.mono fun _ _ => ownR.mono hl, fun i k o => (h.each i k o).imp id fun o => o.imp (ownR.mono hl) id, h.old, h.mine⟩

theorem Step.len {ρ ρ' : Map} {H H' : Heap D} {w w' : World} {low : Nat} (h : Step ρ H w low ρ' H' w') (r : Rel ρ H w) : H.length ≤ H'.length := by
  rw [← h.rel.len, ← r.len]
  rcases Nat.lt_or_ge ρ'.length ρ.length with hlt | hge
  · obtain ⟨F', this, _⟩ := h.goes _ _ (List.getElem?_eq_getElem hlt)
    rw [List.getElem?_eq_none (Nat.le_refl _)] at this
    cases this
  · exact hge

theorem Step.owned {ρ ρ' : Map} {H H' : Heap D} {w w' : World} {low : Nat} (h : Step ρ H w low ρ' H' w') (s k : Nat) (o : ownR ρ' H' s k) : w.heap.size ≤ k ∨ ownR ρ H (min low s) k := by
  obtain ⟨id, b, F, idx, h1, h2⟩ := o
  rcases h.each id k ⟨b, F, idx, h2⟩ with a | a | ⟨b, F, idx, a⟩
  · exact .inl a
  · exact .inr (a.mono (Nat.min_le_left _ _))
  · exact .inr ⟨id, b, F, idx, Nat.le_trans (Nat.min_le_right _ _) h1, a⟩

theorem Step.fresh {ρ ρ' : Map} {H H' : Heap D} {w w' : World} {low k : Nat} (h : Step ρ H w low ρ' H' w') (o : ownR ρ' H' H.length k) : w.heap.size ≤ k ∨ ownR ρ H low k := by
  rcases h.owned _ _ o with h1 | h1
  · exact .inl h1
  · refine .inr ?_
    obtain ⟨id, b, F, idx, a1, a2, a3⟩ := h1
    have := (List.getElem?_eq_some_iff.1 a2).1
    exact ⟨id, b, F, idx, by omega, a2, a3⟩

theorem Step.trans {ρ ρ1 ρ2 : Map} {H H1 H2 : Heap D} {w w1 w2 : World} {l1 l2 : Nat} (r : Rel ρ H w) (h : Step ρ H w l1 ρ1 H1 w1) (g : Step ρ1 H1 w1 l2 ρ2 H2 w2) :
    Step ρ H w (min l1 l2) ρ2 H2 w2 := by
  refine ⟨h.goes.trans g.goes, g.rel, (h.ext.trans g.ext).mono ?_, ?_, ?_, ?_⟩
  · intro k hk t
    rcases t with t | t
    · exact t.mono (Nat.min_le_left _ _)
    · rcases h.owned _ _ t with h | h
      · omega
      · exact h
  · intro i k o
    rcases g.each i k o with h1 | h1 | h1
    · exact .inl (Nat.le_trans h.ext.size h1)
    · rcases h.owned _ _ h1 with h2 | h2
      · exact .inl h2
      · exact .inr (.inl h2)
    · rcases h.each i k h1 with h2 | h2 | h2
      · exact .inl h2
      · exact .inr (.inl (h2.mono (Nat.min_le_left _ _)))
      · exact .inr (.inr h2)
  · intro id b' hid hb
    have hle := h.len r
    obtain ⟨b1, e1, o1, l1, f1⟩ := g.old id b' (by omega) hb
    obtain ⟨b, e, o, l, f⟩ := h.old id b1 hid e1
    refine ⟨b, e, o1.trans o, fun idx hx => l idx (l1 idx hx), fun ho F F2 hF hF2 => ?_⟩
    obtain ⟨F1, hF1, _⟩ := h.goes id F hF
    rw [f1 ho F1 F2 hF1 hF2]
    exact f (by rw [← o1]; exact ho) F F1 hF hF1
  · intro id b' hge hb
    rcases Nat.lt_or_ge id H1.length with hlt | hge1
    · obtain ⟨b1, e1, o1, _⟩ := g.old id b' hlt hb
      rw [o1]; exact h.mine id b1 hge e1
    · exact g.mine id b' hge1 hb

theorem RE.goes {ρ ρ' : Map} (g : Goes ρ ρ') {e : AV1 × AV1} {m : MapEntry} (h : RE ρ e m) : RE ρ' e m := ⟨R1.goes g h.1, R1.goes g h.2⟩

theorem At.pos {c : Cont} {j : Nat} {x : Cell} (hx : c.At j x) : 0 < c.len := by
  cases c with
  | raw cs => have := (List.getElem?_eq_some_iff.1 hx).1; simp only [Cont.len]; omega
  | ints k l => obtain ⟨n, hn, _⟩ := hx; have := (List.getElem?_eq_some_iff.1 hn).1; simp only [Cont.len]; omega
  | fam n sz f => obtain ⟨i, s, hi, hs, _⟩ := hx; simp only [Cont.len]; exact Nat.mul_pos (by omega) (by omega)

/-- Cells that stay where they are stay what they are. -/
theorem CellsAt.keep {ρ ρ' : Map} {w w' : World} {L : Loc} {own : Bool} {c : Cont} (h : CellsAt ρ w L own c) (g : Goes ρ ρ') (hs : w.heap.size ≤ w'.heap.size) (hk : ∀ k, L.foot k → w'.heap[k]? = w.heap[k]?) : CellsAt ρ' w' L own c := by
  obtain ⟨h0, h1, h2, h3, h4⟩ := h
  have keepc : ∀ o, 0 < c.len → w'.cell? ⟨L.blk, o, none⟩ = w.cell? ⟨L.blk, o, none⟩ := fun o hl => by simp [World.cell?, hk L.blk (h1 hl)]
  refine ⟨h0, h1, fun k hf => Nat.lt_of_lt_of_le (h2 k hf) hs, ?_, fun ho => ?_⟩
  · intro j x hx
    obtain ⟨v, hv, hr⟩ := h3 j x hx
    exact ⟨v, by rw [keepc _ (At.pos hx)]; exact hv, hr.goes g⟩
  · obtain ⟨g1, g2, cs, e, fr, g3, g4⟩ := h4 ho
    exact ⟨g1, g2, cs, e, fr, by rw [hk L.blk ((g1 _).2 rfl)]; exact g3, g4⟩

theorem SmallAt.keep {ρ : Map} {w w' : World} {V : List (Bool × Cont)} (h : SmallAt ρ w V) (hs : w.heap.size ≤ w'.heap.size) (hk : ∀ (i : Nat) (G : Nat → Loc) (k : Nat), ρ[i]? = some G → (G 0).foot k → w'.heap[k]? = w.heap[k]?) : SmallAt ρ w' V :=
  ⟨h.len, fun i own c F hc hF => (h.at_ i own c F hc hF).keep (Goes.refl ρ) hs fun k hf => hk i F k hF hf, h.apart⟩

theorem AbAt.keep {w w' : World} {F : Nat → Loc} {d : Ab} (h : AbAt w F d) (hs : w.heap.size ≤ w'.heap.size) (hk : ∀ k, (F 0).foot k → w'.heap[k]? = w.heap[k]?) : AbAt w' F d := by
  obtain ⟨V, ρ, F', h1, h2, h3, h4, h5, h6⟩ := h
  exact ⟨V, ρ, F', h1, h2, h3.keep hs fun i G k hG hf => hk k ((h6 k).2 ⟨i, G, hG, hf⟩), h4, h5, h6⟩

theorem ObAt.keep {ρ ρ' : Map} {w w' : World} {F : Nat → Loc} {o : Ob} (h : ObAt ρ w F o) (hf : FootOk (F 0) o) (g : Goes ρ ρ') (hs : w.heap.size ≤ w'.heap.size) (hk : ∀ k, (F 0).foot k → w'.heap[k]? = w.heap[k]?) : ObAt ρ' w' F o := by
  cases o with
  | map es =>
    obtain ⟨arr, clock, h1, h2, h3⟩ := h
    exact ⟨arr, clock, (hk _ ((hf _).2 rfl)).trans h1, h2.mono fun _ _ => RE.goes g, h3⟩
  | iter s pos => exact (hk _ ((hf _).2 rfl)).trans h
  | loop st pend => exact (hk _ ((hf _).2 rfl)).trans h
  | ab d => exact AbAt.keep h hs hk

/-- What stays where it is stays what it is. -/
theorem BlkAt.keep {ρ ρ' : Map} {w w' : World} {F : Nat → Loc} {idx : Nat} {b : Blk D} (h : BlkAt ρ w F idx b) (g : Goes ρ ρ') (hs : w.heap.size ≤ w'.heap.size)
    (hk : b.live idx → ∀ k, (F idx).foot k → w'.heap[k]? = w.heap[k]?) : BlkAt ρ' w' F idx b := by
  cases b with
  | obj o =>
    intro hi
    have hi0 : idx = 0 := hi
    subst hi0
    obtain ⟨h1, h2, h3⟩ := h hi
    exact ⟨h1, fun k hf => Nat.lt_of_lt_of_le (h2 k hf) hs, h3.keep h1 g hs (hk hi)⟩
  | cells own num c =>
    intro hi
    exact (h hi).keep g hs (hk hi)
/-- A draw turns nothing. -/
theorem Rel.drew {ρ : Map} {H : Heap D} {w : World} (h : Rel ρ H w) : Rel ρ H w.drew := by
  refine ⟨h.len, ?_, h.apart⟩
  intro id b F idx hb hF
  have := h.at_ id b F idx hb hF
  cases b with
  | cells own num c => exact this
  | obj o =>
    intro hi
    obtain ⟨h1, h2, h3⟩ := this hi
    exact ⟨h1, h2, h3.keep h1 (Goes.refl ρ) (Nat.le_refl _) fun _ _ => rfl⟩
theorem Ext.drew (w : World) (T : Nat → Prop) : Ext w w.drew T := ⟨rfl, rfl, rfl, Nat.le_refl _, fun _ _ _ => rfl⟩
theorem Step.drew {ρ : Map} {H : Heap D} {w : World} (h : Rel ρ H w) (low : Nat) : Step ρ H w low ρ H w.drew :=
  Step.make h (GoesE.refl ρ) h.drew (Ext.drew w _) (fun _ o => (ownR.none o).elim) (fun id b' _ h => ⟨b', h, rfl, fun _ h => h⟩) (fun id b' hge hb => by have := (List.getElem?_eq_some_iff.1 hb).1; omega)

end
end Go.Proofs.Ytnoonoghemgbbaa.Sx

/-
  A symbolic evaluator over the model's code: part 2: what may happen to a heap: a new block, a block written anew, a block let go, a block taken over.
-/
set_option linter.unusedVariables false
set_option linter.unusedSimpArgs false
namespace Go.Proofs.Ytnoonoghemgbbaa.Sx
open Go

section
variable {D : Type}

theorem get_app_old {α : Type} {l m : List α} {i : Nat} {a : α} (h : l[i]? = some a) : (l ++ m)[i]? = some a := by
  rw [List.getElem?_append_left (List.getElem?_eq_some_iff.1 h).1]; exact h

theorem get_app_cases {α : Type} {l : List α} {y : α} {i : Nat} {a : α} (h : (l ++ [y])[i]? = some a) : (l[i]? = some a ∧ i < l.length) ∨ (i = l.length ∧ a = y) := by
  rcases Nat.lt_trichotomy i l.length with hlt | he | hgt
  · rw [List.getElem?_append_left hlt] at h; exact .inl ⟨h, hlt⟩
  · subst he; rw [List.getElem?_append_right (Nat.le_refl _)] at h; simp at h; exact .inr ⟨rfl, h.symm⟩
  · rw [List.getElem?_append_right (by omega)] at h
    rw [List.getElem?_eq_none (by simp; omega)] at h; cases h

theorem Cont.At.lt {c : Cont} {j : Nat} {x : Cell} (h : c.At j x) : j < c.len := by
  cases c with
  | raw cs => exact (List.getElem?_eq_some_iff.1 h).1
  | ints k l => obtain ⟨n, hn, _⟩ := h; exact (List.getElem?_eq_some_iff.1 hn).1
  | fam n sz f =>
    obtain ⟨i, s, hi, hs, rfl, _⟩ := h
    show i * sz + s < n * sz
    calc i * sz + s < i * sz + sz := by omega
      _ = (i + 1) * sz := by rw [Nat.succ_mul]
      _ ≤ n * sz := Nat.mul_le_mul_right _ hi

/-- One entry of a heap is written anew; all others stay. -/
theorem Step.put {ρ : Map} {H : Heap D} {w w' : World} (r : Rel ρ H w) {id : Nat} {b b' : Blk D} {F : Nat → Loc} (hb : H[id]? = some (some b)) (hF : ρ[id]? = some F)
    (ho : b.own = true) (ho' : b'.own = true) (hlive : ∀ i, b'.live i ↔ b.live i) (idx : Nat) (hi : b.live idx)
    (os : w'.os = w.os) (tape : w'.tape = w.tape) (output : w'.output = w.output) (size : w.heap.size ≤ w'.heap.size)
    (hsame : ∀ k, k < w.heap.size → ¬ (F idx).foot k → w'.heap[k]? = w.heap[k]?)
    (hat : BlkAt ρ w' F idx b') (hold : ∀ i, i ≠ idx → BlkAt ρ w F i b → BlkAt ρ w F i b') :
    Step ρ H w id ρ (H.set id (some b')) w' := by
  have hid : id < H.length := (List.getElem?_eq_some_iff.1 hb).1
  have hget : ∀ i x, (H.set id (some b'))[i]? = some (some x) → (i = id ∧ x = b') ∨ (i ≠ id ∧ H[i]? = some (some x)) := by
    intro i x hx
    by_cases e : i = id
    · subst e; rw [List.getElem?_set_self hid] at hx; simp at hx; exact .inl ⟨rfl, hx.symm⟩
    · rw [List.getElem?_set_ne (Ne.symm e)] at hx; exact .inr ⟨e, hx⟩
  refine Step.make r (GoesE.refl ρ) ⟨by simpa using r.len, ?_, ?_⟩ ⟨os, tape, output, size, ?_⟩ ?_ ?_ (fun i x hge hx => by have := (List.getElem?_eq_some_iff.1 hx).1; simp at this; omega)
  · intro i x F' j hx hF'
    rcases hget i x hx with ⟨rfl, rfl⟩ | ⟨hne, hx'⟩
    · rw [hF] at hF'; cases hF'
      by_cases e : j = idx
      · subst e; exact hat
      · have h0 := hold j e (r.at_ _ b F j hb hF)
        refine h0.keep (Goes.refl ρ) size fun hl k hk => hsame k (r.lt hb hF ((hlive j).1 hl) hk) ?_
        exact fun hk' => r.apart i b F idx i b F j hb hF hi ho hb hF ((hlive j).1 hl) (by intro h; cases h; exact e rfl) k hk' hk
    · refine (r.at_ i x F' j hx' hF').keep (Goes.refl ρ) size fun hl k hk => hsame k (r.lt hx' hF' hl hk) ?_
      exact fun hk' => r.apart id b F idx i x F' j hb hF hi ho hx' hF' hl (by intro h; cases h; exact hne rfl) k hk' hk
  · intro i1 x1 F1 j1 i2 x2 F2 j2 h1 f1 l1 o1 h2 f2 l2 hne
    rcases hget i1 x1 h1 with ⟨rfl, rfl⟩ | ⟨n1, g1⟩ <;> rcases hget i2 x2 h2 with ⟨rfl, rfl⟩ | ⟨n2, g2⟩
    · exact r.apart _ b F1 j1 _ b F2 j2 hb f1 ((hlive _).1 l1) ho hb f2 ((hlive _).1 l2) hne
    · exact r.apart _ b F1 j1 _ x2 F2 j2 hb f1 ((hlive _).1 l1) ho g2 f2 l2 hne
    · exact r.apart _ x1 F1 j1 _ b F2 j2 g1 f1 l1 o1 hb f2 ((hlive _).1 l2) hne
    · exact r.apart _ x1 F1 j1 _ x2 F2 j2 g1 f1 l1 o1 g2 f2 l2 hne
  · exact fun k hk hn => hsame k hk fun hk' => hn ⟨id, b, F, idx, Nat.le_refl _, hb, ho, hi, hF, hk'⟩
  · intro k o
    obtain ⟨i, x, F', j, h1, h2, _⟩ := o
    have := (List.getElem?_eq_some_iff.1 h2).1
    simp at this; omega
  · intro i x hi' hx
    rcases hget i x hx with ⟨rfl, rfl⟩ | ⟨_, hx'⟩
    · exact ⟨b, hb, ho'.trans ho.symm, fun j => (hlive j).1⟩
    · exact ⟨x, hx', rfl, fun _ h => h⟩

/-- A new entry at the end. -/
theorem Step.push {ρ : Map} {H : Heap D} {w w' : World} (r : Rel ρ H w) (b : Blk D) (F : Nat → Loc) (ho : b.own = true)
    (os : w'.os = w.os) (tape : w'.tape = w.tape) (output : w'.output = w.output) (size : w.heap.size ≤ w'.heap.size)
    (hsame : ∀ k, k < w.heap.size → w'.heap[k]? = w.heap[k]?)
    (hat : ∀ i, BlkAt (ρ ++ [F]) w' F i b) (hnew : ∀ i k, b.live i → (F i).foot k → w.heap.size ≤ k)
    (hap : ∀ i j k, b.live i → b.live j → i ≠ j → (F i).foot k → ¬ (F j).foot k) :
    Step ρ H w H.length (ρ ++ [F]) (H ++ [some b]) w' := by
  have g := Goes.app ρ [F]
  have hmap : ∀ i F', (ρ ++ [F])[i]? = some F' → (ρ[i]? = some F' ∧ i < H.length) ∨ (i = H.length ∧ F' = F) := by
    intro i F' h; rcases get_app_cases h with ⟨h1, h2⟩ | ⟨h1, h2⟩
    · exact .inl ⟨h1, by rw [← r.len]; exact h2⟩
    · exact .inr ⟨by rw [← r.len]; exact h1, h2⟩
  have hheap : ∀ i x, (H ++ [some b])[i]? = some (some x) → (H[i]? = some (some x) ∧ i < H.length) ∨ (i = H.length ∧ x = b) := by
    intro i x h; rcases get_app_cases h with h1 | ⟨h1, h2⟩
    · exact .inl h1
    · exact .inr ⟨h1, by simpa using h2⟩
  refine Step.make r (GoesE.app ρ [F]) ⟨by simp [r.len], ?_, ?_⟩ ⟨os, tape, output, size, fun k hk _ => hsame k hk⟩ ?_ ?_ (fun i x hge hx => by rcases hheap i x hx with ⟨_, h⟩ | ⟨_, rfl⟩ <;> first | omega | exact ho)
  · intro i x F' j hx hF'
    rcases hheap i x hx with ⟨h1, h2⟩ | ⟨rfl, rfl⟩ <;> rcases hmap _ F' hF' with ⟨f1, f2⟩ | ⟨f1, rfl⟩
    · exact (r.at_ i x F' j h1 f1).keep g size fun hl k hk => hsame k (r.lt h1 f1 hl hk)
    · omega
    · omega
    · exact hat j
  · intro i1 x1 F1 j1 i2 x2 F2 j2 h1 f1 l1 o1 h2 f2 l2 hne k k1 k2
    rcases hheap i1 x1 h1 with ⟨a1, b1⟩ | ⟨rfl, rfl⟩ <;> rcases hmap _ F1 f1 with ⟨c1, d1⟩ | ⟨c1, rfl⟩ <;> try omega
    all_goals rcases hheap i2 x2 h2 with ⟨a2, b2⟩ | ⟨rfl, rfl⟩ <;> rcases hmap _ F2 f2 with ⟨c2, d2⟩ | ⟨c2, rfl⟩ <;> try omega
    · exact r.apart _ x1 F1 j1 _ x2 F2 j2 a1 c1 l1 o1 a2 c2 l2 hne k k1 k2
    · have := r.lt a1 c1 l1 k1; have := hnew j2 k l2 k2; omega
    · have := r.lt a2 c2 l2 k2; have := hnew j1 k l1 k1; omega
    · exact hap j1 j2 k l1 l2 (fun e => hne (by rw [e])) k1 k2
  · intro k o
    obtain ⟨i, x, F', j, h1, h2, h3, h4, h5, h6⟩ := o
    rcases hheap i x h2 with ⟨a1, b1⟩ | ⟨rfl, rfl⟩
    · omega
    · rcases hmap _ F' h5 with ⟨c1, d1⟩ | ⟨c1, rfl⟩
      · omega
      · exact .inl (hnew j k h4 h6)
  · intro i x hi hx
    rcases hheap i x hx with ⟨a1, b1⟩ | ⟨rfl, rfl⟩
    · exact ⟨x, a1, rfl, fun _ h => h⟩
    · omega

/-- An entry is let go. -/
theorem Step.kill {ρ : Map} {H : Heap D} {w : World} (r : Rel ρ H w) (id : Nat) (low : Nat) : Step ρ H w low ρ (H.set id none) w := by
  have hget : ∀ (i : Nat) (x : Blk D), (H.set id none)[i]? = some (some x) → H[i]? = some (some x) := by
    intro i x hx
    by_cases e : i = id
    · subst e
      by_cases hl : i < H.length
      · rw [List.getElem?_set_self hl] at hx; simp at hx
      · rw [List.getElem?_eq_none (by simpa using hl)] at hx; cases hx
    · rwa [List.getElem?_set_ne (Ne.symm e)] at hx
  refine Step.make r (GoesE.refl ρ) ⟨by simpa using r.len, fun i x F j hx => r.at_ i x F j (hget i x hx), fun i1 x1 F1 j1 i2 x2 F2 j2 h1 f1 l1 o1 h2 => r.apart i1 x1 F1 j1 i2 x2 F2 j2 (hget _ _ h1) f1 l1 o1 (hget _ _ h2)⟩ (Ext.refl w _) ?_ (fun i x _ hx => ⟨x, hget i x hx, rfl, fun _ h => h⟩) (fun i x hge hx => by have := (List.getElem?_eq_some_iff.1 hx).1; simp at this; omega)
  intro k o
  obtain ⟨i, x, F', j, h1, h2, _⟩ := o
  have := (List.getElem?_eq_some_iff.1 h2).1
  simp at this; omega

/-- A new block of cells. -/
theorem Step.alloc {ρ : Map} {H : Heap D} {w : World} (r : Rel ρ H w) (cs : Array Value) (e : TypeId) (c : Cont) (hw : c.wf) (hl : c.len ≤ cs.size)
    (hc : ∀ j x, c.At j x → ∃ v, cs[j]? = some v ∧ RC ρ x v) :
    Step ρ H w H.length (ρ ++ [fun _ => ⟨w.heap.size, 0, cs.size, fun k => k = w.heap.size, default⟩]) (H ++ [some (.cells true 1 fun _ => c)]) (w.alloc (.cells cs e)) := by
  refine Step.push r _ _ rfl rfl rfl rfl (by simp) (fun k hk => heap_alloc_old w _ k hk) ?_ ?_ ?_
  · intro i hi
    refine ⟨hw, fun _ => rfl, fun k hk => ?_, ?_, fun _ => ⟨fun k => Iff.rfl, by simpa using hl, cs, e, (0, 0), heap_alloc_new w _, Nat.le_refl _, fun o _ h => by simp at h⟩⟩
    · have : k = w.heap.size := hk
      simp; omega
    · intro j x hx
      obtain ⟨v, hv, hr⟩ := hc j x hx
      refine ⟨v, ?_, hr.goes (Goes.app ρ _)⟩
      simpa using hv
  · intro i k _ hk
    exact Nat.le_of_eq hk.symm
  · intro i j k hi hj hne
    have h1 : i < 1 := hi
    have h2 : j < 1 := hj
    omega

def upd (num : Nat) (c : Nat → Cont) (idx : Nat) (x : Cont) : Nat → Cont :=
  match Nat.beq num 1 with
  | true => fun _ => x
  | false => fun i => if i = idx then x else c i

theorem upd_at {num : Nat} {c : Nat → Cont} {idx : Nat} {x : Cont} : upd num c idx x idx = x := by
  cases hb : Nat.beq num 1 <;> simp [upd, hb]

theorem upd_not {num : Nat} {c : Nat → Cont} {idx : Nat} {x : Cont} {i : Nat} (hi : idx < num) (h : i < num) (hne : i ≠ idx) : upd num c idx x i = c i := by
  cases hb : Nat.beq num 1 with
  | true =>
    have := Nat.eq_of_beq_eq_true hb
    omega
  | false => simp [upd, hb, hne]

/-- The cells of a block of ours are written anew. -/
theorem Step.setRow {ρ : Map} {H : Heap D} {w : World} (r : Rel ρ H w) {id num : Nat} {c : Nat → Cont} {F : Nat → Loc} {idx : Nat} (hb : H[id]? = some (some (.cells true num c))) (hF : ρ[id]? = some F)
    (hi : idx < num) {cs : Array Value} {e : TypeId} {fr : Nat × Nat} (hcs : w.heap[(F idx).blk]? = some (.cells cs e fr)) (cs' : Array Value) (hsz : cs'.size = cs.size) (c' : Cont) (hw : c'.wf)
    (hfin : (F idx).sh + c'.len ≤ (F idx).fin) (hc : ∀ j x, c'.At j x → ∃ v, cs'[(F idx).sh + j]? = some v ∧ RC ρ x v) :
    Step ρ H w id ρ (H.set id (some (.cells true num (upd num c idx c')))) (w.setRow (F idx).blk cs') := by
  have h0 := r.at_ id _ F idx hb hF hi
  obtain ⟨g1, g2, cs0, e0, fr0, g3, g4, g5⟩ := h0.2.2.2.2 rfl
  rw [hcs] at g3
  cases g3
  have hnew := setRow_heap w (F idx).blk cs cs' e fr hcs
  refine Step.put r hb hF rfl rfl (fun _ => Iff.rfl) idx hi rfl rfl rfl (by simp) ?_ ?_ ?_
  · intro k hk hn
    have hne : k ≠ (F idx).blk := fun e => hn ((g1 k).2 e)
    simp only [World.setRow, Array.getElem?_modify]
    rw [if_neg (Ne.symm hne)]
  · intro _
    have hu : upd num c idx c' idx = c' := upd_at
    rw [hu]
    refine ⟨hw, fun _ => (g1 _).2 rfl, fun k hk => ?_, ?_, fun _ => ⟨g1, hfin, cs', e, fr, hnew, by rw [hsz]; exact g4, by rw [hsz]; exact g5⟩⟩
    · have := h0.2.2.1 k hk
      simpa using this
    · intro j x hx
      obtain ⟨v, hv, hr⟩ := hc j x hx
      exact ⟨v, by simpa [World.cell?, hnew] using hv, hr⟩
  · intro i hne h hi'
    have hu : upd num c idx c' i = c i := upd_not hi hi' hne
    rw [hu]; exact h hi'

/-- A block of ours is taken over by a new entry, its cells written anew. -/
theorem Step.takeOver {ρ : Map} {H : Heap D} {w : World} (r : Rel ρ H w) {id : Nat} {c : Nat → Cont} {F : Nat → Loc} (hb : H[id]? = some (some (.cells true 1 c))) (hF : ρ[id]? = some F)
    {cs : Array Value} {e : TypeId} {fr : Nat × Nat} (hcs : w.heap[(F 0).blk]? = some (.cells cs e fr)) (cs' : Array Value) (hsz : cs'.size = cs.size) (sh : Nat) (c' : Cont) (hw : c'.wf)
    (hfin : sh + c'.len ≤ (F 0).fin) (hc : ∀ j x, c'.At j x → ∃ v, cs'[sh + j]? = some v ∧ RC ρ x v) :
    Step ρ H w id (ρ ++ [fun _ => ⟨(F 0).blk, sh, (F 0).fin, fun k => k = (F 0).blk, default⟩]) (H.set id none ++ [some (.cells true 1 fun _ => c')]) (w.setRow (F 0).blk cs') := by
  have hi0 : (0 : Nat) < 1 := by omega
  have h0 := r.at_ id _ F 0 hb hF hi0
  obtain ⟨g1, g2, cs0, e0, fr0, g3, g4, g5⟩ := h0.2.2.2.2 rfl
  rw [hcs] at g3
  cases g3
  have hnew := setRow_heap w (F 0).blk cs cs' e fr hcs
  have hid : id < H.length := (List.getElem?_eq_some_iff.1 hb).1
  let L : Nat → Loc := fun _ => ⟨(F 0).blk, sh, (F 0).fin, fun k => k = (F 0).blk, default⟩
  have hblk : (F 0).blk < w.heap.size := h0.2.2.1 _ ((g1 _).2 rfl)
  have g := Goes.app ρ [L]
  have hkeep : ∀ k, k ≠ (F 0).blk → (w.setRow (F 0).blk cs').heap[k]? = w.heap[k]? := by
    intro k hne
    simp only [World.setRow, Array.getElem?_modify]
    rw [if_neg (Ne.symm hne)]
  have hold : ∀ (i : Nat) (x : Blk D), (H.set id none)[i]? = some (some x) → H[i]? = some (some x) ∧ i ≠ id := by
    intro i x hx
    by_cases e : i = id
    · subst e; rw [List.getElem?_set_self hid] at hx; simp at hx
    · rw [List.getElem?_set_ne (Ne.symm e)] at hx; exact ⟨hx, e⟩
  have hmap : ∀ i F', (ρ ++ [L])[i]? = some F' → (ρ[i]? = some F' ∧ i < H.length) ∨ (i = H.length ∧ F' = L) := by
    intro i F' h; rcases get_app_cases h with ⟨h1, h2⟩ | ⟨h1, h2⟩
    · exact .inl ⟨h1, by rw [← r.len]; exact h2⟩
    · exact .inr ⟨by rw [← r.len]; exact h1, h2⟩
  have hheap : ∀ (i : Nat) (x : Blk D), (H.set id none ++ [some (.cells true 1 fun _ => c')])[i]? = some (some x) → (H[i]? = some (some x) ∧ i ≠ id ∧ i < H.length) ∨ (i = H.length ∧ x = .cells true 1 fun _ => c') := by
    intro i x h; rcases get_app_cases h with ⟨h1, h2⟩ | ⟨h1, h2⟩
    · exact .inl ⟨(hold i x h1).1, (hold i x h1).2, by simpa using h2⟩
    · exact .inr ⟨by simpa using h1, by simpa using h2⟩
  have hown : ownR ρ H id (F 0).blk := ⟨id, _, F, 0, Nat.le_refl _, hb, rfl, hi0, hF, (g1 _).2 rfl⟩
  have hfar : ∀ (i : Nat) (x : Blk D) (F' : Nat → Loc) (j : Nat), H[i]? = some (some x) → i ≠ id → ρ[i]? = some F' → x.live j → ∀ k, (F' j).foot k → k ≠ (F 0).blk := by
    intro i x F' j hx hne hF' hl k hk e
    subst e
    exact r.apart id _ F 0 i x F' j hb hF hi0 rfl hx hF' hl (by intro h; cases h; exact hne rfl) _ ((g1 _).2 rfl) hk
  refine Step.make r (GoesE.app ρ [L]) ⟨by simp [r.len], ?_, ?_⟩ ⟨rfl, rfl, rfl, by simp, fun k hk hn => hkeep k fun e => hn (by rw [e]; exact hown)⟩ ?_ ?_ (fun i x hge hx => by rcases hheap i x hx with ⟨_, _, h⟩ | ⟨_, rfl⟩ <;> first | omega | rfl)
  · intro i x F' j hx hF'
    rcases hheap i x hx with ⟨h1, h2, h3⟩ | ⟨rfl, rfl⟩ <;> rcases hmap _ F' hF' with ⟨f1, f2⟩ | ⟨f1, rfl⟩ <;> try omega
    · exact (r.at_ i x F' j h1 f1).keep g (by simp) fun hl k hk => hkeep k (hfar i x F' j h1 h2 f1 hl k hk)
    · intro hj
      refine ⟨hw, fun _ => rfl, fun k hk => ?_, ?_, fun _ => ⟨fun k => Iff.rfl, hfin, cs', e, fr, hnew, by rw [hsz]; exact g4, by rw [hsz]; exact g5⟩⟩
      · have : k = (F 0).blk := hk
        subst this; simpa using hblk
      · intro j x hx
        obtain ⟨v, hv, hr⟩ := hc j x hx
        exact ⟨v, by simpa [World.cell?, hnew, L] using hv, hr.goes g⟩
  · intro i1 x1 F1 j1 i2 x2 F2 j2 h1 f1 l1 o1 h2 f2 l2 hne k k1 k2
    rcases hheap i1 x1 h1 with ⟨a1, b1, c1⟩ | ⟨rfl, rfl⟩ <;> rcases hmap _ F1 f1 with ⟨d1, _⟩ | ⟨d1, rfl⟩ <;> try omega
    all_goals rcases hheap i2 x2 h2 with ⟨a2, b2, c2⟩ | ⟨rfl, rfl⟩ <;> rcases hmap _ F2 f2 with ⟨d2, _⟩ | ⟨d2, rfl⟩ <;> try omega
    · exact r.apart _ x1 F1 j1 _ x2 F2 j2 a1 d1 l1 o1 a2 d2 l2 hne k k1 k2
    · exact hfar i1 x1 F1 j1 a1 b1 d1 l1 k k1 k2
    · exact hfar i2 x2 F2 j2 a2 b2 d2 l2 k k2 k1
    · have e1 : j1 < 1 := l1
      have e2 : j2 < 1 := l2
      exact hne (by rw [show j1 = j2 by omega])
  · intro k o
    obtain ⟨i, x, F', j, h1, h2, h3, h4, h5, h6⟩ := o
    rcases hheap i x h2 with ⟨a1, b1, c1⟩ | ⟨rfl, rfl⟩
    · omega
    · rcases hmap _ F' h5 with ⟨c1, d1⟩ | ⟨c1, rfl⟩
      · omega
      · have : k = (F 0).blk := h6
        subst this
        exact .inr hown
  · intro i x hi hx
    rcases hheap i x hx with ⟨a1, b1, c1⟩ | ⟨rfl, rfl⟩
    · exact ⟨x, a1, rfl, fun _ h => h⟩
    · omega
end
end Go.Proofs.Ytnoonoghemgbbaa.Sx

/-
  A symbolic evaluator over the model's code: part 3: what one operation does to abstract values and heaps.
  Every test and every bound is a condition that is handed out; what is chosen at a test is told by a list of decisions.
-/
set_option linter.unusedVariables false
set_option linter.unusedSimpArgs false
namespace Go.Proofs.Ytnoonoghemgbbaa.Sx
open Go
noncomputable section

abbrev Dec := List Nat

/-- The i-th one of a list; the same list with another one in its place: told by the recursor itself, which the kernel is quick at. -/
def nth {α : Type} (l : List α) : Nat → Option α := List.rec (motive := fun _ => Nat → Option α) (fun _ => none) (fun a _ ih n => Nat.rec (motive := fun _ => Option α) (some a) (fun m _ => ih m) n) l
def setL {α : Type} (l : List α) (i : Nat) (x : α) : List α := List.rec (motive := fun _ => Nat → List α) (fun _ => []) (fun a l ih n => Nat.rec (motive := fun _ => List α) (x :: l) (fun m _ => a :: ih m) n) l i

theorem nth_eq {α : Type} : ∀ (l : List α) (i : Nat), nth l i = l[i]?
  | [], _ => rfl
  | _ :: _, 0 => rfl
  | _ :: l, i + 1 => (nth_eq l i).trans rfl

theorem setL_eq {α : Type} : ∀ (l : List α) (i : Nat) (x : α), setL l i x = l.set i x
  | [], _, _ => rfl
  | _ :: _, 0, _ => rfl
  | a :: l, i + 1, x => by
    show a :: setL l i x = a :: l.set i x
    rw [setL_eq l i x]

/-- What a program says of its types. -/
def inf (P : Program) (t : TypeId) : Option TypeInfo :=
  match nth P.types.toList t with
  | some i => some i
  | none => P.info? t
theorem inf_eq (P : Program) (t : TypeId) : inf P t = P.info? t := by
  unfold inf
  split
  · rename_i i h
    rw [nth_eq, Array.getElem?_toList] at h
    obtain ⟨hlt, _⟩ := Array.getElem?_eq_some_iff.1 h
    show some i = Tables.info? _ t
    unfold Tables.info?
    rw [if_pos hlt, h]
  · rfl

def und (P : Program) (t : TypeId) : Option TypeDesc :=
  match inf P t with
  | some i => match i.desc with
    | .named _ u => match inf P u with
      | some j => some j.desc
      | none => none
    | d => some d
  | none => none

theorem und_eq (P : Program) (t : TypeId) : und P t = P.underlying t := by
  unfold und Program.underlying
  simp only [inf_eq]
  cases h : P.info? t with
  | none => rfl
  | some i =>
    obtain ⟨desc, _⟩ := i
    cases desc <;> first
      | rfl
      | (rename_i u; simp only; cases P.info? u <;> rfl)

/-- A condition, and an equation that is enough for it. -/
structure Cd where
  p : Prop
  X : Type
  l : X
  r : X
  h : l = r → p
instance : CoeSort Cd Prop := ⟨Cd.p⟩
abbrev cd (p : Prop) [Decidable p] : Cd := ⟨p, Bool, decide p, true, of_decide_eq_true⟩
abbrev cand (x y : Cd) : Cd := ⟨x.p ∧ y.p, x.X × y.X, (x.l, y.l), (x.r, y.r), fun h => ⟨x.h (congrArg Prod.fst h), y.h (congrArg Prod.snd h)⟩⟩
abbrev cq {α : Type} (a b : α) : Cd := ⟨a = b, α, a, b, id⟩

def ofV1 : Value → Option Cell
  | .bool b => some (.bool b)
  | .int k n => some (.int k n)
  | .string s => some (.str s.data.toList)
  | .pointer none => some (.ptr true NIL 0 0)
  | .slice none 0 0 => some (.slice true NIL 0 0 0 none 1)
  | .map none => some (.map true NIL 0)
  | .nilFunc => some .nilFunc
  | _ => none

def ofVs : List Value → Option (List Cell)
  | [] => some []
  | v :: l => match ofV1 v, ofVs l with
    | some c, some cs => some (c :: cs)
    | _, _ => none

def ofV : Value → Option AV
  | .agg cs => match ofVs cs.toList with
    | some l => some (.agg l)
    | none => none
  | .tuple vs => match vs.toList with
    | [] => some (.tup [])
    | _ => none
  | v => match ofV1 v with
    | some c => some (.cell c)
    | none => none

def opnd (t : List AV) : Operand → Option AV
  | .tmp i => nth t i
  | .const v => ofV v
  | .func f => some (.cell (.func f []))
  | .global _ => none

def cellOf (t : List AV) (x : Operand) : Option Cell :=
  match opnd t x with
  | some (.cell c) => some c
  | _ => none

def cellsOf (t : List AV) (x : Operand) : Option (List Cell) :=
  match opnd t x with
  | some (.cell c) => some [c]
  | some (.agg cs) => some cs
  | _ => none

def undefA : AV := .tup []

def isAggA (P : Program) (t : TypeId) : Option Bool :=
  match und P t with
  | some (.struct _) => some true
  | some (.array _ _) => some true
  | some _ => some false
  | none => none

def sizeA (P : Program) (t : TypeId) : Option Nat :=
  match inf P t with
  | some i => some i.size
  | none => none

def zeroA (P : Program) (t : TypeId) : Option (List Cell) :=
  match inf P t with
  | some i => match i.zero with
    | some v => ofVs v.cells.toList
    | none => none
  | none => none

/-! ### Cells of a block -/
def Cont.get (c : Cont) (off : Nat) (dec : Dec) : Option (Cd × Cell × Dec) :=
  match c with
  | .raw cs => match nth cs off with
    | some x => some (cd True, x, dec)
    | none => none
  | .ints k l => some (cd (off < l.length), .int k (l.getD off 0), dec)
  | .fam n sz f => match dec with
    | s :: d => match nth (f (off / sz)) s with
      | some x => some (cd (off / sz < n ∧ off % sz = s ∧ s < sz), x, d)
      | none => none
    | [] => none

def Cont.getNs (c : Cont) : Nat → Nat → Dec → Option (Cd × List Cell × Dec)
  | _, 0, dec => some (cd True, [], dec)
  | off, n + 1, dec => match c.get off dec with
    | some (p, x, d) => match c.getNs (off + 1) n d with
      | some (q, xs, d') => some (cand p q, x :: xs, d')
      | none => none
    | none => none

def takeN : Nat → List Cell → Option (List Cell)
  | 0, _ => some []
  | n + 1, x :: l => match takeN n l with
    | some m => some (x :: m)
    | none => none
  | _ + 1, [] => none

def Cont.getN (c : Cont) (off n : Nat) (dec : Dec) : Option (Cd × List Cell × Dec) :=
  match c with
  | .raw cs => match takeN n (cs.drop off) with
    | some xs => some (cd True, xs, dec)
    | none => none
  | .ints k l => (Cont.ints k l).getNs off n dec
  | .fam a b f => (Cont.fam a b f).getNs off n dec

def contAt {D : Type} (H : Heap D) (id idx : Nat) : Option (Bool × Cd × Cont) :=
  match nth H id with
  | some (some (.cells own num c)) => some (own, cd (idx < num), c idx)
  | _ => none

def mkV (agg : Bool) (cs : List Cell) : Option AV :=
  match agg, cs with
  | true, cs => some (.agg cs)
  | false, [c] => some (.cell c)
  | false, _ => none

/-! ### Numbers, texts, and what is asked of them -/
def intBin (op : BinOp) (k : IntKind) (x y : Int) : Option (Cd × Cell) :=
  match op with
  | .add => some (cd True, .int k (k.wrap (x + y)))
  | .sub => some (cd True, .int k (k.wrap (x - y)))
  | .mul => some (cd True, .int k (k.wrap (x * y)))
  | .quo => some (cd (y ≠ 0), .int k (k.wrap (x.tdiv y)))
  | .rem => some (cd (y ≠ 0), .int k (x.tmod y))
  | .and => some (cd True, .int k (k.wrap (BitVec.ofInt k.bits x &&& BitVec.ofInt k.bits y).toNat))
  | .or => some (cd True, .int k (k.wrap (BitVec.ofInt k.bits x ||| BitVec.ofInt k.bits y).toNat))
  | .xor => some (cd True, .int k (k.wrap (BitVec.ofInt k.bits x ^^^ BitVec.ofInt k.bits y).toNat))
  | .andNot => some (cd True, .int k (k.wrap (BitVec.ofInt k.bits x &&& ~~~(BitVec.ofInt k.bits y)).toNat))
  | .eql => some (cd True, .bool (x == y))
  | .neq => some (cd True, .bool (x != y))
  | .lss => some (cd True, .bool (x < y))
  | .leq => some (cd True, .bool (x ≤ y))
  | .gtr => some (cd True, .bool (x > y))
  | .geq => some (cd True, .bool (x ≥ y))
  | _ => none

def shiftBin (op : BinOp) (k : IntKind) (x y : Int) : Option (Cd × Cell) :=
  match op with
  | .shl => some (cd (0 ≤ y), .int k (k.wrap (x * 2 ^ (min y.toNat k.bits))))
  | .shr => some (cd (0 ≤ y), .int k (x.fdiv (2 ^ (min y.toNat k.bits))))
  | _ => none

def strBin (op : BinOp) (x y : List UInt8) : Option (Cd × Cell) :=
  match op with
  | .add => some (cd (((x.length + y.length : Nat) : Int) ≤ 9223372036854775807), .str (x ++ y))
  | .eql => some (cd True, .bool (x == y))
  | .neq => some (cd True, .bool !(x == y))
  | _ => none

def eqlNil (op : BinOp) (b : Bool) : Option (Cd × Cell) :=
  match op with
  | .eql => some (cd True, .bool b)
  | .neq => some (cd True, .bool !b)
  | _ => none

def kindEq (a b : IntKind) : Bool :=
  match a, b with
  | .i8, .i8 | .i16, .i16 | .i32, .i32 | .i64, .i64 | .u8, .u8 | .u16, .u16 | .u32, .u32 | .u64, .u64 => true
  | _, _ => false

def isShift : BinOp → Bool
  | .shl | .shr => true
  | _ => false

def binA (P : Program) (op : BinOp) (ty : TypeId) (a b : Cell) : Option (Cd × Cell) :=
  match a, b with
  | .int k x, .int k' y => match isShift op with
    | true => shiftBin op k x y
    | false => match kindEq k k' with
      | true => intBin op k x y
      | false => none
  | .str x, .str y => strBin op x y
  | .bool x, .bool y => match und P ty with
    | some .bool => match op with
      | .eql => some (cd True, .bool (x == y))
      | .neq => some (cd True, .bool !(x == y))
      | _ => none
    | _ => none
  | .slice nl _ _ _ _ _ _, .slice true _ _ _ _ _ _ => match und P ty with
    | some (.slice _) => eqlNil op nl
    | _ => none
  | .ptr nl _ _ _, .ptr true _ _ _ => match und P ty with
    | some (.pointer _) => eqlNil op nl
    | _ => none
  | .func _ _, .nilFunc => match und P ty with
    | some (.func _ _ _) => eqlNil op false
    | _ => none
  | .nilFunc, .nilFunc => match und P ty with
    | some (.func _ _ _) => eqlNil op true
    | _ => none
  | _, _ => none

def unA (op : UnOp) (a : Cell) : Option Cell :=
  match op, a with
  | .neg, .int k n => some (.int k (k.wrap (0 - n)))
  | .xor, .int k n => some (.int k (k.wrap (BitVec.ofInt k.bits (if k.signed then -1 else k.max) ^^^ BitVec.ofInt k.bits n).toNat))
  | .not, .bool b => some (.bool !b)
  | _, _ => none

def convA (P : Program) (s d : TypeId) (a : Cell) : Option Cell :=
  match und P s, und P d, a with
  | some _, some (.int k), .int _ n => some (.int k (k.wrap n))
  | some _, some .string, .str l => some (.str l)
  | _, _, _ => none

def AV1.av : AV1 → AV
  | .cell c => .cell c
  | .agg cs => .agg cs

def partA (P : Program) (t : TypeId) (cs : List Cell) (off : Nat) : Option AV :=
  match isAggA P t, sizeA P t with
  | some true, some n => some (.agg ((cs.drop off).take n))
  | some false, some _ => match nth cs off with
    | some c => some (.cell c)
    | none => none
  | _, _ => none

/-- A column of a table: every 'sz'-th cell. -/
def column (sz : Nat) : Nat → List Cell → List Cell
  | 0, _ => []
  | n + 1, cs => match cs with
    | [] => []
    | c :: _ => c :: column sz n (cs.drop sz)

def colInts (k : IntKind) : List Cell → Option (List Int)
  | [] => some []
  | .int k' n :: l => match kindEq k k', colInts k l with
    | true, some ns => some (n :: ns)
    | _, _ => none
  | _ => none
def colBools : List Cell → Option (List Bool)
  | [] => some []
  | .bool b :: l => match colBools l with
    | some ns => some (b :: ns)
    | _ => none
  | _ => none
def colStrs : List Cell → Option (List (List UInt8))
  | [] => some []
  | .str b :: l => match colStrs l with
    | some ns => some (b :: ns)
    | _ => none
  | _ => none

/-- The cell of a column at a place that is not known. -/
def colAt (col : List Cell) (i : Nat) : Option Cell :=
  match col with
  | .int k _ :: _ => match colInts k col with
    | some l => some (.int k (l.getD i 0))
    | none => none
  | .bool _ :: _ => match colBools col with
    | some l => some (.bool (l.getD i false))
    | none => none
  | .str _ :: _ => match colStrs col with
    | some l => some (.str (l.getD i []))
    | none => none
  | _ => none

def rowAt (sz len : Nat) (cs : List Cell) (i : Nat) : Nat → Nat → Option (List Cell)
  | _, 0 => some []
  | s, m + 1 => match colAt (column sz len (cs.drop s)) i, rowAt sz len cs i (s + 1) m with
    | some c, some l => some (c :: l)
    | _, _ => none

/-- An element of an array that is a value: decision 0: its place is not known (the columns are of one kind each); d + 1: it is d. -/
def indexA (P : Program) (ty : TypeId) (a : AV) (i : Int) (dec : Dec) : Option (Cd × AV × Dec) :=
  match und P ty, a with
  | some .string, .cell (.str l) => some (cd (0 ≤ i ∧ i < l.length), .cell (.int .u8 (l.getD i.toNat 0).toNat), dec)
  | some (.array len elem), .agg cs => match dec, sizeA P elem, isAggA P elem with
    | 0 :: d, some sz, some ag => match rowAt sz len cs i.toNat 0 sz with
      | some row => match mkV ag row with
        | some v => some (cd (0 ≤ i ∧ i < len ∧ cs.length = len * sz ∧ 0 < sz), v, d)
        | none => none
      | none => none
    | (j + 1) :: d, some sz, some _ => match partA P elem cs (j * sz) with
      | some v => some (cd (i = j ∧ j < len), v, d)
      | none => none
    | _, _, _ => none
  | _, _ => none

def natOf (t : List AV) : Option Operand → Nat → Option (Cd × Nat)
  | none, d => some (cd True, d)
  | some x, _ => match cellOf t x with
    | some (.int _ n) => some (cd (0 ≤ n), n.toNat)
    | _ => none

/-- A part of a slice: decision 0: as it stands; 1: an empty one, of which nothing more is known. -/
def sliceA (nl : Bool) (id idx off len : Nat) (cap : Option Nat) (sz size : Nat) (lo hi : Nat) (mx : Option Nat) (mode : Nat) : Option (Cd × Cell) :=
  match mode with
  | 0 => match cap, mx with
    | none, none => some (cd (sz = size ∧ lo ≤ hi ∧ hi ≤ len ∧ (lo = 0 ∨ lo < len)), .slice nl id idx (off + lo * size) (hi - lo) none sz)
    | none, some m => some (cd (sz = size ∧ lo ≤ hi ∧ hi ≤ m ∧ m ≤ len ∧ (lo = 0 ∨ lo < m)), .slice nl id idx (off + lo * size) (hi - lo) (some (m - lo)) sz)
    | some c, none => some (cd (sz = size ∧ lo ≤ hi ∧ hi ≤ c ∧ (nl = true → hi = 0) ∧ (lo = 0 ∨ lo < c)), .slice nl id idx (off + lo * size) (hi - lo) (some (c - lo)) sz)
    | some c, some m => some (cd (sz = size ∧ lo ≤ hi ∧ hi ≤ m ∧ m ≤ c ∧ (nl = true → m = 0) ∧ (lo = 0 ∨ lo < m)), .slice nl id idx (off + lo * size) (hi - lo) (some (m - lo)) sz)
  | _ => some (cd (nl = false ∧ lo = hi ∧ hi ≤ len ∧ mx = none), .empty)

/-- A part of a slice that goes beyond its length, but not beyond what is known of its block. -/
def sliceB {D : Type} (H : Heap D) (nl : Bool) (id idx off sz size lo hi : Nat) : Option (Cd × Cell) :=
  match contAt H id idx with
  | some (true, live, c) => some (cand live (cd (nl = false ∧ sz = size ∧ 0 < size ∧ lo ≤ hi ∧ (lo = 0 ∨ lo < hi) ∧ off + hi * size ≤ c.len)), .slice false id idx (off + lo * size) (hi - lo) none sz)
  | _ => none

def allPtr (t : List AV) : List Operand → Option (List (Nat × Nat × Nat))
  | [] => some []
  | x :: l => match cellOf t x, allPtr t l with
    | some (.ptr false id idx off), some m => some ((id, idx, off) :: m)
    | _, _ => none

/-- Parts of an aggregate, laid over its zero. -/
def fillA (place : Nat → Option (Nat × Nat)) (cells : List Cell) : List (Nat × List Cell) → Option (List Cell)
  | [] => some cells
  | (i, v) :: rest => match place i with
    | none => none
    | some (off, size) => match v.length == size && Nat.ble (off + v.length) cells.length with
      | true => fillA place (cells.take off ++ v ++ cells.drop (off + v.length)) rest
      | false => none

/-- Parts that stand one behind the other. -/
def inRow (place : Nat → Option (Nat × Nat)) : Nat → List (Nat × List Cell) → Option (List Cell × Nat)
  | off, [] => some ([], off)
  | off, (i, v) :: rest => match place i with
    | none => none
    | some (o, size) => match Nat.beq o off && Nat.beq v.length size with
      | true => match inRow place (off + size) rest with
        | some (m, n) => some (v ++ m, n)
        | none => none
      | false => none

def fillQ (place : Nat → Option (Nat × Nat)) (cells : List Cell) (ps : List (Nat × List Cell)) : Option (List Cell) :=
  match inRow place 0 ps with
  | some (m, n) => match Nat.beq n cells.length with
    | true => some m
    | false => fillA place cells ps
  | none => fillA place cells ps

def partsA (t : List AV) : List (Nat × Operand) → Option (List (Nat × List Cell))
  | [] => some []
  | (i, x) :: l => match cellsOf t x, partsA t l with
    | some c, some m => some ((i, c) :: m)
    | _, _ => none

def fieldsA (P : Program) (fs : List Field) (i : Nat) : Option (Nat × Nat) :=
  match nth fs i with
  | some f => match sizeA P f.type with
    | some n => some (f.offset, n)
    | none => none
  | none => none

def sizesOk (P : Program) : List Field → Bool
  | [] => true
  | f :: l => match sizeA P f.type with
    | some _ => sizesOk P l
    | none => false

def buildA (P : Program) (t : List AV) (ty : TypeId) (parts : List (Nat × Operand)) : Option AV :=
  match zeroA P ty, und P ty, partsA t parts with
  | some z, some (.struct fs), some ps => match sizesOk P fs.toList with
    | true => match fillQ (fieldsA P fs.toList) z ps with
      | some cs => some (.agg cs)
      | none => none
    | false => none
  | some z, some (.array _ elem), some ps => match sizeA P elem with
    | some n => match fillQ (fun i => some (i * n, n)) z ps with
      | some cs => some (.agg cs)
      | none => none
    | none => none
  | _, _, _ => none

def lenA (P : Program) (ty : TypeId) (a : AV) : Option Int :=
  match und P ty, a with
  | some .string, .cell (.str l) => some l.length
  | some (.slice _), .cell (.slice _ _ _ _ len _ _) => some len
  | some (.slice _), .cell .empty => some 0
  | some (.array n _), _ => some n
  | _, _ => none

def minA : Cell → Cell → Option Cell
  | .int k x, .int _ y => some (.int k (if y < x then y else x))
  | _, _ => none
def maxA : Cell → Cell → Option Cell
  | .int k x, .int _ y => some (.int k (if y > x then y else x))
  | _, _ => none
def foldA (f : Cell → Cell → Option Cell) : Cell → List Cell → Option Cell
  | c, [] => some c
  | c, x :: l => match f c x with
    | some y => foldA f y l
    | none => none
def listA (t : List AV) : List Operand → Option (List Cell)
  | [] => some []
  | x :: l => match cellOf t x, listA t l with
    | some c, some m => some (c :: m)
    | _, _ => none

/-- What an operation answers that turns no memory. -/
def pureA {D : Type} (P : Program) (H : Heap D) (t : List AV) (dec : Dec) : Op → Option (Cd × AV × Dec)
  | .move x => match opnd t x with
    | some v => some (cd True, v, dec)
    | none => none
  | .assign x => match opnd t x with
    | some v => some (cd True, v, dec)
    | none => none
  | .pick c a b => match cellOf t c, dec with
    | some (.bool x), 0 :: d => match opnd t b with
      | some v => some (cd (x = false), v, d)
      | none => none
    | some (.bool x), (_ + 1) :: d => match opnd t a with
      | some v => some (cd (x = true), v, d)
      | none => none
    | _, _ => none
  | .nilCheck x => match cellOf t x with
    | some (.ptr nl id idx off) => some (cd (nl = false), .cell (.ptr nl id idx off), dec)
    | some (.func f caps) => some (cd True, .cell (.func f caps), dec)
    | _ => none
  | .binOp op ty x y _ => match cellOf t x, cellOf t y with
    | some a, some b => match binA P op ty a b with
      | some (p, c) => some (p, .cell c, dec)
      | none => none
    | _, _ => none
  | .unOp op _ x => match cellOf t x with
    | some a => match unA op a with
      | some c => some (cd True, .cell c, dec)
      | none => none
    | none => none
  | .convert s d x => match cellOf t x with
    | some a => match convA P s d a with
      | some c => some (cd True, .cell c, dec)
      | none => none
    | none => none
  | .extract x i => match opnd t x with
    | some (.tup l) => match nth l i with
      | some v => some (cd True, v.av, dec)
      | none => none
    | _ => none
  | .field ty x f => match und P ty, opnd t x with
    | some (.struct fs), some (.agg cs) => match nth fs.toList f with
      | some fd => match partA P fd.type cs fd.offset with
        | some v => some (cd True, v, dec)
        | none => none
      | none => none
    | _, _ => none
  | .index ty x i => match opnd t x, cellOf t i with
    | some a, some (.int _ n) => indexA P ty a n dec
    | _, _ => none
  | .makeFunc (.func f) first caps => match first.toList, allPtr t caps.toList with
    | [], some l => some (cd True, .cell (.func f l), dec)
    | _, _ => none
  | .slice ty x lo hi mx => match und P ty, cellOf t x with
    | some .string, some (.str l) => match natOf t lo 0, natOf t hi l.length, mx with
      | some (p, i), some (q, j), none => some (cand p (cand q (cd (i ≤ j ∧ j ≤ l.length))), .cell (.str ((l.drop i).take (j - i))), dec)
      | _, _, _ => none
    | some (.slice e), some (.slice nl id idx off len cap sz) => match sizeA P e, natOf t lo 0, natOf t hi len, natOf t mx 0, dec with
      | some size, some (p, i), some (q, j), some _, 2 :: d => match cap, mx, sliceB H nl id idx off sz size i j with
        | none, none, some (s, c) => some (cand p (cand q s), .cell c, d)
        | _, _, _ => none
      | some size, some (p, i), some (q, j), some (r, m), mode :: d => match sliceA nl id idx off len cap sz size i j (match mx with | none => none | some _ => some m) mode with
        | some (s, c) => some (cand p (cand q (cand r (cand (cd (mx.isSome = true → hi.isSome = true)) s))), .cell c, d)
        | none => none
      | _, _, _, _, _ => none
    | some (.slice e), some .empty => match sizeA P e, natOf t lo 0, natOf t hi 0, mx with
      | some _, some (p, i), some (q, j), none => some (cand p (cand q (cd (i = 0 ∧ j = 0))), .cell .empty, dec)
      | _, _, _, _ => none
    | some (.array n e), some (.ptr nl id idx off) => match sizeA P e, lo, hi, mx with
      | some size, none, none, none => some (cd (nl = false ∧ 0 < n), .cell (.slice false id idx off n (some n) size), dec)
      | _, _, _, _ => none
    | _, _ => none
  | .fieldAddr s x f => match und P s, cellOf t x with
    | some (.struct fs), some (.ptr nl id idx off) => match nth fs.toList f with
      | some fd => match sizeA P fd.type with
        | some (_ + 1) => some (cd (nl = false), .cell (.ptr false id idx (off + fd.offset)), dec)
        | _ => none
      | none => none
    | _, _ => none
  | .indexAddr ty x i => match und P ty, cellOf t x, cellOf t i with
    | some (.slice e), some (.slice nl id idx off len _ _), some (.int _ n) => match sizeA P e with
      | some size => some (cd (nl = false ∧ 0 ≤ n ∧ n < len), .cell (.ptr false id idx (off + n.toNat * size)), dec)
      | none => none
    | some (.array len e), some (.ptr nl id idx off), some (.int _ n) => match sizeA P e with
      | some size => some (cd (nl = false ∧ 0 ≤ n ∧ n < len), .cell (.ptr false id idx (off + n.toNat * size)), dec)
      | none => none
    | _, _, _ => none
  | .load ty a => match cellOf t a, isAggA P ty, sizeA P ty with
    | some (.ptr nl id idx off), some ag, some n => match contAt H id idx with
      | some (_, live, c) => match c.getN off (cond ag n 1) dec with
        | some (p, cs, d) => match mkV ag cs with
          | some v => some (cand (cd (nl = false)) (cand live p), v, d)
          | none => none
        | none => none
      | none => none
    | _, _, _ => none
  | .build ty parts => match buildA P t ty parts.toList with
    | some v => some (cd True, v, dec)
    | none => none
  | .call c => match c.callee with
    | .builtin .len => match c.args.toList, c.argTypes.toList with
      | [x], [ty] => match opnd t x with
        | some a => match lenA P ty a with
          | some n => some (cd True, .cell (.int .i64 n), dec)
          | none => none
        | none => none
      | _, _ => none
    | .builtin .min => match listA t c.args.toList with
      | some (x :: l) => match foldA minA x l with
        | some y => some (cd True, .cell y, dec)
        | none => none
      | _ => none
    | .builtin .max => match listA t c.args.toList with
      | some (x :: l) => match foldA maxA x l with
        | some y => some (cd True, .cell y, dec)
        | none => none
      | _ => none
    | _ => none
  | _ => none

end
end Go.Proofs.Ytnoonoghemgbbaa.Sx

/-
  A symbolic evaluator over the model's code: part 4: what an operation answers that turns no memory is what the model answers.
-/
set_option linter.unusedVariables false
set_option linter.unusedSimpArgs false
namespace Go.Proofs.Ytnoonoghemgbbaa.Sx
open Go

def TR (ρ : Map) (t : List AV) (a : Act) : Prop := All2 (RV ρ) t a.tmps.toList

theorem ofV1_ok {ρ : Map} {v : Value} {c : Cell} (h : ofV1 v = some c) : RC ρ c v := by
  unfold ofV1 at h
  split at h <;> first
    | (cases h; done)
    | (cases h; first | rfl | exact .inl ⟨rfl, rfl⟩ | exact .inl ⟨rfl, rfl, rfl⟩)

theorem ofVs_ok {ρ : Map} : ∀ {l : List Value} {cs : List Cell}, ofVs l = some cs → All2 (RC ρ) cs l
  | [], cs, h => by simp [ofVs] at h; subst h; trivial
  | v :: l, cs, h => by
    unfold ofVs at h
    split at h
    · rename_i c cs' h1 h2
      cases h
      exact ⟨ofV1_ok h1, ofVs_ok h2⟩
    · cases h

theorem ofV_ok {ρ : Map} {v : Value} {x : AV} (h : ofV v = some x) : RV ρ x v := by
  unfold ofV at h
  split at h
  · rename_i cs
    split at h
    · rename_i l hl
      cases h
      exact ⟨cs.toList, by simp, ofVs_ok hl⟩
    · cases h
  · rename_i vs
    split at h
    · rename_i hl
      cases h
      exact ⟨[], by simpa using congrArg List.toArray hl, trivial⟩
    · cases h
  · split at h
    · rename_i c hc
      cases h
      exact ofV1_ok hc
    · cases h

theorem opnd_ok {ρ : Map} {t : List AV} {a : Act} (ht : TR ρ t a) {x : Operand} {v : AV} (h : opnd t x = some v) : RV ρ v (a.eval x) := by
  cases x with
  | tmp i =>
    obtain ⟨b, hb, hr⟩ := All2.get ht ((nth_eq t i).symm.trans h)
    have : a.eval (.tmp i) = b := by
      simp only [Act.eval]
      rw [Array.getD_eq_getD_getElem?, ← Array.getElem?_toList, hb]; rfl
    rw [this]; exact hr
  | const v => exact ofV_ok h
  | func f => cases h; exact ⟨[], rfl, trivial⟩
  | global g => cases h

theorem cellOf_ok {ρ : Map} {t : List AV} {a : Act} (ht : TR ρ t a) {x : Operand} {c : Cell} (h : cellOf t x = some c) : RC ρ c (a.eval x) := by
  unfold cellOf at h
  split at h
  · rename_i c' hc
    cases h
    exact opnd_ok ht hc
  · cases h

theorem kindEq_ok {a b : IntKind} (h : kindEq a b = true) : a = b := by cases a <;> cases b <;> first | rfl | cases h

theorem intBin_ok (op : BinOp) (k : IntKind) (x y : Int) (p : Cd) (c : Cell) (h : intBin op k x y = some (p, c)) (hp : p) {ρ : Map} (P : Program) (w : World) (ty : TypeId) :
    ∃ v, (binOp op ty (.int k x) (.int k y)).run P w = .ok v w ∧ RC ρ c v := by
  cases op <;> simp only [intBin, Option.some.injEq, Prod.mk.injEq, reduceCtorEq] at h
  all_goals
    obtain ⟨rfl, rfl⟩ := h
    refine ⟨_, ?_, rfl⟩
    simp only [cd] at hp
    simp [binOp, Op.intArith, Op.intDiv, Op.intBits, Op.intCmp, hp]

theorem shiftBin_ok (op : BinOp) (k k' : IntKind) (x y : Int) (p : Cd) (c : Cell) (h : shiftBin op k x y = some (p, c)) (hp : p) {ρ : Map} (P : Program) (w : World) (ty : TypeId) :
    ∃ v, (binOp op ty (.int k x) (.int k' y)).run P w = .ok v w ∧ RC ρ c v := by
  cases op <;> simp only [shiftBin, Option.some.injEq, Prod.mk.injEq, reduceCtorEq] at h
  all_goals
    obtain ⟨rfl, rfl⟩ := h
    refine ⟨_, ?_, rfl⟩
    simp [binOp, Op.shift, show ¬ y < 0 by omega]

theorem bytes_list (l : List UInt8) : (⟨l.toArray⟩ : ByteArray).toList = l := by
  have h : ∀ (b : ByteArray) (n i : Nat) (acc : List UInt8), b.size - i = n → ByteArray.toList.loop b i acc = acc.reverse ++ b.data.toList.drop i := by
    intro b n
    have hs : b.size = b.data.toList.length := (Array.length_toList).symm
    induction n with
    | zero =>
      intro i acc h
      unfold ByteArray.toList.loop
      rw [if_neg (by omega), List.drop_eq_nil_of_le (by omega)]
      simp
    | succ n ih =>
      intro i acc h
      unfold ByteArray.toList.loop
      rw [if_pos (by omega), ih (i + 1) _ (by omega)]
      have hi : i < b.data.toList.length := by omega
      rw [List.drop_eq_getElem_cons hi]
      have e : b.get! i = b.data.toList[i] := by
        simp only [ByteArray.get!]
        rw [getElem!_pos b.data i (by simpa using hi)]
        simp
      simp [e]
  unfold ByteArray.toList
  rw [h _ _ 0 [] rfl]; simp

theorem strBin_ok (op : BinOp) (x y : List UInt8) (p : Cd) (c : Cell) (h : strBin op x y = some (p, c)) (hp : p) {ρ : Map} (P : Program) (w : World) (ty : TypeId) :
    ∃ v, (binOp op ty (.string ⟨x.toArray⟩) (.string ⟨y.toArray⟩)).run P w = .ok v w ∧ RC ρ c v := by
  cases op <;> simp only [strBin, Option.some.injEq, Prod.mk.injEq, reduceCtorEq] at h
  all_goals
    obtain ⟨rfl, rfl⟩ := h
    refine ⟨_, ?_, rfl⟩
  · have e1 : (⟨x.toArray⟩ : ByteArray) ++ ⟨y.toArray⟩ = ⟨(x ++ y).toArray⟩ := by
      apply ByteArray.ext
      simp
    have e2 : IntKind.i64.max = 9223372036854775807 := by decide
    have e3 : ByteArray.size ⟨x.toArray⟩ = x.length := by simp [ByteArray.size]
    have e4 : ByteArray.size ⟨y.toArray⟩ = y.length := by simp [ByteArray.size]
    have hn : ¬ (((x.length + y.length : Nat) : Int) > 9223372036854775807) := by omega
    simp only [binOp, Op.stringOp, e1, e2, e3, e4, if_neg hn]
    rfl
  · simp [binOp, Op.stringOp, bytes_list]
  · simp [binOp, Op.stringOp, bytes_list]

/-- What a cell may stand for, as far as '==' asks. -/
def flat : Value → Bool
  | .nilIface => false
  | .agg _ => false
  | _ => true

theorem RC.flat {ρ : Map} {c : Cell} {v : Value} (h : RC ρ c v) : flat v = true := by
  cases c with
  | ptr nl id idx off => rcases h with ⟨_, rfl⟩ | ⟨_, F, _, rfl⟩ <;> rfl
  | slice nl id idx off len cap sz => rcases h with ⟨_, _, rfl⟩ | ⟨_, F, r, _, rfl, _⟩ <;> rfl
  | func f caps => obtain ⟨vs, rfl, _⟩ := h; rfl
  | map nl id idx => rcases h with ⟨_, rfl⟩ | ⟨_, F, _, rfl⟩ <;> rfl
  | yld id => obtain ⟨F, _, rfl⟩ := h; rfl
  | bool b => cases h; rfl
  | int k n => cases h; rfl
  | str l => cases h; rfl
  | empty => rcases h with rfl | ⟨a, c, rfl⟩ <;> rfl
  | nilFunc => cases h; rfl
  | anyp => obtain ⟨p, rfl⟩ := h; rfl

theorem eqGuard_ok (P : Program) (w : World) (op : BinOp) (t : TypeId) (x y : Operand) {v u : Value} (hv : flat v = true) (hu : flat u = true) :
    (eqGuard op t x y v u).run P w = .ok () w := by
  unfold eqGuard
  simp only [bind, Sem.bind]
  split
  · cases v <;> first
      | (cases hv; done)
      | rfl
      | (cases u <;> rfl)
  · cases v <;> first
      | (cases hv; done)
      | rfl
      | (cases u <;> rfl)
  · rfl

theorem equal_run (P : Program) (w : World) (t : TypeId) (d : TypeDesc) (hd : P.underlying t = some d) : (underlying t).run P w = .ok d w := by
  simp [underlying, hd]

theorem eq_of (P : Program) (w : World) (ty : TypeId) (d : TypeDesc) (hd : P.underlying ty = some d) (x y : Value) (b : Bool)
    (h : ∀ n, (Op.equalIn (n + 1) ty x y).run P w = .ok b w) (he : ∀ op, (op = .eql ∨ op = .neq) → binOp op ty x y = (if op = .eql then (do pure (.bool (← Op.equal ty x y))) else (do pure (.bool (!(← Op.equal ty x y)))))) :
    (binOp .eql ty x y).run P w = .ok (.bool b) w ∧ (binOp .neq ty x y).run P w = .ok (.bool !b) w := by
  have h1 : (Op.equal ty x y).run P w = .ok b w := h 9999
  constructor
  · rw [he _ (.inl rfl), if_pos rfl]; simp only [Sem.run_bind, h1, Result.andThen_ok]; rfl
  · rw [he _ (.inr rfl), if_neg (by decide)]; simp only [Sem.run_bind, h1, Result.andThen_ok]; rfl

theorem eqlNil_ok {ρ : Map} {P : Program} {w : World} {op : BinOp} {ty : TypeId} {b : Bool} {c : Cell} {p : Cd} {x y : Value} (h : eqlNil op b = some (p, c))
    (hh : (binOp .eql ty x y).run P w = .ok (.bool b) w ∧ (binOp .neq ty x y).run P w = .ok (.bool !b) w) : ∃ r, (binOp op ty x y).run P w = .ok r w ∧ RC ρ c r := by
  cases op <;> simp only [eqlNil, Option.some.injEq, Prod.mk.injEq, reduceCtorEq] at h
  · obtain ⟨_, rfl⟩ := h; exact ⟨_, hh.1, rfl⟩
  · obtain ⟨_, rfl⟩ := h; exact ⟨_, hh.2, rfl⟩

theorem binA_ok {ρ : Map} {P : Program} {w : World} {op : BinOp} {ty : TypeId} {a b c : Cell} {p : Cd} (h : binA P op ty a b = some (p, c)) (hp : p) {v u : Value} (hv : RC ρ a v) (hu : RC ρ b u) :
    ∃ r, (binOp op ty v u).run P w = .ok r w ∧ RC ρ c r := by
  unfold binA at h
  try simp only [nth_eq, setL_eq, und_eq, inf_eq] at h
  split at h
  · cases hv; cases hu
    split at h
    · exact shiftBin_ok _ _ _ _ _ _ _ h hp P w ty
    · split at h
      · rename_i hk
        cases kindEq_ok hk
        exact intBin_ok _ _ _ _ _ _ h hp P w ty
      · cases h
  · cases hv; cases hu
    exact strBin_ok _ _ _ _ _ h hp P w ty
  · cases hv; cases hu
    rename_i x y
    split at h
    · rename_i hd
      have hh := eq_of P w ty _ hd (.bool x) (.bool y) (x == y) (fun n => by unfold Op.equalIn; simp only [Sem.run_bind, equal_run P w _ _ hd, Result.andThen_ok]; rfl) (fun op ho => by rcases ho with rfl | rfl <;> rfl)
      split at h
      · cases h; exact ⟨_, hh.1, rfl⟩
      · cases h; exact ⟨_, hh.2, rfl⟩
      · cases h
    · cases h
  · rename_i nl id idx off len cap sz id' idx' off' len' cap' sz'
    rcases hu with ⟨_, _, rfl⟩ | ⟨h0, _⟩
    · split at h
      · rename_i e hd
        have hn : ∃ bs n m, v = .slice bs n m ∧ bs.isNone = nl := by
          rcases hv with ⟨rfl, _, rfl⟩ | ⟨rfl, F, r, _, rfl, _⟩
          · exact ⟨_, _, _, rfl, rfl⟩
          · exact ⟨_, _, _, rfl, rfl⟩
        obtain ⟨bs, n, m, rfl, rfl⟩ := hn
        refine eqlNil_ok h (eq_of P w ty _ hd _ _ _ (fun n => ?_) (fun op ho => by rcases ho with rfl | rfl <;> rfl))
        unfold Op.equalIn
        simp only [Sem.run_bind, equal_run P w _ _ hd, Result.andThen_ok]
        cases bs <;> rfl
      · cases h
    · cases h0
  · rename_i nl id idx off id' idx' off'
    rcases hu with ⟨_, rfl⟩ | ⟨h0, _⟩
    · split at h
      · rename_i e hd
        have hn : ∃ bs, v = .pointer bs ∧ bs.isNone = nl := by
          rcases hv with ⟨rfl, rfl⟩ | ⟨rfl, F, _, rfl⟩
          · exact ⟨_, rfl, rfl⟩
          · exact ⟨_, rfl, rfl⟩
        obtain ⟨bs, rfl, rfl⟩ := hn
        refine eqlNil_ok h (eq_of P w ty _ hd _ _ _ (fun n => ?_) (fun op ho => by rcases ho with rfl | rfl <;> rfl))
        unfold Op.equalIn
        simp only [Sem.run_bind, equal_run P w _ _ hd, Result.andThen_ok]
        cases bs <;> rfl
      · cases h
    · cases h0
  · cases hu
    obtain ⟨vs, rfl, _⟩ := hv
    split at h
    · rename_i hd
      refine eqlNil_ok h (eq_of P w ty _ hd _ _ _ (fun n => ?_) (fun op ho => by rcases ho with rfl | rfl <;> rfl))
      unfold Op.equalIn
      simp only [Sem.run_bind, equal_run P w _ _ hd, Result.andThen_ok]
      rfl
    · cases h
  · cases hu; cases hv
    split at h
    · rename_i hd
      refine eqlNil_ok h (eq_of P w ty _ hd _ _ _ (fun n => ?_) (fun op ho => by rcases ho with rfl | rfl <;> rfl))
      unfold Op.equalIn
      simp only [Sem.run_bind, equal_run P w _ _ hd, Result.andThen_ok]
      rfl
    · cases h
  · cases h

theorem unA_ok {ρ : Map} {P : Program} {w : World} {op : UnOp} {a c : Cell} (h : unA op a = some c) {v : Value} (hv : RC ρ a v) : ∃ r, (Op.unary op v).run P w = .ok r w ∧ RC ρ c r := by
  unfold unA at h
  split at h <;> first
    | (cases h; cases hv; exact ⟨_, by simp [Op.unary, Op.intArith, Op.intBits], rfl⟩)
    | cases h

theorem convA_ok {ρ : Map} {P : Program} {w : World} {s d : TypeId} {a c : Cell} (h : convA P s d a = some c) {v : Value} (hv : RC ρ a v) : ∃ r, (convert s d v).run P w = .ok r w ∧ RC ρ c r := by
  unfold convA at h
  try simp only [nth_eq, setL_eq, und_eq, inf_eq] at h
  split at h
  · rename_i x k n hs hd
    cases h; cases hv
    refine ⟨_, ?_, rfl⟩
    simp [convert, equal_run P w _ _ hs, equal_run P w _ _ hd, Conv.intToInt]
  · rename_i x l hs hd
    cases h; cases hv
    refine ⟨_, ?_, rfl⟩
    simp [convert, equal_run P w _ _ hs, equal_run P w _ _ hd]
  · cases h

theorem isAggA_ok {P : Program} {w : World} {t : TypeId} {b : Bool} (h : isAggA P t = some b) : (isAgg t).run P w = .ok b w := by
  unfold isAggA at h
  try simp only [nth_eq, setL_eq, und_eq, inf_eq] at h
  cases hd : P.underlying t with
  | none => rw [hd] at h; cases h
  | some d =>
    rw [hd] at h
    simp only [isAgg, Sem.run_bind, equal_run P w _ _ hd, Result.andThen_ok]
    cases d <;> (cases h; rfl)

theorem sizeA_ok {P : Program} {w : World} {t : TypeId} {n : Nat} (h : sizeA P t = some n) : (sizeOf t).run P w = .ok n w := by
  unfold sizeA at h
  try simp only [nth_eq, setL_eq, und_eq, inf_eq] at h
  split at h
  · rename_i i hi; cases h; simp [sizeOf, typeInfo, hi]
  · cases h

theorem partA_ok {ρ : Map} {P : Program} {w : World} {t : TypeId} {cs : List Cell} {vs : List Value} {off : Nat} {v : AV} (h : partA P t cs off = some v) (hc : All2 (RC ρ) cs vs) :
    ∃ r, (part t vs.toArray off).run P w = .ok r w ∧ RV ρ v r := by
  unfold partA at h
  try simp only [nth_eq, setL_eq, und_eq, inf_eq] at h
  split at h
  · rename_i n h1 h2
    cases h
    refine ⟨.agg ((vs.drop off).take n).toArray, ?_, _, rfl, (hc.drop off).take n⟩
    simp only [part, Sem.run_bind, isAggA_ok (w := w) h1, sizeA_ok (w := w) h2, Result.andThen_ok, if_true]
    simp [List.extract_eq_take_drop]
  · rename_i h1 h2
    split at h
    · rename_i c hc'
      cases h
      obtain ⟨b, hb, hr⟩ := hc.get hc'
      exact ⟨b, by simp [part, isAggA_ok (w := w) h1, hb], hr⟩
    · cases h
  · cases h
end Go.Proofs.Ytnoonoghemgbbaa.Sx

/-
  A symbolic evaluator over the model's code: part 5: the same for elements, parts, addresses, loads, and aggregates.
-/
set_option linter.unusedVariables false
set_option linter.unusedSimpArgs false
namespace Go.Proofs.Ytnoonoghemgbbaa.Sx
open Go

theorem All2.get? {α β : Type} {R : α → β → Prop} {l : List α} {m : List β} (h : All2 R l m) (i : Nat) : (l[i]? = none ∧ m[i]? = none) ∨ ∃ a b, l[i]? = some a ∧ m[i]? = some b ∧ R a b := by
  cases hl : l[i]? with
  | none => exact .inl ⟨rfl, by have := h.length; rw [List.getElem?_eq_none_iff] at hl ⊢; omega⟩
  | some a => obtain ⟨b, hb, hr⟩ := h.get hl; exact .inr ⟨a, b, rfl, hb, hr⟩

theorem column_get (sz : Nat) (hs : 0 < sz) : ∀ (n : Nat) (cs : List Cell) (i : Nat), i < n → n * sz ≤ cs.length + (sz - 1) → (column sz n cs)[i]? = cs[i * sz]?
  | 0, cs, i, h, _ => by omega
  | n + 1, [], i, h, hl => by
    have h1 : sz ≤ (n + 1) * sz := by rw [Nat.succ_mul]; omega
    simp at hl
    omega
  | n + 1, c :: cs, 0, h, hl => by simp [column]
  | n + 1, c :: cs, i + 1, h, hl => by
    simp only [column, List.getElem?_cons_succ]
    rw [column_get sz hs n _ i (by omega) (by simp [Nat.succ_mul] at hl ⊢; omega), List.getElem?_drop]
    congr 1
    rw [Nat.succ_mul]; omega

theorem colInts_get {k : IntKind} : ∀ {l : List Cell} {ns : List Int}, colInts k l = some ns → ∀ {i : Nat} {c : Cell}, l[i]? = some c → c = .int k (ns.getD i 0)
  | [], ns, h, i, c, hc => by simp at hc
  | x :: l, ns, h, i, c, hc => by
    unfold colInts at h
    split at h
    · rename_i heq; cases heq
    · rename_i k' n l' heq
      cases heq
      split at h
      · rename_i ns' hk hr
        cases h
        cases kindEq_ok hk
        cases i with
        | zero => simp at hc; subst hc; rfl
        | succ i => simpa using colInts_get hr (by simpa using hc)
      · cases h
    · cases h
theorem colBools_get : ∀ {l : List Cell} {ns : List Bool}, colBools l = some ns → ∀ {i : Nat} {c : Cell}, l[i]? = some c → c = .bool (ns.getD i false)
  | [], ns, h, i, c, hc => by simp at hc
  | x :: l, ns, h, i, c, hc => by
    unfold colBools at h
    split at h
    · rename_i heq; cases heq
    · rename_i n l' heq
      cases heq
      split at h
      · rename_i ns' hr
        cases h
        cases i with
        | zero => simp at hc; subst hc; rfl
        | succ i => simpa using colBools_get hr (by simpa using hc)
      · cases h
    · cases h
theorem colStrs_get : ∀ {l : List Cell} {ns : List (List UInt8)}, colStrs l = some ns → ∀ {i : Nat} {c : Cell}, l[i]? = some c → c = .str (ns.getD i [])
  | [], ns, h, i, c, hc => by simp at hc
  | x :: l, ns, h, i, c, hc => by
    unfold colStrs at h
    split at h
    · rename_i heq; cases heq
    · rename_i n l' heq
      cases heq
      split at h
      · rename_i ns' hr
        cases h
        cases i with
        | zero => simp at hc; subst hc; rfl
        | succ i => simpa using colStrs_get hr (by simpa using hc)
      · cases h
    · cases h

theorem colAt_get {col : List Cell} {i : Nat} {c x : Cell} (h : colAt col i = some c) (hx : col[i]? = some x) : x = c := by
  unfold colAt at h
  split at h
  · split at h
    · rename_i l hl; cases h; exact colInts_get hl hx
    · cases h
  · split at h
    · rename_i l hl; cases h; exact colBools_get hl hx
    · cases h
  · split at h
    · rename_i l hl; cases h; exact colStrs_get hl hx
    · cases h
  · cases h

theorem rowAt_get {sz len : Nat} {cs : List Cell} {i : Nat} (hs : 0 < sz) (hl : cs.length = len * sz) (hi : i < len) : ∀ {m s : Nat} {row : List Cell}, s + m ≤ sz → rowAt sz len cs i s m = some row → row = (cs.drop (i * sz + s)).take m
  | 0, s, row, _, h => by simp [rowAt] at h; simp [h]
  | m + 1, s, row, hm, h => by
    unfold rowAt at h
    split at h
    · rename_i c l h1 h2
      cases h
      have ih := rowAt_get hs hl hi (by omega) h2
      have hlt : i * sz + s < cs.length := by
        rw [hl]
        have : (i + 1) * sz ≤ len * sz := Nat.mul_le_mul_right _ hi
        rw [Nat.succ_mul] at this; omega
      have hc := column_get sz hs len (cs.drop s) i hi (by simp; omega)
      rw [List.getElem?_drop, show s + i * sz = i * sz + s by omega, List.getElem?_eq_getElem hlt] at hc
      have := colAt_get h1 hc
      rw [List.drop_eq_getElem_cons hlt, List.take_succ_cons, this, ih]
      rfl
    · cases h

theorem mkV_ok {ρ : Map} {ag : Bool} {cs : List Cell} {vs : List Value} {v : AV} (h : mkV ag cs = some v) (hc : All2 (RC ρ) cs vs) :
    (ag = true ∧ RV ρ v (.agg vs.toArray)) ∨ (ag = false ∧ ∃ u, vs = [u] ∧ RV ρ v u) := by
  unfold mkV at h
  split at h
  · cases h; exact .inl ⟨rfl, vs, rfl, hc⟩
  · rename_i c
    cases h
    match vs, hc with
    | [u], hc => exact .inr ⟨rfl, u, rfl, hc.1⟩
    | [], hc => exact hc.elim
    | _ :: _ :: _, hc => exact hc.2.elim
  · cases h

theorem indexA_ok {ρ : Map} {P : Program} {w : World} {ty : TypeId} {a : AV} {k : IntKind} {i : Int} {dec d : Dec} {p : Cd} {v : AV} (h : indexA P ty a i dec = some (p, v, d)) (hp : p) {x : Value} (hx : RV ρ a x) :
    ∃ r, (Instr.index ty x (.int k i)).run P w = .ok r w ∧ RV ρ v r := by
  unfold indexA at h
  try simp only [nth_eq, setL_eq, und_eq, inf_eq] at h
  split at h
  · rename_i l hd
    cases h
    cases hx
    obtain ⟨h0, h1⟩ := hp
    have hn : i.toNat < l.length := by omega
    refine ⟨_, ?_, rfl⟩
    have hg : (⟨l.toArray⟩ : ByteArray)[i.toNat]? = some (l.getD i.toNat 0) := by
      have hs : i.toNat < (⟨l.toArray⟩ : ByteArray).size := by simpa [ByteArray.size] using hn
      rw [getElem?_pos (⟨l.toArray⟩ : ByteArray) i.toNat hs]
      simp only [Option.some.injEq]
      show l.toArray[i.toNat] = _
      simp [List.getD, hn]
    simp only [Instr.index, asIntOf, Sem.run_bind, Sem.run_pure, Result.andThen_ok, equal_run P w _ _ hd, if_pos h0, hg]
  · rename_i len elem cs hd
    obtain ⟨vs, rfl, hc⟩ := hx
    split at h
    · rename_i d' sz ag hsz hag
      split at h
      · rename_i row hrow
        split at h
        · rename_i v' hv
          cases h
          obtain ⟨h0, h1, h2, h3⟩ := hp
          have hn : i.toNat < len := by omega
          have hr := rowAt_get h3 h2 hn (by omega) hrow
          have hv2 : All2 (RC ρ) row ((vs.drop (i.toNat * sz)).take sz) := by rw [hr]; exact (hc.drop _).take _
          have hlen : vs.length = len * sz := by rw [← hc.length]; exact h2
          have hle : i.toNat * sz + sz ≤ vs.length := by
            have : (i.toNat + 1) * sz ≤ len * sz := Nat.mul_le_mul_right _ hn
            rw [Nat.succ_mul] at this; omega
          have hif : (0 ≤ i ∧ i < (len : Int)) := ⟨h0, h1⟩
          rcases mkV_ok hv hv2 with ⟨rfl, hr⟩ | ⟨rfl, u, hu, hr⟩
          · refine ⟨_, ?_, hr⟩
            simp only [Instr.index, asIntOf, Sem.run_bind, Sem.run_pure, Result.andThen_ok, equal_run P w _ _ hd, if_pos hif, sizeA_ok (w := w) hsz, part, isAggA_ok (w := w) hag, if_true]
            simp [List.extract_eq_take_drop]
          · refine ⟨u, ?_, hr⟩
            have hu0 : vs[i.toNat * sz]? = some u := by
              have h5 := congrArg (fun l => l[0]?) hu
              simp only [List.getElem?_take, List.getElem?_drop] at h5
              simpa [h3] using h5
            simp only [Instr.index, asIntOf, Sem.run_bind, Sem.run_pure, Result.andThen_ok, equal_run P w _ _ hd, if_pos hif, sizeA_ok (w := w) hsz, part, isAggA_ok (w := w) hag]
            simp [hu0]
        · cases h
      · cases h
    · rename_i j d' sz ag hsz hag
      split at h
      · rename_i v' hv
        cases h
        obtain ⟨rfl, h1⟩ := hp
        obtain ⟨r, hr, hrv⟩ := partA_ok (w := w) hv hc
        refine ⟨r, ?_, hrv⟩
        have hif : (0 ≤ (j : Int) ∧ (j : Int) < (len : Int)) := ⟨by omega, by omega⟩
        simp only [Instr.index, asIntOf, Sem.run_bind, Sem.run_pure, Result.andThen_ok, equal_run P w _ _ hd, if_pos hif, sizeA_ok (w := w) hsz, Int.toNat_natCast, hr]
      · cases h
    · cases h
  · cases h

/-! ### What lies in a block -/
theorem Cont.get_ok {c : Cont} {off : Nat} {dec d : Dec} {p : Cd} {x : Cell} (h : c.get off dec = some (p, x, d)) (hp : p) : c.At off x := by
  unfold Cont.get at h
  try simp only [nth_eq, setL_eq, und_eq, inf_eq] at h
  split at h
  · split at h
    · rename_i hx; cases h; exact hx
    · cases h
  · rename_i k l
    cases h
    have hp' : off < l.length := hp
    exact ⟨l[off], List.getElem?_eq_getElem hp', by simp [List.getD, hp']⟩
  · rename_i n sz f
    split at h
    · rename_i _ s d'
      split at h
      · rename_i y hy
        cases h
        obtain ⟨h1, h2, h3⟩ := hp
        refine ⟨off / sz, s, h1, h3, ?_, hy⟩
        rw [Nat.mul_comm, ← h2, Nat.div_add_mod]
      · cases h
    · cases h

theorem Cont.getNs_ok {c : Cont} : ∀ {n off : Nat} {dec d : Dec} {p : Cd} {xs : List Cell}, c.getNs off n dec = some (p, xs, d) → p → xs.length = n ∧ ∀ j x, xs[j]? = some x → c.At (off + j) x
  | 0, off, dec, d, p, xs, h, hp => by
    simp only [Cont.getNs, Option.some.injEq, Prod.mk.injEq] at h
    obtain ⟨_, rfl, _⟩ := h
    exact ⟨rfl, fun j x hx => by simp at hx⟩
  | n + 1, off, dec, d, p, xs, h, hp => by
    unfold Cont.getNs at h
    split at h
    · rename_i p1 x1 d1 h1
      split at h
      · rename_i q xs' d2 h2
        cases h
        obtain ⟨hp1, hq⟩ := hp
        have g1 := Cont.get_ok h1 hp1
        obtain ⟨g2, g3⟩ := Cont.getNs_ok h2 hq
        refine ⟨by simp [g2], fun j x hx => ?_⟩
        cases j with
        | zero => simp at hx; subst hx; exact g1
        | succ j => have := g3 j x (by simpa using hx); rwa [show off + 1 + j = off + (j + 1) by omega] at this
      · cases h
    · cases h

theorem takeN_ok : ∀ {n : Nat} {l xs : List Cell}, takeN n l = some xs → xs.length = n ∧ ∀ (j : Nat) (x : Cell), xs[j]? = some x → l[j]? = some x
  | 0, l, xs, h => by
    simp only [takeN, Option.some.injEq] at h
    subst h
    exact ⟨rfl, fun j x h => by simp at h⟩
  | n + 1, y :: l, xs, h => by
    simp only [takeN] at h
    split at h
    · rename_i m hm
      cases h
      obtain ⟨h1, h2⟩ := takeN_ok hm
      refine ⟨by simp [h1], fun j x hx => ?_⟩
      cases j with
      | zero => simpa using hx
      | succ j => simpa using h2 j x (by simpa using hx)
    · cases h
  | n + 1, [], xs, h => by cases h

theorem Cont.getN_ok {c : Cont} {n off : Nat} {dec d : Dec} {p : Cd} {xs : List Cell} (h : c.getN off n dec = some (p, xs, d)) (hp : p) : xs.length = n ∧ ∀ j x, xs[j]? = some x → c.At (off + j) x := by
  cases c with
  | ints k l => exact Cont.getNs_ok h hp
  | fam a b f => exact Cont.getNs_ok h hp
  | raw cs =>
    simp only [Cont.getN] at h
    split at h
    · rename_i ys hy
      cases h
      obtain ⟨h1, h2⟩ := takeN_ok hy
      refine ⟨h1, fun j x hx => ?_⟩
      have := h2 j x hx
      rw [List.getElem?_drop] at this
      exact this
    · cases h

section
variable {D : Type}

theorem contAt_ok {ρ : Map} {H : Heap D} {w : World} (r : Rel ρ H w) {id idx : Nat} {own : Bool} {p : Cd} {c : Cont} (h : contAt H id idx = some (own, p, c)) (hp : p) :
    ∃ num cc F, H[id]? = some (some (.cells own num cc)) ∧ c = cc idx ∧ idx < num ∧ ρ[id]? = some F ∧ c.wf ∧ ContAt ρ w (F idx) c ∧ (own = true → OwnAt w (F idx) c) := by
  unfold contAt at h
  try simp only [nth_eq, setL_eq, und_eq, inf_eq] at h
  split at h
  · rename_i own' num cc hb
    cases h
    obtain ⟨F, hF⟩ := r.mapAt hb
    have hlt : idx < num := hp
    have := r.at_ id _ F idx hb hF hlt
    exact ⟨num, cc, F, hb, rfl, hlt, hF, this.1, this.2.2.2.1, this.2.2.2.2⟩
  · cases h

theorem addr_add (b o n : Nat) : (⟨b, o, none⟩ : Addr).add n = ⟨b, o + n, none⟩ := by
  unfold Addr.add; split <;> simp_all

/-- A row of cells reads as told. -/
theorem cells_ok {ρ : Map} {w : World} {L : Loc} {c : Cont} (hc : ContAt ρ w L c) {off : Nat} {xs : List Cell} (hx : ∀ j x, xs[j]? = some x → c.At (off + j) x) :
    ∃ vs : List Value, All2 (RC ρ) xs vs ∧ ∀ j v, vs[j]? = some v → w.cell? ((⟨L.blk, L.sh + off, none⟩ : Addr).add j) = some v := by
  induction xs generalizing off with
  | nil => exact ⟨[], trivial, fun j v h => by simp at h⟩
  | cons x xs ih =>
    obtain ⟨v, hv, hr⟩ := hc off x (hx 0 x rfl)
    obtain ⟨vs, h1, h2⟩ := ih (off := off + 1) fun j y hy => by have := hx (j + 1) y (by simpa using hy); rwa [show off + (j + 1) = off + 1 + j by omega] at this
    refine ⟨v :: vs, ⟨hr, h1⟩, fun j u hu => ?_⟩
    cases j with
    | zero => simp at hu; subst hu; simpa [addr_add] using hv
    | succ j =>
      have := h2 j u (by simpa using hu)
      rw [addr_add] at this ⊢
      rw [← this]; congr 2; omega

theorem loadVar_ok {ρ : Map} {P : Program} {w : World} {L : Loc} {c : Cont} (hc : ContAt ρ w L c) {ty : TypeId} {ag : Bool} {n off : Nat} (hag : isAggA P ty = some ag) (hn : sizeA P ty = some n)
    {dec d : Dec} {p : Cd} {xs : List Cell} (h : c.getN off (cond ag n 1) dec = some (p, xs, d)) (hp : p) {v : AV} (hv : mkV ag xs = some v) :
    ∃ r, (loadVar ty ⟨L.blk, L.sh + off, none⟩).run P w = .ok r w ∧ RV ρ v r := by
  obtain ⟨hl, hx⟩ := Cont.getN_ok h hp
  obtain ⟨vs, h1, h2⟩ := cells_ok hc hx
  rcases mkV_ok hv h1 with ⟨rfl, hr⟩ | ⟨rfl, u, rfl, hr⟩
  · refine ⟨_, ?_, hr⟩
    have hlen : vs.length = n := by rw [← h1.length]; exact hl
    have := run_loadCells_list (P := P) (w := w) ⟨L.blk, L.sh + off, none⟩ vs h2
    rw [hlen] at this
    simp only [loadVar, Sem.run_bind, isAggA_ok (w := w) hag, Result.andThen_ok, if_true, sizeA_ok (w := w) hn, this]
    rfl
  · refine ⟨u, ?_, hr⟩
    have := h2 0 u rfl
    rw [addr_add] at this
    simp only [loadVar, Sem.run_bind, isAggA_ok (w := w) hag, Result.andThen_ok, run_load]
    simp only [Nat.add_zero] at this
    simp [this]
end
end Go.Proofs.Ytnoonoghemgbbaa.Sx

/-
  A symbolic evaluator over the model's code: part 6: parts of slices, addresses, aggregates, lengths; then all operations that turn no memory.
-/
set_option linter.unusedVariables false
set_option linter.unusedSimpArgs false
namespace Go.Proofs.Ytnoonoghemgbbaa.Sx
open Go

/-- A bound that is told, or not. -/
def Bnd (x : Option Value) (d i : Nat) : Prop := (x = none ∧ i = d) ∨ ∃ k n, x = some (.int k n) ∧ 0 ≤ n ∧ i = n.toNat

theorem natOf_ok {ρ : Map} {t : List AV} {a : Act} (ht : TR ρ t a) {x : Option Operand} {d i : Nat} {p : Cd} (h : natOf t x d = some (p, i)) (hp : p) : Bnd (x.map a.eval) d i := by
  cases x with
  | none => cases h; exact .inl ⟨rfl, rfl⟩
  | some x =>
    unfold natOf at h
    simp only at h
    split at h
    · rename_i k n hc
      cases h
      have := cellOf_ok ht hc
      have e : a.eval x = .int k n := this
      exact .inr ⟨k, n, by simp [e], hp, rfl⟩
    · cases h

theorem run_sliceBound {P : Program} (w : World) (k : IntKind) (i : Int) (y : Nat) (code : BoundsCode) (h0 : 0 ≤ i) (h1 : i ≤ y) :
    (Instr.sliceBound (.int k i) y code).run P w = .ok i.toNat w := by
  simp [Instr.sliceBound, asIntOf, h0, h1]

theorem bounds_ok {P : Program} {w : World} {b : Bool} {len cap : Nat} {lo hi mx : Option Value} {i j m : Nat} (hl : Bnd lo 0 i) (hh : Bnd hi len j) (hm : Bnd mx cap m)
    (h1 : i ≤ j) (h2 : j ≤ m) (h3 : m ≤ cap) (hs : mx.isSome = true → hi.isSome = true) : (Instr.sliceBounds b len cap lo hi mx).run P w = .ok (i, j, m) w := by
  unfold Instr.sliceBounds
  rcases hm with ⟨rfl, rfl⟩ | ⟨km, nm, rfl, hm0, rfl⟩
  · rcases hh with ⟨rfl, rfl⟩ | ⟨kh, nh, rfl, hh0, rfl⟩
    · rcases hl with ⟨rfl, rfl⟩ | ⟨kl, nl, rfl, hl0, rfl⟩
      · simp
      · simp [run_sliceBound w kl nl j _ hl0 (by omega)]
    · rcases hl with ⟨rfl, rfl⟩ | ⟨kl, nl, rfl, hl0, rfl⟩
      · simp [run_sliceBound w kh nh m _ hh0 (by omega)]
      · simp [run_sliceBound w kh nh m _ hh0 (by omega), run_sliceBound w kl nl nh.toNat _ hl0 (by omega)]
  · rcases hh with ⟨rfl, rfl⟩ | ⟨kh, nh, rfl, hh0, rfl⟩
    · simp at hs
    · rcases hl with ⟨rfl, rfl⟩ | ⟨kl, nl, rfl, hl0, rfl⟩
      · simp [run_sliceBound w km nm cap _ hm0 (by omega), run_sliceBound w kh nh nm.toNat _ hh0 (by omega)]
      · simp [run_sliceBound w km nm cap _ hm0 (by omega), run_sliceBound w kh nh nm.toNat _ hh0 (by omega), run_sliceBound w kl nl nh.toNat _ hl0 (by omega)]

theorem sliceAt_slice {P : Program} {w : World} {ty e : TypeId} {size : Nat} (hd : P.underlying ty = some (.slice e)) (hsz : sizeA P e = some size) {base : Option Addr} {len cap : Nat} {lo hi mx : Option Value} {i j m : Nat}
    (hl : Bnd lo 0 i) (hh : Bnd hi len j) (hm : Bnd mx cap m) (h1 : i ≤ j) (h2 : j ≤ m) (h3 : m ≤ cap) (hs : mx.isSome = true → hi.isSome = true) :
    (Instr.sliceAt ty (.slice base len cap) lo hi mx).run P w = .ok (.slice (if m = i then base else base.map (·.add (i * size))) (j - i) (m - i)) w := by
  have hb := bounds_ok (P := P) (w := w) (b := true) hl hh hm h1 h2 h3 hs
  simp only [Instr.sliceAt, Sem.run_bind, equal_run P w _ _ hd, Result.andThen_ok, Instr.slice, hb, sizeA_ok (w := w) hsz]
  rfl

theorem sliceA_ok {ρ : Map} {P : Program} {w : World} {ty e : TypeId} {size : Nat} (hd : P.underlying ty = some (.slice e)) (hsz : sizeA P e = some size)
    {nl : Bool} {id idx off len : Nat} {cap : Option Nat} {sz : Nat} {x : Value} (hx : RC ρ (.slice nl id idx off len cap sz) x) {lo hi mx : Option Value} {i j : Nat} {mode : Nat} {p : Cd} {c : Cell} {xm : Option Nat}
    (hl : Bnd lo 0 i) (hh : Bnd hi len j) (hm : (mx = none ∧ xm = none) ∨ (∃ k n, mx = some (.int k n) ∧ 0 ≤ n ∧ xm = some n.toNat ∧ hi.isSome = true))
    (h : sliceA nl id idx off len cap sz size i j xm mode = some (p, c)) (hp : p) :
    ∃ r, (Instr.sliceAt ty x lo hi mx).run P w = .ok r w ∧ RC ρ c r := by
  unfold sliceA at h
  split at h
  · -- as it stands
    rcases hx with ⟨rfl, rfl, rfl⟩ | ⟨rfl, F, r, hF, rfl, hr, hcap⟩
    · -- nil
      have key : ∀ mm, Bnd mx 0 mm → mm = 0 → i = 0 → j = 0 → (mx.isSome = true → hi.isSome = true) → (Instr.sliceAt ty (.slice none 0 0) lo hi mx).run P w = .ok (.slice none 0 0) w := by
        intro mm hb e1 e2 e3 hs
        subst e1 e2 e3
        rw [sliceAt_slice hd hsz hl hh hb (Nat.le_refl _) (Nat.le_refl _) (Nat.le_refl _) hs]
        simp
      split at h
      · rcases hm with ⟨rfl, hm⟩ | ⟨_, _, _, _, hm, _⟩
        · cases h
          obtain ⟨h1, h2, h3, h4⟩ := hp
          exact ⟨_, key 0 (.inl ⟨rfl, rfl⟩) rfl (by omega) (by omega) (by simp), .inl ⟨rfl, by omega, rfl⟩⟩
        · cases hm
      · rename_i m'
        rcases hm with ⟨_, hm⟩ | ⟨k, n, rfl, hn, hm, hs⟩
        · cases hm
        · cases h; cases hm
          obtain ⟨h1, h2, h3, h4, h5⟩ := hp
          exact ⟨_, key n.toNat (.inr ⟨k, n, rfl, hn, rfl⟩) (by omega) (by omega) (by omega) (fun _ => hs), .inl ⟨rfl, by omega, rfl⟩⟩
      · rcases hm with ⟨rfl, hm⟩ | ⟨_, _, _, _, hm, _⟩
        · cases h
          obtain ⟨h1, h2, h3, h4, h5⟩ := hp
          have := h4 rfl
          exact ⟨_, key 0 (.inl ⟨rfl, rfl⟩) rfl (by omega) (by omega) (by simp), .inl ⟨rfl, by omega, rfl⟩⟩
        · cases hm
      · rename_i m'
        rcases hm with ⟨_, hm⟩ | ⟨k, n, rfl, hn, hm, hs⟩
        · cases hm
        · cases h; cases hm
          obtain ⟨h1, h2, h3, h4, h5, h6⟩ := hp
          have := h5 rfl
          exact ⟨_, key n.toNat (.inr ⟨k, n, rfl, hn, rfl⟩) (by omega) (by omega) (by omega) (fun _ => hs), .inl ⟨rfl, by omega, rfl⟩⟩
    · -- not nil
      have key : ∀ mm, Bnd mx r mm → i ≤ j → j ≤ mm → mm ≤ r → (i = 0 ∨ i < mm) → (mx.isSome = true → hi.isSome = true) →
          (Instr.sliceAt ty (.slice (some ⟨(F idx).blk, (F idx).sh + off, none⟩) len r) lo hi mx).run P w = .ok (.slice (some ⟨(F idx).blk, (F idx).sh + (off + i * size), none⟩) (j - i) (mm - i)) w := by
        intro mm hb e1 e2 e3 e4 hs
        rw [sliceAt_slice hd hsz hl hh hb e1 e2 e3 hs]
        by_cases e : mm = i
        · rw [if_pos e]
          have : i = 0 := by omega
          simp [this]
        · rw [if_neg e]
          simp [addr_add, Nat.add_assoc]
      split at h
      · rcases hm with ⟨rfl, hm⟩ | ⟨_, _, _, _, hm, _⟩
        · cases h
          obtain ⟨h1, h2, h3, h4⟩ := hp
          subst h1
          refine ⟨_, key r (.inl ⟨rfl, rfl⟩) h2 (by omega) (Nat.le_refl _) (by omega) (by simp), .inr ⟨rfl, F, r - i, hF, rfl, by omega, ?_⟩⟩
          simp only at hcap ⊢
          have e : ∀ n, (n - i * sz) / sz = n / sz - i := fun n => by rw [Nat.mul_comm, Nat.sub_mul_div]
          rw [hcap, ← e, Nat.sub_sub, Nat.add_assoc]
        · cases hm
      · rename_i m'
        rcases hm with ⟨_, hm⟩ | ⟨k, n, rfl, hn, hm, hs⟩
        · cases hm
        · cases h; cases hm
          obtain ⟨h1, h2, h3, h4, h5⟩ := hp
          exact ⟨_, key n.toNat (.inr ⟨k, n, rfl, hn, rfl⟩) h2 h3 (by omega) h5 (fun _ => hs), .inr ⟨rfl, F, _, hF, rfl, by omega, rfl⟩⟩
      · rcases hm with ⟨rfl, hm⟩ | ⟨_, _, _, _, hm, _⟩
        · cases h
          obtain ⟨h1, h2, h3, h4, h5⟩ := hp
          simp only at hcap
          subst hcap
          exact ⟨_, key r (.inl ⟨rfl, rfl⟩) h2 h3 (Nat.le_refl _) h5 (by simp), .inr ⟨rfl, F, _, hF, rfl, by omega, rfl⟩⟩
        · cases hm
      · rename_i m'
        rcases hm with ⟨_, hm⟩ | ⟨k, n, rfl, hn, hm, hs⟩
        · cases hm
        · cases h; cases hm
          obtain ⟨h1, h2, h3, h4, h5, h6⟩ := hp
          simp only at hcap
          subst hcap
          exact ⟨_, key n.toNat (.inr ⟨k, n, rfl, hn, rfl⟩) h2 h3 h4 h6 (fun _ => hs), .inr ⟨rfl, F, _, hF, rfl, by omega, rfl⟩⟩
  · -- an empty one
    cases h
    obtain ⟨rfl, rfl, h2, rfl⟩ := hp
    rcases hm with ⟨rfl, _⟩ | ⟨_, _, _, _, hm, _⟩
    · rcases hx with ⟨h0, _⟩ | ⟨_, F, r, hF, rfl, hr, hcap⟩
      · cases h0
      · rw [sliceAt_slice hd hsz hl hh (.inl ⟨rfl, rfl⟩) (Nat.le_refl _) (by omega) (Nat.le_refl _) (by simp)]
        refine ⟨_, rfl, ?_⟩
        by_cases e : r = i
        · rw [if_pos e, Nat.sub_self]; exact .inr ⟨_, _, rfl⟩
        · rw [if_neg e, Nat.sub_self]; exact .inr ⟨_, _, rfl⟩
    · cases hm

theorem sliceB_ok {D : Type} {ρ : Map} {H : Heap D} {P : Program} {w : World} (rl : Rel ρ H w) {ty e : TypeId} {size : Nat} (hd : P.underlying ty = some (.slice e)) (hsz : sizeA P e = some size)
    {nl : Bool} {id idx off len : Nat} {sz : Nat} {x : Value} (hx : RC ρ (.slice nl id idx off len none sz) x) {lo hi : Option Value} {i j : Nat} {p : Cd} {c : Cell}
    (hl : Bnd lo 0 i) (hh : Bnd hi len j) (h : sliceB H nl id idx off sz size i j = some (p, c)) (hp : p) :
    ∃ r, (Instr.sliceAt ty x lo hi none).run P w = .ok r w ∧ RC ρ c r := by
  unfold sliceB at h
  split at h
  · rename_i live cc hc
    cases h
    obtain ⟨hlive, h1, h2, h3, h4, h5, h6⟩ := hp
    obtain ⟨num, ccf, F', hb, rfl, hlt, hF', hwf, hat, hown⟩ := contAt_ok rl hc hlive
    obtain ⟨g1, g2, g3⟩ := hown rfl
    rcases hx with ⟨h0, _⟩ | ⟨_, F, r, hF, rfl, hr, hcap⟩
    · rw [h1] at h0; cases h0
    · rw [hF] at hF'; cases hF'
      subst h2
      simp only at hcap
      have hjr : j ≤ r := by
        rw [hcap]
        refine (Nat.le_div_iff_mul_le h3).2 ?_
        omega
      rw [sliceAt_slice hd hsz hl hh (.inl ⟨rfl, rfl⟩) h4 hjr (Nat.le_refl _) (by simp)]
      refine ⟨_, rfl, .inr ⟨rfl, _, r - i, hF, ?_, by omega, ?_⟩⟩
      · by_cases e : r = i
        · rw [if_pos e]
          have : i = 0 := by omega
          simp [this]
        · rw [if_neg e]
          simp [addr_add, Nat.add_assoc]
      · simp only
        have e : ∀ n, (n - i * sz) / sz = n / sz - i := fun n => by rw [Nat.mul_comm, Nat.sub_mul_div]
        rw [hcap, ← e, Nat.sub_sub, Nat.add_assoc]
  · cases h

theorem allPtr_ok {ρ : Map} {t : List AV} {a : Act} (ht : TR ρ t a) : ∀ {l : List Operand} {m : List (Nat × Nat × Nat)}, allPtr t l = some m → All2 (RCap ρ) m (l.map a.eval)
  | [], m, h => by simp [allPtr] at h; subst h; trivial
  | x :: l, m, h => by
    unfold allPtr at h
    split at h
    · rename_i id idx off m' hc hm
      cases h
      rcases cellOf_ok ht hc with ⟨h0, _⟩ | ⟨_, F, hF, he⟩
      · cases h0
      · exact ⟨⟨F, hF, he⟩, allPtr_ok ht hm⟩
    · cases h

theorem cellsOf_ok {ρ : Map} {t : List AV} {a : Act} (ht : TR ρ t a) {x : Operand} {cs : List Cell} (h : cellsOf t x = some cs) : All2 (RC ρ) cs (a.eval x).cells.toList := by
  unfold cellsOf at h
  split at h
  · rename_i c hc
    cases h
    have hr : RC ρ c (a.eval x) := opnd_ok ht hc
    rw [hr.cells]
    exact ⟨hr, trivial⟩
  · rename_i cs' hc
    cases h
    obtain ⟨vs, e, hr⟩ : RV ρ (.agg cs) (a.eval x) := opnd_ok ht hc
    rw [e]
    exact hr
  · cases h

theorem partsA_ok {ρ : Map} {t : List AV} {a : Act} (ht : TR ρ t a) : ∀ {l : List (Nat × Operand)} {m : List (Nat × List Cell)}, partsA t l = some m →
    All2 (fun (p : Nat × List Cell) (q : Nat × Value) => p.1 = q.1 ∧ All2 (RC ρ) p.2 q.2.cells.toList) m (l.map fun (i, x) => (i, a.eval x))
  | [], m, h => by simp [partsA] at h; subst h; trivial
  | (i, x) :: l, m, h => by
    unfold partsA at h
    split at h
    · rename_i c m' hc hm
      cases h
      exact ⟨⟨rfl, cellsOf_ok ht hc⟩, partsA_ok ht hm⟩
    · cases h

/-- Laying one part over cells, one cell after the other. -/
theorem lay_eq (off : Nat) : ∀ (l : List Value) (s : Nat) (cs : Array Value), off + s + l.length ≤ cs.size →
    (l.zipIdx s).foldl (fun cs (c, j) => cs.setIfInBounds (off + j) c) cs = (cs.toList.take (off + s) ++ l ++ cs.toList.drop (off + s + l.length)).toArray
  | [], s, cs, h => by simp
  | v :: l, s, cs, h => by
    simp only [List.zipIdx_cons, List.foldl_cons]
    rw [lay_eq off l (s + 1) _ (by simp at h ⊢; omega)]
    have := list_seg_step cs.toList (off + s) v l (by simp at h ⊢; omega)
    congr 1
    simpa [Array.toList_setIfInBounds, Nat.add_assoc] using this

theorem fillA_ok {ρ : Map} {pl : Nat → Option (Nat × Nat)} : ∀ {ps : List (Nat × List Cell)} {qs : List (Nat × Value)} {cells out : List Cell} {vs : List Value},
    All2 (fun (p : Nat × List Cell) (q : Nat × Value) => p.1 = q.1 ∧ All2 (RC ρ) p.2 q.2.cells.toList) ps qs → All2 (RC ρ) cells vs → fillA pl cells ps = some out →
    ∃ us : List Value, Instr.fill pl vs.toArray qs = some us.toArray ∧ All2 (RC ρ) out us
  | [], [], cells, out, vs, _, hc, h => by simp [fillA] at h; subst h; exact ⟨vs, rfl, hc⟩
  | [], _ :: _, _, _, _, h0, _, _ => h0.elim
  | _ :: _, [], _, _, _, h0, _, _ => h0.elim
  | (i, c) :: ps, (i', v) :: qs, cells, out, vs, ⟨⟨hi, hv⟩, hrest⟩, hc, h => by
    simp only at hi hv
    subst hi
    unfold fillA at h
    split at h
    · cases h
    · rename_i off size hpl
      split at h
      · rename_i hb
        simp only [Bool.and_eq_true, beq_iff_eq, Nat.ble_eq] at hb
        obtain ⟨hb1, hb2⟩ := hb
        have hlv : v.cells.size = size := by rw [← hb1, hv.length]; simp
        have hlc : cells.length = vs.length := hc.length
        have hlen : off + v.cells.size ≤ vs.length := by rw [hlv, ← hb1, ← hlc]; exact hb2
        have hnew : All2 (RC ρ) (cells.take off ++ c ++ cells.drop (off + c.length)) (vs.take off ++ v.cells.toList ++ vs.drop (off + v.cells.size)) := by
          refine ((hc.take off).app hv).app ?_
          have := hc.drop (off + c.length)
          rwa [show off + c.length = off + v.cells.size by rw [hlv, hb1]] at this ⊢
        obtain ⟨us, hu, hr⟩ := fillA_ok hrest hnew h
        refine ⟨us, ?_, hr⟩
        rw [← hu]
        conv => lhs; unfold Instr.fill
        simp only [hpl]
        rw [if_neg (by simp [hlv]; omega)]
        congr 1
        have := lay_eq off v.cells.toList 0 vs.toArray (by simpa using hlen)
        simp only [Nat.add_zero, Array.length_toList] at this
        rw [← this, ← Array.foldl_toList, Array.toList_zipIdx]
      · cases h

theorem inRow_ok {place : Nat → Option (Nat × Nat)} : ∀ {ps : List (Nat × List Cell)} {off : Nat} {m : List Cell} {n : Nat} {cells : List Cell}, inRow place off ps = some (m, n) → n ≤ cells.length →
    n = off + m.length ∧ fillA place cells ps = some (cells.take off ++ m ++ cells.drop n)
  | [], off, m, n, cells, h, hn => by
    simp only [inRow, Option.some.injEq, Prod.mk.injEq] at h
    obtain ⟨rfl, rfl⟩ := h
    exact ⟨rfl, by simp [fillA]⟩
  | (i, v) :: ps, off, m, n, cells, h, hn => by
    unfold inRow at h
    split at h
    · cases h
    · rename_i o size hp
      split at h
      · rename_i hb
        rw [Bool.and_eq_true] at hb
        have e1 := Nat.eq_of_beq_eq_true hb.1
        have e2 := Nat.eq_of_beq_eq_true hb.2
        subst e1 e2
        split at h
        · rename_i m' n' hr
          simp only [Option.some.injEq, Prod.mk.injEq] at h
          obtain ⟨rfl, rfl⟩ := h
          have hle : ∀ {cells' : List Cell}, cells'.length = cells.length → n' ≤ cells'.length := fun e => by rw [e]; exact hn
          have h0 := (inRow_ok hr hn).1
          have hlen : (cells.take o ++ v ++ cells.drop (o + v.length)).length = cells.length := by simp; omega
          obtain ⟨h1, h2⟩ := inRow_ok hr (hle hlen)
          refine ⟨by rw [h1]; simp; omega, ?_⟩
          unfold fillA
          have hb2 : (v.length == v.length && Nat.ble (o + v.length) cells.length) = true := by
            simp only [Bool.and_eq_true, beq_self_eq_true, Nat.ble_eq, true_and]; omega
          simp only [hp, hb2, h2]
          congr 1
          have ht : (cells.take o ++ v ++ cells.drop (o + v.length)).take (o + v.length) = cells.take o ++ v := by
            rw [List.take_append_of_le_length (by simp; omega), List.take_of_length_le (by simp; omega)]
          have hd : (cells.take o ++ v ++ cells.drop (o + v.length)).drop n' = cells.drop n' := by
            rw [List.drop_append, List.drop_eq_nil_of_le (by simp; omega), List.nil_append, List.drop_drop]
            congr 1
            simp
            omega
          rw [ht, hd]
          simp
        · cases h
      · cases h

theorem fillQ_ok {place : Nat → Option (Nat × Nat)} {cells out : List Cell} {ps : List (Nat × List Cell)} (h : fillQ place cells ps = some out) : fillA place cells ps = some out := by
  unfold fillQ at h
  split at h
  · rename_i m n hr
    split at h
    · rename_i hb
      cases h
      have e := Nat.eq_of_beq_eq_true hb
      rw [(inRow_ok hr (by omega)).2, e]
      simp
    · exact h
  · exact h

theorem places_ok {P : Program} : ∀ {l : List Field}, sizesOk P l = true → ∃ places : List (Nat × Nat), l.mapM (fun f => (P.info? f.type).map fun i => (f.offset, i.size)) = some places ∧ ∀ i, places[i]? = fieldsA P l i
  | [], _ => ⟨[], by simp, fun i => by simp [fieldsA, nth_eq]⟩
  | f :: l, h => by
    unfold sizesOk at h
    split at h
    · rename_i n hn
      obtain ⟨pl, h1, h2⟩ := places_ok h
      have hi : ∃ it, P.info? f.type = some it ∧ it.size = n := by
        unfold sizeA at hn
        try simp only [nth_eq, setL_eq, und_eq, inf_eq] at hn
        split at hn
        · rename_i it hit; cases hn; exact ⟨it, hit, rfl⟩
        · cases hn
      obtain ⟨it, hit, hsz⟩ := hi
      refine ⟨(f.offset, n) :: pl, by simp [List.mapM_cons, hit, h1, hsz], fun i => ?_⟩
      cases i with
      | zero => simp [fieldsA, nth_eq, hn]
      | succ i => simpa [fieldsA, nth_eq] using h2 i
    · cases h

theorem zeroA_ok {ρ : Map} {P : Program} {t : TypeId} {z : List Cell} (h : zeroA P t = some z) : ∃ it v, P.info? t = some it ∧ it.zero = some v ∧ All2 (RC ρ) z v.cells.toList := by
  unfold zeroA at h
  try simp only [nth_eq, setL_eq, und_eq, inf_eq] at h
  split at h
  · rename_i it hit
    split at h
    · rename_i v hv
      exact ⟨it, v, hit, hv, ofVs_ok h⟩
    · cases h
  · cases h

theorem buildA_ok {ρ : Map} {P : Program} {w : World} {t : List AV} {a : Act} (ht : TR ρ t a) {ty : TypeId} {parts : Array (Nat × Operand)} {v : AV} (h : buildA P t ty parts.toList = some v) :
    ∃ r, (Instr.build ty (parts.map fun (i, x) => (i, a.eval x))).run P w = .ok r w ∧ RV ρ v r := by
  unfold buildA at h
  try simp only [nth_eq, setL_eq, und_eq, inf_eq] at h
  split at h
  · rename_i z fs ps hz hd hps
    obtain ⟨it, zv, hit, hzv, hzr⟩ := zeroA_ok (ρ := ρ) hz
    split at h
    · rename_i hok
      split at h
      · rename_i cs hcs
        cases h
        obtain ⟨pl, h1, h2⟩ := places_ok hok
        obtain ⟨us, hu, hr⟩ := fillA_ok (partsA_ok ht hps) hzr (fillQ_ok hcs)
        refine ⟨.agg us.toArray, ?_, us, rfl, hr⟩
        apply run_build
        have e : (fun i => pl.toArray[i]?) = fieldsA P fs.toList := by funext i; simpa using h2 i
        unfold Program.built
        simp only [hit, hd, hzv, h1, e]
        simpa using hu
      · cases h
    · cases h
  · rename_i z len elem ps hz hd hps
    obtain ⟨it, zv, hit, hzv, hzr⟩ := zeroA_ok (ρ := ρ) hz
    split at h
    · rename_i n hn
      split at h
      · rename_i cs hcs
        cases h
        obtain ⟨us, hu, hr⟩ := fillA_ok (partsA_ok ht hps) hzr (fillQ_ok hcs)
        refine ⟨.agg us.toArray, ?_, us, rfl, hr⟩
        apply run_build
        have hie : ∃ ie, P.info? elem = some ie ∧ ie.size = n := by
          unfold sizeA at hn
          try simp only [nth_eq, setL_eq, und_eq, inf_eq] at hn
          split at hn
          · rename_i it hit; cases hn; exact ⟨it, hit, rfl⟩
          · cases hn
        obtain ⟨ie, hie, hsz⟩ := hie
        unfold Program.built
        simp only [hit, hd, hzv, hie, hsz]
        simpa using hu
      · cases h
    · cases h
  · cases h

theorem lenA_ok {ρ : Map} {P : Program} {w : World} {ty rt : TypeId} {a : AV} {n : Int} (h : lenA P ty a = some n) {x : Value} (hx : RV ρ a x) : (Builtin.len_ #[ty] rt #[x]).run P w = .ok (.int .i64 n) w := by
  unfold lenA at h
  try simp only [nth_eq, setL_eq, und_eq, inf_eq] at h
  split at h
  · rename_i l hd
    cases h; cases hx
    have hs : (⟨l.toArray⟩ : ByteArray).size = l.length := List.size_toArray
    simp [Builtin.len_, equal_run P w _ _ hd, goInt, hs]
  · rename_i e nl id idx off len cap sz hd
    cases h
    rcases hx with ⟨_, rfl, rfl⟩ | ⟨_, F, r, _, rfl, _⟩ <;> simp [Builtin.len_, equal_run P w _ _ hd, goInt]
  · rename_i e hd
    cases h
    rcases hx with rfl | ⟨b, c, rfl⟩ <;> simp [Builtin.len_, equal_run P w _ _ hd, goInt]
  · rename_i k e hd
    cases h
    simp [Builtin.len_, equal_run P w _ _ hd, goInt]
  · cases h

theorem listA_ok {ρ : Map} {t : List AV} {a : Act} (ht : TR ρ t a) : ∀ {l : List Operand} {m : List Cell}, listA t l = some m → All2 (RC ρ) m (l.map a.eval)
  | [], m, h => by simp [listA] at h; subst h; trivial
  | x :: l, m, h => by
    unfold listA at h
    split at h
    · rename_i c m' hc hm
      cases h
      exact ⟨cellOf_ok ht hc, listA_ok ht hm⟩
    · cases h

theorem foldA_ok {ρ : Map} {P : Program} {w : World} {f : Cell → Cell → Option Cell} {g : Value → Value → Sem Value}
    (hfg : ∀ c d e v u, f c d = some e → RC ρ c v → RC ρ d u → ∃ r, (g v u).run P w = .ok r w ∧ RC ρ e r) :
    ∀ {l : List Cell} {vs : List Value} {c e : Cell} {v : Value}, All2 (RC ρ) l vs → RC ρ c v → foldA f c l = some e → ∃ r, (vs.foldlM g v).run P w = .ok r w ∧ RC ρ e r
  | [], [], c, e, v, _, hc, h => by simp [foldA] at h; subst h; exact ⟨v, rfl, hc⟩
  | [], _ :: _, _, _, _, h0, _, _ => h0.elim
  | _ :: _, [], _, _, _, h0, _, _ => h0.elim
  | x :: l, u :: vs, c, e, v, ⟨h1, h2⟩, hc, h => by
    unfold foldA at h
    split at h
    · rename_i y hy
      obtain ⟨r, hr, hrc⟩ := hfg c x y v u hy hc h1
      obtain ⟨r', hr', hrc'⟩ := foldA_ok hfg h2 hrc h
      exact ⟨r', by simp only [List.foldlM_cons, Sem.run_bind, hr, Result.andThen_ok, hr'], hrc'⟩
    · cases h

theorem minA_ok {ρ : Map} {P : Program} {w : World} (c d e : Cell) (v u : Value) (h : minA c d = some e) (hv : RC ρ c v) (hu : RC ρ d u) : ∃ r, (Builtin.min2 v u).run P w = .ok r w ∧ RC ρ e r := by
  unfold minA at h
  split at h
  · cases h; cases hv; cases hu; exact ⟨_, rfl, rfl⟩
  · cases h
theorem maxA_ok {ρ : Map} {P : Program} {w : World} (c d e : Cell) (v u : Value) (h : maxA c d = some e) (hv : RC ρ c v) (hu : RC ρ d u) : ∃ r, (Builtin.max2 v u).run P w = .ok r w ∧ RC ρ e r := by
  unfold maxA at h
  split at h
  · cases h; cases hv; cases hu; exact ⟨_, rfl, rfl⟩
  · cases h

/-- What a pure operation answers is what the model answers. -/
def PureOk (P : Program) (ρ : Map) (w : World) (a : Act) (o : Oper) (v : AV) : Prop := ∃ r, (execOp a.eval o).run P w = .ok (.value r) w ∧ RV ρ v r

theorem pure_of {P : Program} {ρ : Map} {w : World} {a : Act} {o : Oper} {v : AV} {s : Sem Value} (he : execOp a.eval o = (do pure (.value (← s)))) (h : ∃ r, s.run P w = .ok r w ∧ RV ρ v r) : PureOk P ρ w a o v := by
  obtain ⟨r, hr, hv⟩ := h
  exact ⟨r, by rw [he]; simp only [Sem.run_bind, hr, Result.andThen_ok]; rfl, hv⟩

section
variable {D : Type}

theorem pureA_ok {P : Program} {ρ : Map} {H : Heap D} {w : World} {t : List AV} {a : Act} (r : Rel ρ H w) (ht : TR ρ t a) {dec d : Dec} {o : Oper} {p : Cd} {v : AV}
    (h : pureA P H t dec o.op = some (p, v, d)) (hp : p) : PureOk P ρ w a o v := by
  obtain ⟨dst, op, type, pos, after, guard⟩ := o
  simp only at h
  cases op <;> simp only [pureA, nth_eq, und_eq, inf_eq, reduceCtorEq] at h
  case move x =>
    split at h
    · rename_i u hu; cases h; exact ⟨_, rfl, opnd_ok ht hu⟩
    · cases h
  case assign x =>
    split at h
    · rename_i u hu; cases h; exact ⟨_, rfl, opnd_ok ht hu⟩
    · cases h
  case pick c x y =>
    split at h
    · rename_i b d' hc
      split at h
      · rename_i u hu
        cases h
        have e : a.eval c = .bool b := cellOf_ok ht hc
        have hb : b = false := hp
        subst hb
        exact ⟨_, by simp [execOp, e, asBool], opnd_ok ht hu⟩
      · cases h
    · rename_i b n d' hc
      split at h
      · rename_i u hu
        cases h
        have e : a.eval c = .bool b := cellOf_ok ht hc
        have hb : b = true := hp
        subst hb
        exact ⟨_, by simp [execOp, e, asBool], opnd_ok ht hu⟩
      · cases h
    · cases h
  case nilCheck x =>
    split at h
    · rename_i nl id idx off hc
      cases h
      rcases cellOf_ok ht hc with ⟨h0, _⟩ | ⟨h1, F, hF, e⟩
      · have : nl = false := hp
        rw [h0] at this; cases this
      · exact ⟨_, by simp only [execOp, e]; rfl, .inr ⟨h1, F, hF, rfl⟩⟩
    · rename_i f caps hc
      cases h
      obtain ⟨vs, e, hvs⟩ := cellOf_ok ht hc
      exact ⟨_, by simp only [execOp, e]; rfl, vs, rfl, hvs⟩
    · cases h
  case binOp bop ty x y yt =>
    split at h
    · rename_i c1 c2 h1 h2
      split at h
      · rename_i q c3 h3
        cases h
        have e1 := cellOf_ok ht h1
        have e2 := cellOf_ok ht h2
        obtain ⟨u, hu, hru⟩ := binA_ok (w := w) h3 hp e1 e2
        refine pure_of (s := do eqGuard bop ty x y (a.eval x) (a.eval y); binOp bop ty (a.eval x) (a.eval y)) rfl ⟨u, ?_, hru⟩
        simp only [Sem.run_bind, eqGuard_ok P w bop ty x y e1.flat e2.flat, Result.andThen_ok, hu]
      · cases h
    · cases h
  case unOp uop ty x =>
    split at h
    · rename_i c1 h1
      split at h
      · rename_i c3 h3
        cases h
        exact pure_of rfl (unA_ok h3 (cellOf_ok ht h1))
      · cases h
    · cases h
  case convert s d x =>
    split at h
    · rename_i c1 h1
      split at h
      · rename_i c3 h3
        cases h
        exact pure_of rfl (convA_ok h3 (cellOf_ok ht h1))
      · cases h
    · cases h
  case extract x i =>
    split at h
    · rename_i l hl
      split at h
      · rename_i u hu
        cases h
        obtain ⟨vs, e, hvs⟩ : RV ρ (.tup l) (a.eval x) := opnd_ok ht hl
        obtain ⟨y, hy, hr⟩ := hvs.get hu
        refine pure_of (s := Instr.extract (a.eval x) i) rfl ⟨y, ?_, ?_⟩
        · simp [e, Instr.extract, hy]
        · cases u with
          | cell c => exact hr
          | agg cs => exact hr
      · cases h
    · cases h
  case field ty x f =>
    split at h
    · rename_i fs cs hd hx
      split at h
      · rename_i fd hfd
        split at h
        · rename_i u hu
          cases h
          obtain ⟨vs, e, hvs⟩ : RV ρ (.agg cs) (a.eval x) := opnd_ok ht hx
          obtain ⟨y, hy, hr⟩ := partA_ok (w := w) hu hvs
          refine pure_of (s := Instr.field ty (a.eval x) f) rfl ⟨y, ?_, hr⟩
          have hfd' : fs[f]? = some fd := by simpa using hfd
          simp only [Instr.field, Sem.run_bind, equal_run P w _ _ hd, Result.andThen_ok, hfd', e, asAgg, Sem.run_pure, hy]
        · cases h
      · cases h
    · cases h
  case index ty x i =>
    split at h
    · rename_i u k n hx hi
      have e : a.eval i = .int k n := cellOf_ok ht hi
      obtain ⟨y, hy, hr⟩ := indexA_ok (w := w) (k := k) h hp (opnd_ok ht hx)
      exact pure_of (s := Instr.index ty (a.eval x) (a.eval i)) rfl ⟨y, by rw [e]; exact hy, hr⟩
    · cases h
  case makeFunc fn first caps =>
    cases fn <;> simp only [pureA, nth_eq, und_eq, inf_eq, reduceCtorEq] at h
    rename_i f
    split at h
    · rename_i l h1 h2
      cases h
      have hf : first = #[] := by simpa using congrArg List.toArray h1
      subst hf
      refine ⟨_, rfl, (caps.toList.map a.eval), ?_, allPtr_ok ht h2⟩
      have e : Array.map a.eval caps = (List.map a.eval caps.toList).toArray := by apply Array.toList_inj.1; simp
      rw [e, Array.map_empty]
    · cases h
  case slice ty x lo hi mx =>
    split at h
    · rename_i l hd hx
      split at h
      · rename_i q i q' j h1 h2
        cases h
        obtain ⟨hq, hq', h3, h4⟩ := hp
        have e : a.eval x = .string ⟨l.toArray⟩ := cellOf_ok ht hx
        have b1 := natOf_ok ht h1 hq
        have b2 := natOf_ok ht h2 hq'
        refine pure_of (s := Instr.sliceAt ty (a.eval x) (lo.map a.eval) (hi.map a.eval) none) rfl ⟨_, ?_, rfl⟩
        have hsz : (⟨l.toArray⟩ : ByteArray).size = l.length := by simp [ByteArray.size]
        have hb := bounds_ok (P := P) (w := w) (b := false) (cap := l.length) (mx := none) b1 b2 (.inl ⟨rfl, rfl⟩) h3 h4 (Nat.le_refl _) (by simp)
        have hex : (⟨l.toArray⟩ : ByteArray).extract i j = ⟨((l.drop i).take (j - i)).toArray⟩ := by
          apply ByteArray.ext
          simp [ByteArray.data_extract, List.extract_eq_take_drop]
        simp only [Instr.sliceAt, Sem.run_bind, equal_run P w _ _ hd, Result.andThen_ok, Instr.slice, e, hsz, Option.isSome_none]
        simp [hb, hex]
      · cases h
    · rename_i el nl id idx off len cap sz hd hx
      split at h
      · rename_i size q i q' j q2 d' hsz h1 h2 h3
        split at h
        · rename_i s c hs
          cases h
          obtain ⟨hq, hq', hsp⟩ := hp
          have b1 := natOf_ok ht h1 hq
          have b2 := natOf_ok ht h2 hq'
          have e := cellOf_ok ht hx
          refine pure_of (s := Instr.sliceAt ty (a.eval x) (lo.map a.eval) (hi.map a.eval) ((none : Option Operand).map a.eval)) rfl ?_
          exact sliceB_ok r hd hsz e b1 b2 hs hsp
        · cases h
      · rename_i size q i q' j q'' m mode d' hsz h1 h2 h3
        split at h
        · rename_i s c hs
          cases h
          obtain ⟨hq, hq', hq'', hmx, hsp⟩ := hp
          have b1 := natOf_ok ht h1 hq
          have b2 := natOf_ok ht h2 hq'
          have e := cellOf_ok ht hx
          refine pure_of (s := Instr.sliceAt ty (a.eval x) (lo.map a.eval) (hi.map a.eval) (mx.map a.eval)) rfl ?_
          refine sliceA_ok hd hsz e b1 b2 ?_ hs hsp
          cases mx with
          | none => exact .inl ⟨rfl, rfl⟩
          | some y =>
            rcases natOf_ok ht h3 hq'' with ⟨hh, _⟩ | ⟨k, n, hh, hn, rfl⟩
            · simp at hh
            · exact .inr ⟨k, n, hh, hn, rfl, by simpa using hmx rfl⟩
        · cases h
      · cases h
    · rename_i el hd hx
      split at h
      · rename_i size q i q' j hsz h1 h2
        cases h
        obtain ⟨hq, hq', h3, h4⟩ := hp
        subst h3 h4
        have b1 := natOf_ok ht h1 hq
        have b2 := natOf_ok ht h2 hq'
        have e := cellOf_ok ht hx
        refine pure_of (s := Instr.sliceAt ty (a.eval x) (lo.map a.eval) (hi.map a.eval) none) rfl ?_
        rcases e with e | ⟨ad, c, e⟩
        · rw [e]
          exact ⟨_, sliceAt_slice (m := 0) hd hsz b1 b2 (.inl ⟨rfl, rfl⟩) (Nat.le_refl _) (Nat.le_refl _) (Nat.le_refl _) (by simp), .inl (by simp)⟩
        · rw [e]
          refine ⟨_, sliceAt_slice (m := c) hd hsz b1 b2 (.inl ⟨rfl, rfl⟩) (Nat.le_refl _) (Nat.zero_le _) (Nat.le_refl _) (by simp), .inr ?_⟩
          split
          · exact ⟨_, _, rfl⟩
          · exact ⟨_, _, rfl⟩
      · cases h
    · rename_i n el nl id idx off hd hx
      split at h
      · rename_i size hsz
        cases h
        obtain ⟨h0, h1⟩ := hp
        rcases cellOf_ok ht hx with ⟨h2, _⟩ | ⟨_, F, hF, e⟩
        · rw [h0] at h2; cases h2
        · refine pure_of (s := Instr.sliceAt ty (a.eval x) none none none) rfl ⟨_, ?_, .inr ⟨rfl, F, n, hF, rfl, Nat.le_refl _, rfl⟩⟩
          have hb := bounds_ok (P := P) (w := w) (b := false) (len := n) (cap := n) (lo := none) (hi := none) (mx := none) (.inl ⟨rfl, rfl⟩) (.inl ⟨rfl, rfl⟩) (.inl ⟨rfl, rfl⟩) (Nat.zero_le _) (Nat.le_refl _) (Nat.le_refl _) (by simp)
          simp only [Instr.sliceAt, Sem.run_bind, equal_run P w _ _ hd, Result.andThen_ok, e, Instr.sureAddr, Sem.run_pure, hb, sizeA_ok (w := w) hsz]
          rw [if_neg (by omega)]
          simp [addr_add]
      · cases h
    · cases h
  case fieldAddr s x f =>
    split at h
    · rename_i fs nl id idx off hd hx
      split at h
      · rename_i fd hfd
        split at h
        · rename_i n hsz
          cases h
          rcases cellOf_ok ht hx with ⟨h2, _⟩ | ⟨_, F, hF, e⟩
          · have : nl = false := hp
            rw [h2] at this; cases this
          · refine pure_of (s := Instr.fieldAt s (a.eval x) f) rfl ⟨_, ?_, .inr ⟨rfl, F, hF, rfl⟩⟩
            have hfd' : fs[f]? = some fd := by simpa using hfd
            simp only [Instr.fieldAt, Sem.run_bind, equal_run P w _ _ hd, Result.andThen_ok, hfd', e, Instr.sureAddr, Sem.run_pure, fieldPlace, sizeA_ok (w := w) hsz]
            simp [addr_add, Nat.add_assoc]
        · cases h
      · cases h
    · cases h
  case indexAddr ty x i =>
    split at h
    · rename_i el nl id idx off len cap sz k n hd hx hi
      split at h
      · rename_i size hsz
        cases h
        obtain ⟨h0, h1, h2⟩ := hp
        have ei : a.eval i = .int k n := cellOf_ok ht hi
        rcases cellOf_ok ht hx with ⟨h3, _⟩ | ⟨_, F, rr, hF, e, hrr, hcap⟩
        · rw [h0] at h3; cases h3
        · refine pure_of (s := Instr.indexAt ty (a.eval x) (a.eval i)) rfl ⟨_, ?_, .inr ⟨rfl, F, hF, rfl⟩⟩
          simp only [Instr.indexAt, Sem.run_bind, equal_run P w _ _ hd, Result.andThen_ok, e, ei, asIntOf, Sem.run_pure]
          simp [h1, h2, sizeA_ok (w := w) hsz, addr_add, Nat.add_assoc]
      · cases h
    · rename_i len el nl id idx off k n hd hx hi
      split at h
      · rename_i size hsz
        cases h
        obtain ⟨h0, h1, h2⟩ := hp
        have ei : a.eval i = .int k n := cellOf_ok ht hi
        rcases cellOf_ok ht hx with ⟨h3, _⟩ | ⟨_, F, hF, e⟩
        · rw [h0] at h3; cases h3
        · refine pure_of (s := Instr.indexAt ty (a.eval x) (a.eval i)) rfl ⟨_, ?_, .inr ⟨rfl, F, hF, rfl⟩⟩
          simp only [Instr.indexAt, Sem.run_bind, equal_run P w _ _ hd, Result.andThen_ok, e, ei, asIntOf, Sem.run_pure, Instr.sureAddr]
          simp [h1, h2, sizeA_ok (w := w) hsz, addr_add, Nat.add_assoc]
      · cases h
    · cases h
  case load ty x =>
    split at h
    · rename_i nl id idx off ag n hx hag hsz
      split at h
      · rename_i own live c hc
        split at h
        · rename_i q cs d' hg
          split at h
          · rename_i u hu
            cases h
            obtain ⟨h0, h1, h2⟩ := hp
            obtain ⟨num, cc, F, hb, rfl, hlt, hF, hwf, hat, _⟩ := contAt_ok r hc h1
            rcases cellOf_ok ht hx with ⟨h3, _⟩ | ⟨_, F', hF', e⟩
            · rw [h0] at h3; cases h3
            · rw [hF] at hF'
              cases hF'
              obtain ⟨y, hy, hr⟩ := loadVar_ok (P := P) hat hag hsz hg h2 hu
              refine pure_of (s := Instr.loadAt ty (a.eval x)) rfl ⟨y, ?_, hr⟩
              simp only [Instr.loadAt, Sem.run_bind, e, Instr.sureAddr, Sem.run_pure, Result.andThen_ok, hy]
          · cases h
        · cases h
      · cases h
    · cases h
  case build ty parts =>
    split at h
    · rename_i u hu
      cases h
      exact pure_of rfl (buildA_ok ht hu)
    · cases h
  case call c =>
    obtain ⟨callee, args, argTypes⟩ := c
    simp only at h
    split at h
    · split at h
      · rename_i x ty h1 h2
        split at h
        · rename_i u hu
          split at h
          · rename_i n hn
            cases h
            have e1 : args = #[x] := by simpa using congrArg List.toArray h1
            have e2 : argTypes = #[ty] := by simpa using congrArg List.toArray h2
            subst e1 e2
            refine ⟨_, ?_, rfl⟩
            have := lenA_ok (w := w) (rt := type) hn (opnd_ok ht hu)
            simp [execOp, resolve, invoke, builtin, this]
          · cases h
        · cases h
      · cases h
    · split at h
      · rename_i x l hl
        split at h
        · rename_i y hy
          cases h
          have hc := listA_ok ht hl
          cases ha : args.toList with
          | nil => rw [ha] at hc; exact hc.elim
          | cons z zs =>
            rw [ha] at hc
            obtain ⟨u, hu, hr⟩ := foldA_ok (P := P) (w := w) minA_ok hc.2 hc.1 hy
            refine ⟨u, ?_, hr⟩
            have e : args = (z :: zs).toArray := by simpa using congrArg List.toArray ha
            subst e
            simp [execOp, resolve, invoke, builtin, Builtin.min_, hu]
        · cases h
      · cases h
    · split at h
      · rename_i x l hl
        split at h
        · rename_i y hy
          cases h
          have hc := listA_ok ht hl
          cases ha : args.toList with
          | nil => rw [ha] at hc; exact hc.elim
          | cons z zs =>
            rw [ha] at hc
            obtain ⟨u, hu, hr⟩ := foldA_ok (P := P) (w := w) maxA_ok hc.2 hc.1 hy
            refine ⟨u, ?_, hr⟩
            have e : args = (z :: zs).toArray := by simpa using congrArg List.toArray ha
            subst e
            simp [execOp, resolve, invoke, builtin, Builtin.max_, hu]
        · cases h
      · cases h
    · cases h
end
end Go.Proofs.Ytnoonoghemgbbaa.Sx

/-
  A symbolic evaluator over the model's code: part 7: operations that turn memory: what they do to an abstract heap.
-/
set_option linter.unusedVariables false
set_option linter.unusedSimpArgs false
namespace Go.Proofs.Ytnoonoghemgbbaa.Sx
open Go
noncomputable section

instance (cap : Option Nat) (x : Nat) : Decidable (match cap with | some c => c < x | none => False) :=
  match cap with
  | some c => inferInstanceAs (Decidable (c < x))
  | none => isFalse id
instance (cap : Option Nat) (x : Nat) : Decidable (match cap with | some c => x ≤ c | none => True) :=
  match cap with
  | some c => inferInstanceAs (Decidable (x ≤ c))
  | none => isTrue trivial

def toInts (k : IntKind) : List Cell → Option (List Int) := colInts k

def Cont.put (c : Cont) (off : Nat) (xs : List Cell) : Option (Cd × Cont) :=
  match c with
  | .raw cs => match Nat.ble (off + xs.length) cs.length with
    | true => some (cd True, .raw (cs.take off ++ xs ++ cs.drop (off + xs.length)))
    | false => none
  | .ints k l => match xs with
    | [.int k' n] => match kindEq k k' with
      | true => some (cd (off < l.length), .ints k (l.set off n))
      | false => none
    | _ => none
  | .fam _ _ _ => none

def Cont.sub (c : Cont) (off n : Nat) : Option (Cd × Cont) :=
  match c with
  | .raw cs => match Nat.ble (off + n) cs.length with
    | true => some (cd True, .raw ((cs.drop off).take n))
    | false => none
  | .ints k l => some (cd (off + n ≤ l.length), .ints k ((l.drop off).take n))
  | .fam m sz f => some (cd (off % sz = 0 ∧ n % sz = 0 ∧ off + n ≤ m * sz ∧ 0 < sz), .fam (n / sz) sz fun i => f (off / sz + i))

def Cont.cat : Cont → Cont → Option Cont
  | .raw [], c => some c
  | c, .raw [] => some c
  | .raw a, .raw b => some (.raw (a ++ b))
  | .ints k l, .ints k' m => match kindEq k k' with
    | true => some (.ints k (l ++ m))
    | false => none
  | .ints k l, .raw b => match toInts k b with
    | some m => some (.ints k (l ++ m))
    | none => none
  | .raw a, .ints k m => match toInts k a with
    | some l => some (.ints k (l ++ m))
    | none => none
  | _, _ => none

/-- Cells of a block become others, of the same number. -/
def Cont.over (c : Cont) (off : Nat) (x : Cont) : Option (Cd × Cont) :=
  match c, x with
  | .raw cs, .raw xs => match Nat.ble (off + xs.length) cs.length with
    | true => some (cd True, .raw (cs.take off ++ xs ++ cs.drop (off + xs.length)))
    | false => none
  | .ints k l, .ints k' m => match kindEq k k' with
    | true => some (cd (off + m.length ≤ l.length), .ints k (l.take off ++ m ++ l.drop (off + m.length)))
    | false => none
  | .ints k l, .raw xs => match toInts k xs with
    | some m => some (cd (off + m.length ≤ l.length), .ints k (l.take off ++ m ++ l.drop (off + m.length)))
    | none => none
  | _, _ => none

/-- Zeros: n elements of zero cells z. -/
def zerosA (z : List Cell) (n : Nat) : Cont :=
  match z with
  | [.int k x] => .ints k (List.replicate n x)
  | z => .fam n z.length fun _ => z

def repA (z : List Cell) : Nat → List Cell
  | 0 => []
  | n + 1 => z ++ repA z n

/-- Where the elements of a slice, or the bytes of a text, come from: the condition, the cells, how many elements. -/
def srcA {D : Type} (H : Heap D) (size : Nat) : Cell → Option (Cd × Cont × Nat)
  | .slice nl id idx off len _ sz => match contAt H id idx with
    | some (_, live, c) => match c.sub off (len * size) with
      | some (p, c') => some (cand (cd (nl = true ∨ sz = size)) (cand live p), c', len)
      | none => none
    | none => some (cd (nl = true), .raw [], 0)
  | .empty => some (cd True, .raw [], 0)
  | .str l => some (cd (size = 1), .ints .u8 (l.map fun b => (b.toNat : Int)), l.length)
  | _ => none

def bytesA (P : Program) (t : TypeId) : Option Nat :=
  match inf P t with
  | some i => some i.bytes
  | none => none

abbrev MR (D : Type) := Option (Cd × AV × Heap D × Nat × Dec)

def appendA {D : Type} (P : Program) (H : Heap D) (ty : TypeId) (s x : Cell) (dec : Dec) : MR D :=
  match und P ty with
  | some (.slice e) => match sizeA P e, bytesA P e, zeroA P e with
    | some size, some bytes, some z => match srcA H size x with
      | some (p, cx, n) => match dec, s with
        | 0 :: d, .slice nl id idx off len cap sz => match srcA H size (.slice nl id idx off len cap sz) with
          | some (q, cs, _) => match cs.cat cx with
            | some c => some (cand p (cand q (cd (z.length = size ∧ 0 < size ∧ (len + n) * bytes ≤ 140737488355328 ∧ (len + n) ≤ 9223372036854775807 ∧
                ((nl = true ∧ 0 < n) ∨ (nl = false ∧ (match cap with | some c => c < len + n | none => False)))))),
                .cell (.slice false H.length 0 0 (len + n) none size), H ++ [some (.cells true 1 fun _ => c)], H.length, d)
            | none => none
          | none => none
        | 1 :: d, .slice nl id idx off len cap sz => some (cand p (cd (n = 0)), .cell (.slice nl id idx off len cap sz), H, H.length, d)
        | 1 :: d, .empty => some (cand p (cd (n = 0)), .cell .empty, H, H.length, d)
        | 2 :: d, .slice nl id 0 off len none sz => match nth H id with
          | some (some (.cells true 1 cc)) => match (cc 0).sub off (len * size) with
            | some (q, cs) => match cs.cat cx with
              | some c => some (cand p (cand q (cd (nl = false ∧ sz = size ∧ z.length = size ∧ 0 < size ∧ (len + n) * bytes ≤ 140737488355328 ∧ (len + n) ≤ 9223372036854775807))),
                  .cell (.slice false H.length 0 0 (len + n) none size), setL H id none ++ [some (.cells true 1 fun _ => c)], id, d)
              | none => none
            | none => none
          | _ => none
        | 3 :: d, .slice nl id idx off len cap sz => match nth H id with
          | some (some (.cells true num cc)) => match (cc idx).over (off + len * size) cx with
            | some (q, c) => some (cand p (cand q (cd (nl = false ∧ sz = size ∧ idx < num ∧ 0 < size ∧ off + (len + n) * size ≤ (cc idx).len ∧ (match cap with | some k => len + n ≤ k | none => True)))),
                .cell (.slice nl id idx off (len + n) cap sz), setL H id (some (.cells true num (upd num cc idx c))), id, d)
            | none => none
          | _ => none
        | _, _ => none
      | none => none
    | _, _, _ => none
  | _ => none

def copyA {D : Type} (P : Program) (H : Heap D) (ty : TypeId) (s x : Cell) (dec : Dec) : MR D :=
  match und P ty with
  | some (.slice e) => match sizeA P e with
    | some size => match srcA H size x with
      | some (p, cx, n) => match dec, s with
        | 0 :: d, .slice _ _ _ _ len _ _ => some (cand p (cd (Nat.min n len = 0)), .cell (.int .i64 0), H, H.length, d)
        | 1 :: d, .slice nl id idx off len _ sz => match nth H id with
          | some (some (.cells true num cc)) => match cx.sub 0 (Nat.min n len * size) with
            | some (r, cy) => match (cc idx).over off cy with
              | some (q, c) => some (cand p (cand q (cand r (cd (nl = false ∧ sz = size ∧ idx < num)))),
                  .cell (.int .i64 (Nat.min n len)), setL H id (some (.cells true num (upd num cc idx c))), id, d)
              | none => none
            | none => none
          | _ => none
        | _, _ => none
      | none => none
    | none => none
  | _ => none

def clearA {D : Type} (P : Program) (H : Heap D) (ty : TypeId) (s : Cell) (dec : Dec) : MR D :=
  match und P ty with
  | some (.slice e) => match zeroA P e with
    | some z => match dec, s with
      | 0 :: d, .slice _ _ _ _ len _ _ => some (cd (len = 0), undefA, H, H.length, d)
      | 1 :: d, .slice nl id idx off len _ _ => match nth H id, z with
        | some (some (.cells true num cc)), [.int k x] => match (cc idx).over off (.ints k (List.replicate len x)) with
          | some (q, c) => some (cand q (cd (nl = false ∧ idx < num ∧ 0 < len)), undefA, setL H id (some (.cells true num (upd num cc idx c))), id, d)
          | none => none
        | _, _ => none
      | _, _ => none
    | none => none
  | _ => none

def isSl : Cell → Bool
  | .slice _ _ _ _ _ _ _ => true
  | .empty => true
  | _ => false

def memA {D : Type} (P : Program) (H : Heap D) (t : List AV) (dec : Dec) : Op → MR D
  | .alloc e => match zeroA P e with
    | some z => some (cd True, .cell (.ptr false H.length 0 0), H ++ [some (.cells true 1 fun _ => .raw z)], H.length, dec)
    | none => none
  | .box _ x => match cellsOf t x with
    | some z => some (cd True, .cell (.ptr false H.length 0 0), H ++ [some (.cells true 1 fun _ => .raw z)], H.length, dec)
    | none => none
  | .buildSlice ty len parts => match und P ty with
    | some (.slice e) => match sizeA P e, zeroA P e, partsA t parts.toList with
      | some n, some z, some ps => match fillA (fun i => some (i * n, n)) (repA z len) ps with
        | some cs => some (cd (len * n ≤ 16777216 ∧ z.length = n ∧ 0 < n), .cell (.slice false H.length 0 0 len (some len) n), H ++ [some (.cells true 1 fun _ => .raw cs)], H.length, dec)
        | none => none
      | _, _, _ => none
    | _ => none
  | .makeSlice ty l c => match und P ty, cellOf t l, cellOf t c with
    | some (.slice e), some (.int _ ln), some (.int _ cp) => match sizeA P e, bytesA P e, zeroA P e with
      | some n, some b, some z => some (cd (0 ≤ ln ∧ ln ≤ cp ∧ b * cp ≤ 281474976710656 ∧ cp ≤ 9223372036854775807 ∧ z.length = n ∧ 0 < n),
          .cell (.slice false H.length 0 0 ln.toNat (some cp.toNat) n), H ++ [some (.cells true 1 fun _ => zerosA z cp.toNat)], H.length, dec)
      | _, _, _ => none
    | _, _, _ => none
  | .store ty a x => match cellOf t a, cellsOf t x, sizeA P ty with
    | some (.ptr nl id idx off), some xs, some n => match nth H id with
      | some (some (.cells true num cc)) => match (cc idx).put off xs with
        | some (p, c) => some (cand (cd (nl = false ∧ idx < num ∧ xs.length = n)) p, undefA, setL H id (some (.cells true num (upd num cc idx c))), id, dec)
        | none => none
      | _ => none
    | _, _, _ => none
  | .convert s d x => match und P s, und P d, cellOf t x with
    | some .string, some (.slice e), some (.str l) => match und P e with
      | some (.int .u8) => some (cd ((l.length : Int) ≤ 9223372036854775807), .cell (.slice false H.length 0 0 l.length none 1), H ++ [some (.cells true 1 fun _ => .ints .u8 (l.map fun b => (b.toNat : Int)))], H.length, dec)
      | _ => none
    | some (.slice e), some .string, some c => match und P e, srcA H 1 c, isSl c with
      | some (.int .u8), some (p, .ints .u8 l, n), true => some (cand p (cd (l.length = n)), .cell (.str (l.map fun n => UInt8.ofNat n.toNat)), H, H.length, dec)
      | some (.int .u8), some (p, .raw cs, n), true => match toInts .u8 cs with
        | some l => some (cand p (cd (l.length = n)), .cell (.str (l.map fun n => UInt8.ofNat n.toNat)), H, H.length, dec)
        | none => none
      | _, _, _ => none
    | _, _, _ => none
  | .call c => match c.callee, c.args.toList, c.argTypes.toList with
    | .builtin .append, [s, x], [ty, tx] => match cellOf t s, cellOf t x, und P tx with
      | some sc, some xc, some (.slice _) => appendA P H ty sc xc dec
      | some sc, some (.str l), some .string => appendA P H ty sc (.str l) dec
      | _, _, _ => none
    | .builtin .copy, [s, x], [ty, _] => match cellOf t s, cellOf t x with
      | some sc, some xc => copyA P H ty sc xc dec
      | _, _ => none
    | .builtin .clear, [s], [ty] => match cellOf t s with
      | some sc => clearA P H ty sc dec
      | none => none
    | _, _, _ => none
  | _ => none
end
end Go.Proofs.Ytnoonoghemgbbaa.Sx
