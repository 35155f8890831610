/-
  A symbolic evaluator over the model's code: part 15: what is shown over a small heap holds over every heap that it is a part of.
-/
import Derived.Test.YtnoonoghemgbbaaSx14
set_option linter.unusedVariables false
set_option linter.unusedSimpArgs false
namespace Go.Proofs.Ytnoonoghemgbbaa.Sx
open Go
noncomputable section

/-- Where block i of the small heap lies in the great one; new blocks come behind the great one's. -/
def rid (θ : List Nat) (n i : Nat) : Nat :=
  match θ[i]? with
  | some j => j
  | none => match Nat.ble 1000000000 i with
    | true => i
    | false => n + (i - θ.length)

def renC (f : Nat → Nat) : Cell → Cell
  | .ptr nl id idx off => .ptr nl (f id) idx off
  | .slice nl id idx off len cap sz => .slice nl (f id) idx off len cap sz
  | .func g caps => .func g (caps.map fun p => (f p.1, p.2))
  | .map nl id idx => .map nl (f id) idx
  | .yld id => .yld (f id)
  | .bool b => .bool b
  | .int k n => .int k n
  | .str l => .str l
  | .empty => .empty
  | .nilFunc => .nilFunc
  | .anyp => .anyp

def ren1 (f : Nat → Nat) : AV1 → AV1
  | .cell c => .cell (renC f c)
  | .agg cs => .agg (cs.map (renC f))

def renV (f : Nat → Nat) : AV → AV
  | .cell c => .cell (renC f c)
  | .agg cs => .agg (cs.map (renC f))
  | .tup l => .tup (l.map (ren1 f))
  | .junk => .junk

def renCont (f : Nat → Nat) : Cont → Cont
  | .raw cs => .raw (cs.map (renC f))
  | .ints k l => .ints k l
  | .fam n sz g => .fam n sz fun i => (g i).map (renC f)

def renO (f : Nat → Nat) : Ob → Ob
  | .map es => .map (es.map fun e => (ren1 f e.1, ren1 f e.2))
  | .iter s pos => .iter s pos
  | .loop st pend => .loop st pend
  | .ab d => .ab d

def renB {D : Type} (f : Nat → Nat) : Blk D → Blk D
  | .cells own num c => .cells own num fun i => renCont f (c i)
  | .obj o => .obj (renO f o)

def GoesBy (f : Nat → Nat) (ρ ρ' : Map) : Prop := ∀ (i : Nat) (F : Nat → Loc), ρ[i]? = some F → ∃ F', ρ'[f i]? = some F' ∧ Lo F F'

theorem RCap.ren {f : Nat → Nat} {ρ ρ' : Map} (g : GoesBy f ρ ρ') {p : Nat × Nat × Nat} {v : Value} : RCap ρ p v → RCap ρ' (f p.1, p.2) v
  | ⟨F, h, e⟩ =>
    let ⟨F', h', l⟩ := g _ _ h
    ⟨F', h', by rw [(l _).1, (l _).2.1]; exact e⟩

theorem RC.ren {f : Nat → Nat} {ρ ρ' : Map} (g : GoesBy f ρ ρ') {c : Cell} {v : Value} (h : RC ρ c v) : RC ρ' (renC f c) v := by
  cases c with
  | ptr nl id idx off =>
    rcases h with h | ⟨h1, F, h2, h3⟩
    · exact .inl h
    · obtain ⟨F', h', l⟩ := g _ _ h2
      exact .inr ⟨h1, F', h', by rw [(l _).1, (l _).2.1]; exact h3⟩
  | slice nl id idx off len cap sz =>
    rcases h with h | ⟨h1, F, r, h2, h3, h4, h5⟩
    · exact .inl h
    · obtain ⟨F', h', l⟩ := g _ _ h2
      refine .inr ⟨h1, F', r, h', by rw [(l _).1, (l _).2.1]; exact h3, h4, ?_⟩
      rw [(l _).2.1, (l _).2.2.1]; exact h5
  | func f' caps =>
    obtain ⟨vs, e, h⟩ := h
    refine ⟨vs, e, ?_⟩
    clear e
    induction caps generalizing vs with
    | nil => cases vs with
      | nil => trivial
      | cons _ _ => exact h.elim
    | cons p caps ih => cases vs with
      | nil => exact h.elim
      | cons v vs => exact ⟨RCap.ren g h.1, ih vs h.2⟩
  | map nl id idx =>
    rcases h with h | ⟨h1, F, h2, h3⟩
    · exact .inl h
    · obtain ⟨F', h', l⟩ := g _ _ h2
      exact .inr ⟨h1, F', h', by rw [(l _).1]; exact h3⟩
  | yld id =>
    obtain ⟨F, h2, h3⟩ := h
    obtain ⟨F', h', l⟩ := g _ _ h2
    exact ⟨F', h', by rw [(l _).1]; exact h3⟩
  | bool b => exact h
  | int k n => exact h
  | str l => exact h
  | empty => exact h
  | nilFunc => exact h
  | anyp => exact h

theorem RC.unren {f : Nat → Nat} {ρ ρ' : Map} (g : ∀ (i : Nat) (F : Nat → Loc), ρ'[f i]? = some F → ρ[i]? = some F) {c : Cell} {v : Value} (h : RC ρ' (renC f c) v) : RC ρ c v := by
  cases c with
  | ptr nl id idx off =>
    rcases h with h | ⟨h1, F, h2, h3⟩
    · exact .inl h
    · exact .inr ⟨h1, F, g _ _ h2, h3⟩
  | slice nl id idx off len cap sz =>
    rcases h with h | ⟨h1, F, r, h2, h3⟩
    · exact .inl h
    · exact .inr ⟨h1, F, r, g _ _ h2, h3⟩
  | func f' caps =>
    obtain ⟨vs, e, h⟩ := h
    refine ⟨vs, e, ?_⟩
    clear e
    induction caps generalizing vs with
    | nil => cases vs with
      | nil => trivial
      | cons _ _ => exact h.elim
    | cons p caps ih => cases vs with
      | nil => exact h.elim
      | cons v vs =>
        obtain ⟨⟨F, hF, he⟩, h2⟩ := h
        exact ⟨⟨F, g _ _ hF, he⟩, ih vs h2⟩
  | map nl id idx =>
    rcases h with h | ⟨h1, F, h2, h3⟩
    · exact .inl h
    · exact .inr ⟨h1, F, g _ _ h2, h3⟩
  | yld id => obtain ⟨F, h2, h3⟩ := h; exact ⟨F, g _ _ h2, h3⟩
  | bool b => exact h
  | int k n => exact h
  | str l => exact h
  | empty => exact h
  | nilFunc => exact h
  | anyp => exact h

theorem All2.map_left {α β γ : Type} {R : α → β → Prop} {S : γ → β → Prop} {f : α → γ} (h : ∀ a b, R a b → S (f a) b) : ∀ {l : List α} {m : List β}, All2 R l m → All2 S (l.map f) m
  | [], [], _ => trivial
  | _ :: _, _ :: _, ⟨h1, h2⟩ => ⟨h _ _ h1, All2.map_left h h2⟩
  | [], _ :: _, h0 => h0.elim
  | _ :: _, [], h0 => h0.elim
theorem All2.unmap_left {α β γ : Type} {R : α → β → Prop} {S : γ → β → Prop} {f : α → γ} (h : ∀ a b, S (f a) b → R a b) : ∀ {l : List α} {m : List β}, All2 S (l.map f) m → All2 R l m
  | [], [], _ => trivial
  | _ :: _, _ :: _, ⟨h1, h2⟩ => ⟨h _ _ h1, All2.unmap_left h h2⟩
  | [], _ :: _, h0 => h0.elim
  | _ :: _, [], h0 => h0.elim

theorem R1.ren {f : Nat → Nat} {ρ ρ' : Map} (g : GoesBy f ρ ρ') {c : AV1} {v : Value} (h : R1 ρ c v) : R1 ρ' (ren1 f c) v := by
  cases c with
  | cell c => exact RC.ren g h
  | agg cs => obtain ⟨vs, e, h⟩ := h; exact ⟨vs, e, All2.map_left (f := renC f) (fun _ _ => RC.ren g) h⟩

theorem RV.ren {f : Nat → Nat} {ρ ρ' : Map} (g : GoesBy f ρ ρ') {c : AV} {v : Value} (h : RV ρ c v) : RV ρ' (renV f c) v := by
  cases c with
  | cell c => exact RC.ren g h
  | agg cs => obtain ⟨vs, e, h⟩ := h; exact ⟨vs, e, All2.map_left (f := renC f) (fun _ _ => RC.ren g) h⟩
  | tup l => obtain ⟨vs, e, h⟩ := h; exact ⟨vs, e, All2.map_left (f := ren1 f) (fun _ _ => R1.ren g) h⟩
  | junk => trivial

theorem R1.unren {f : Nat → Nat} {ρ ρ' : Map} (g : ∀ (i : Nat) (F : Nat → Loc), ρ'[f i]? = some F → ρ[i]? = some F) {c : AV1} {v : Value} (h : R1 ρ' (ren1 f c) v) : R1 ρ c v := by
  cases c with
  | cell c => exact RC.unren g h
  | agg cs => obtain ⟨vs, e, h⟩ := h; exact ⟨vs, e, All2.unmap_left (f := renC f) (fun _ _ => RC.unren g) h⟩

theorem RV.unren {f : Nat → Nat} {ρ ρ' : Map} (g : ∀ (i : Nat) (F : Nat → Loc), ρ'[f i]? = some F → ρ[i]? = some F) {c : AV} {v : Value} (h : RV ρ' (renV f c) v) : RV ρ c v := by
  cases c with
  | cell c => exact RC.unren g h
  | agg cs => obtain ⟨vs, e, h⟩ := h; exact ⟨vs, e, All2.unmap_left (f := renC f) (fun _ _ => RC.unren g) h⟩
  | tup l => obtain ⟨vs, e, h⟩ := h; exact ⟨vs, e, All2.unmap_left (f := ren1 f) (fun _ _ => R1.unren g) h⟩
  | junk => trivial

theorem renCont_len (f : Nat → Nat) (c : Cont) : (renCont f c).len = c.len := by cases c <;> simp [renCont, Cont.len]
theorem renCont_wf {f : Nat → Nat} {c : Cont} : (renCont f c).wf ↔ c.wf := by cases c <;> simp [renCont, Cont.wf]
theorem renCont_at {f : Nat → Nat} {c : Cont} {j : Nat} {x : Cell} (h : c.At j x) : (renCont f c).At j (renC f x) := by
  cases c with
  | raw cs =>
    have h' : cs[j]? = some x := h
    show (cs.map (renC f))[j]? = _
    rw [List.getElem?_map, h']; rfl
  | ints k l => obtain ⟨n, hn, rfl⟩ := h; exact ⟨n, hn, rfl⟩
  | fam n sz g =>
    obtain ⟨i, s, h1, h2, h3, h4⟩ := h
    exact ⟨i, s, h1, h2, h3, by rw [List.getElem?_map, h4]; rfl⟩
theorem renCont_of {f : Nat → Nat} {c : Cont} {j : Nat} {y : Cell} (h : (renCont f c).At j y) : ∃ x, c.At j x ∧ y = renC f x := by
  cases c with
  | raw cs =>
    have h' : (cs.map (renC f))[j]? = some y := h
    rw [List.getElem?_map] at h'
    cases hx : cs[j]? with
    | none => rw [hx] at h'; cases h'
    | some x => rw [hx] at h'; exact ⟨x, hx, by simpa using h'.symm⟩
  | ints k l => obtain ⟨n, hn, rfl⟩ := h; exact ⟨_, ⟨n, hn, rfl⟩, rfl⟩
  | fam n sz g =>
    obtain ⟨i, s, h1, h2, h3, h4⟩ := h
    rw [List.getElem?_map] at h4
    cases hx : (g i)[s]? with
    | none => rw [hx] at h4; cases h4
    | some x => rw [hx] at h4; exact ⟨x, ⟨i, s, h1, h2, h3, hx⟩, by simpa using h4.symm⟩

section
variable {D : Type}

theorem renB_own (f : Nat → Nat) (b : Blk D) : (renB f b).own = b.own := by cases b <;> rfl
theorem renB_live (f : Nat → Nat) (b : Blk D) (idx : Nat) : (renB f b).live idx ↔ b.live idx := by cases b <;> exact Iff.rfl

theorem ObAt.ren {f : Nat → Nat} {ρ ρ' : Map} (g : GoesBy f ρ ρ') {w : World} {L : Nat → Loc} {o : Ob} (h : ObAt ρ w L o) : ObAt ρ' w L (renO f o) := by
  cases o with
  | map es =>
    obtain ⟨arr, clock, h1, h2, h3⟩ := h
    exact ⟨arr, clock, h1, All2.map_left (f := fun e : AV1 × AV1 => (ren1 f e.1, ren1 f e.2)) (fun _ _ h => ⟨R1.ren g h.1, R1.ren g h.2⟩) h2, h3⟩
  | iter s pos => exact h
  | loop st pend => exact h
  | ab d => exact h

theorem ObAt.unren {f : Nat → Nat} {ρ ρ' : Map} (g : ∀ (i : Nat) (F : Nat → Loc), ρ'[f i]? = some F → ρ[i]? = some F) {w : World} {L : Nat → Loc} {o : Ob} (h : ObAt ρ' w L (renO f o)) : ObAt ρ w L o := by
  cases o with
  | map es =>
    obtain ⟨arr, clock, h1, h2, h3⟩ := h
    exact ⟨arr, clock, h1, All2.unmap_left (f := fun e : AV1 × AV1 => (ren1 f e.1, ren1 f e.2)) (fun _ _ h => ⟨R1.unren g h.1, R1.unren g h.2⟩) h2, h3⟩
  | iter s pos => exact h
  | loop st pend => exact h
  | ab d => exact h

theorem BlkAt.ren {f : Nat → Nat} {ρ ρ' : Map} (g : GoesBy f ρ ρ') {w : World} {L : Nat → Loc} {idx : Nat} {b : Blk D} (h : BlkAt ρ w L idx b) : BlkAt ρ' w L idx (renB f b) := by
  cases b with
  | obj o =>
    intro hi
    obtain ⟨h1, h2, h3⟩ := h hi
    exact ⟨by cases o <;> exact h1, h2, h3.ren g⟩
  | cells own num c =>
    intro hi
    obtain ⟨h0, h1, h2, h3, h4⟩ := h hi
    refine ⟨renCont_wf.2 h0, by rw [renCont_len]; exact h1, h2, ?_, fun ho => ?_⟩
    · intro j y hy
      obtain ⟨x, hx, rfl⟩ := renCont_of hy
      obtain ⟨v, hv, hr⟩ := h3 j x hx
      exact ⟨v, hv, hr.ren g⟩
    · obtain ⟨g1, g2, g3⟩ := h4 ho
      exact ⟨g1, by rw [renCont_len]; exact g2, g3⟩

theorem BlkAt.unren {f : Nat → Nat} {ρ ρ' : Map} (g : ∀ (i : Nat) (F : Nat → Loc), ρ'[f i]? = some F → ρ[i]? = some F) {w : World} {L : Nat → Loc} {idx : Nat} {b : Blk D} (h : BlkAt ρ' w L idx (renB f b)) : BlkAt ρ w L idx b := by
  cases b with
  | obj o =>
    intro hi
    obtain ⟨h1, h2, h3⟩ := h hi
    exact ⟨by cases o <;> exact h1, h2, h3.unren g⟩
  | cells own num c =>
    intro hi
    obtain ⟨h0, h1, h2, h3, h4⟩ := h hi
    simp only [renCont_len] at h1
    refine ⟨renCont_wf.1 h0, h1, h2, ?_, fun ho => ?_⟩
    · intro j x hx
      obtain ⟨v, hv, hr⟩ := h3 j _ (renCont_at hx)
      exact ⟨v, hv, hr.unren g⟩
    · obtain ⟨g1, g2, g3⟩ := h4 ho
      simp only [renCont_len] at g2
      exact ⟨g1, g2, g3⟩

/-- The first says at least what the second says. -/
structure Weak (b' b : Blk D) : Prop where
  own : b'.own = b.own
  live : ∀ idx, b.live idx ↔ b'.live idx
  at_ : ∀ ρ w L idx, BlkAt ρ w L idx b' → BlkAt ρ w L idx b

theorem Weak.refl (b : Blk D) : Weak b b := ⟨rfl, fun _ => Iff.rfl, fun _ _ _ _ h => h⟩

/-- The small heap is a part of the great one. -/
structure Part (θ : List Nat) (Hc H : Heap D) : Prop where
  len : θ.length = Hc.length
  lt : ∀ (i j : Nat), θ[i]? = some j → j < H.length
  inj : ∀ (i i' j : Nat), θ[i]? = some j → θ[i']? = some j → i = i'
  same : ∀ (i j : Nat) (b : Blk D), θ[i]? = some j → Hc[i]? = some (some b) → ∃ b', H[j]? = some (some b') ∧ Weak b' (renB (rid θ H.length) b)
  few : H.length ≤ 1000000000

def smallMap (θ : List Nat) (ρ : Map) : Map := θ.map fun j => ρ.getD j fun _ => ⟨0, 0, 0, fun _ => False, default⟩

theorem smallMap_get {θ : List Nat} {ρ : Map} {H Hc : Heap D} {w : World} (r : Rel ρ H w) (h : Part θ Hc H) {i : Nat} : (smallMap θ ρ)[i]? = (match θ[i]? with | some j => ρ[j]? | none => none) := by
  unfold smallMap
  rw [List.getElem?_map]
  cases hθ : θ[i]? with
  | none => rfl
  | some j =>
    have := h.lt i j hθ
    rw [← r.len] at this
    simp [List.getD, List.getElem?_eq_getElem this]

theorem rid_old {θ : List Nat} {n i j : Nat} (h : θ[i]? = some j) : rid θ n i = j := by simp [rid, h]
theorem rid_new {θ : List Nat} {n i : Nat} (h : θ.length ≤ i) (hb : i < 1000000000) : rid θ n i = n + (i - θ.length) := by
  have h1 : θ[i]? = none := List.getElem?_eq_none h
  have h2 : Nat.ble 1000000000 i = false := by
    cases hh : Nat.ble 1000000000 i with
    | false => rfl
    | true => have := Nat.le_of_ble_eq_true hh; omega
  simp [rid, h1, h2]

theorem small_unren {θ : List Nat} {ρ : Map} {H Hc : Heap D} {w : World} (r : Rel ρ H w) (h : Part θ Hc H) : ∀ (i : Nat) (F : Nat → Loc), ρ[rid θ H.length i]? = some F → (smallMap θ ρ)[i]? = some F := by
  intro i F hF
  rw [smallMap_get r h]
  cases hθ : θ[i]? with
  | some j => rw [rid_old hθ] at hF; exact hF
  | none =>
    exfalso
    have hlt := (List.getElem?_eq_some_iff.1 hF).1
    rw [r.len] at hlt
    have hge : θ.length ≤ i := by
      rcases Nat.lt_or_ge i θ.length with h | h
      · rw [List.getElem?_eq_getElem h] at hθ; cases hθ
      · exact h
    rcases Nat.lt_or_ge i 1000000000 with hb | hb
    · rw [rid_new hge hb] at hlt; omega
    · have : rid θ H.length i = i := by
        have h2 : Nat.ble 1000000000 i = true := Nat.ble_eq_true_of_le hb
        simp [rid, hθ, h2]
      rw [this] at hlt
      have := h.few
      omega

theorem Part.rel {θ : List Nat} {ρ : Map} {H Hc : Heap D} {w : World} (r : Rel ρ H w) (h : Part θ Hc H) : Rel (smallMap θ ρ) Hc w := by
  have hθ : ∀ (i : Nat) (b : Blk D), Hc[i]? = some (some b) → ∃ j, θ[i]? = some j := by
    intro i b hb
    have := (List.getElem?_eq_some_iff.1 hb).1
    rw [← h.len] at this
    exact ⟨θ[i], List.getElem?_eq_getElem this⟩
  refine ⟨by simp [smallMap, h.len], ?_, ?_⟩
  · intro i b F idx hb hF
    obtain ⟨j, hj⟩ := hθ i b hb
    rw [smallMap_get r h, hj] at hF
    obtain ⟨b1, e1, k1⟩ := h.same i j b hj hb
    exact BlkAt.unren (small_unren r h) (k1.at_ _ _ _ _ (r.at_ j _ F idx e1 hF))
  · intro i b F idx i' b' F' idx' hb hF hl ho hb' hF' hl' hne
    obtain ⟨j, hj⟩ := hθ i b hb
    obtain ⟨j', hj'⟩ := hθ i' b' hb'
    rw [smallMap_get r h, hj] at hF
    rw [smallMap_get r h, hj'] at hF'
    obtain ⟨b1, e1, k1⟩ := h.same i j b hj hb
    obtain ⟨b2, e2, k2⟩ := h.same i' j' b' hj' hb'
    refine r.apart j _ F idx j' _ F' idx' e1 hF ((k1.live _).1 ((renB_live _ _ _).2 hl)) (by rw [k1.own, renB_own]; exact ho) e2 hF' ((k2.live _).1 ((renB_live _ _ _).2 hl')) ?_
    intro e
    simp only [Prod.mk.injEq] at e
    obtain ⟨rfl, rfl⟩ := e
    exact hne (by rw [h.inj i i' j hj hj'])

/-- What the great heap becomes. -/
def lay (f : Nat → Nat) : List Nat → Heap D → Heap D → Heap D
  | j :: θ, b :: Hc, H => lay f θ Hc (H.set j (match b with | some b => some (renB f b) | none => none))
  | _, _, H => H

def renH (f : Nat → Nat) : Heap D → Heap D
  | [] => []
  | some b :: l => some (renB f b) :: renH f l
  | none :: l => none :: renH f l

def lift (θ : List Nat) (Hc' H : Heap D) : Heap D :=
  lay (rid θ H.length) θ Hc' H ++ renH (rid θ H.length) (Hc'.drop θ.length)

def lowOf (n : Nat) : List Nat → Nat
  | [] => n
  | j :: l => min j (lowOf n l)

theorem lay_length (f : Nat → Nat) : ∀ (θ : List Nat) (Hc H : Heap D), (lay f θ Hc H).length = H.length
  | [], _, _ => by simp [lay]
  | j :: θ, [], H => by simp [lay]
  | j :: θ, b :: Hc, H => by simp only [lay]; rw [lay_length f θ Hc]; simp

theorem lay_other (f : Nat → Nat) : ∀ (θ : List Nat) (Hc H : Heap D) (p : Nat), p ∉ θ → (lay f θ Hc H)[p]? = H[p]?
  | [], _, _, p, _ => by simp [lay]
  | j :: θ, [], H, p, _ => by simp [lay]
  | j :: θ, b :: Hc, H, p, h => by
    simp only [lay]
    rw [lay_other f θ Hc _ p (fun hh => h (List.mem_cons_of_mem _ hh)), List.getElem?_set_ne (fun e => h (by rw [e]; exact List.mem_cons_self))]

theorem lay_at (f : Nat → Nat) : ∀ (θ : List Nat) (Hc H : Heap D), (∀ (i i' j : Nat), θ[i]? = some j → θ[i']? = some j → i = i') → (∀ (i j : Nat), θ[i]? = some j → j < H.length) → ∀ (i j : Nat) (b : Option (Blk D)), θ[i]? = some j → Hc[i]? = some b →
    (lay f θ Hc H)[j]? = some (match b with | some b => some (renB f b) | none => none)
  | [], _, _, _, _, i, j, b, h, _ => by simp at h
  | k :: θ, [], H, _, _, i, j, b, h, hb => by simp at hb
  | k :: θ, x :: Hc, H, inj, lt, 0, j, b, h, hb => by
    simp at h hb
    subst h hb
    simp only [lay]
    rw [lay_other f θ Hc _ k (fun hm => by
      obtain ⟨i, hi, e⟩ := List.getElem_of_mem hm
      have := inj 0 (i + 1) k (by simp) (by simp [List.getElem?_eq_getElem hi, e])
      omega)]
    rw [List.getElem?_set_self (lt 0 k (by simp))]
  | k :: θ, x :: Hc, H, inj, lt, i + 1, j, b, h, hb => by
    simp only [lay]
    exact lay_at f θ Hc _ (fun i i' j h1 h2 => by have := inj (i + 1) (i' + 1) j (by simpa using h1) (by simpa using h2); omega) (fun i j h => by simpa using lt (i + 1) j (by simpa using h)) i j b (by simpa using h) (by simpa using hb)

theorem renH_get (f : Nat → Nat) : ∀ (l : Heap D) (i : Nat), (renH f l)[i]? = (match l[i]? with | some (some b) => some (some (renB f b)) | some none => some none | none => none)
  | [], i => by simp [renH]
  | some b :: l, 0 => by simp [renH]
  | none :: l, 0 => by simp [renH]
  | some b :: l, i + 1 => by simpa [renH] using renH_get f l i
  | none :: l, i + 1 => by simpa [renH] using renH_get f l i

theorem lowOf_le (n : Nat) : ∀ (l : List Nat) (j : Nat), j ∈ l → lowOf n l ≤ j
  | k :: l, j, h => by
    rcases List.mem_cons.1 h with rfl | h
    · exact Nat.min_le_left _ _
    · exact Nat.le_trans (Nat.min_le_right _ _) (lowOf_le n l j h)
  | [], j, h => by cases h

def layMap : List Nat → Map → Map → Map
  | j :: θ, F :: ρc, ρ => layMap θ ρc (ρ.set j F)
  | _, _, ρ => ρ

theorem layMap_length : ∀ (θ : List Nat) (ρc ρ : Map), (layMap θ ρc ρ).length = ρ.length
  | [], _, _ => by simp [layMap]
  | j :: θ, [], ρ => by simp [layMap]
  | j :: θ, b :: ρc, ρ => by simp only [layMap]; rw [layMap_length θ ρc]; simp

theorem layMap_other : ∀ (θ : List Nat) (ρc ρ : Map) (p : Nat), p ∉ θ → (layMap θ ρc ρ)[p]? = ρ[p]?
  | [], _, _, p, _ => by simp [layMap]
  | j :: θ, [], ρ, p, _ => by simp [layMap]
  | j :: θ, b :: ρc, ρ, p, h => by
    simp only [layMap]
    rw [layMap_other θ ρc _ p (fun hh => h (List.mem_cons_of_mem _ hh)), List.getElem?_set_ne (fun e => h (by rw [e]; exact List.mem_cons_self))]

theorem layMap_at : ∀ (θ : List Nat) (ρc ρ : Map), (∀ (i i' j : Nat), θ[i]? = some j → θ[i']? = some j → i = i') → (∀ (i j : Nat), θ[i]? = some j → j < ρ.length) → ∀ (i j : Nat) (F : Nat → Loc), θ[i]? = some j → ρc[i]? = some F →
    (layMap θ ρc ρ)[j]? = some F
  | [], _, _, _, _, i, j, b, h, _ => by simp at h
  | k :: θ, [], ρ, _, _, i, j, b, h, hb => by simp at hb
  | k :: θ, x :: ρc, ρ, inj, lt, 0, j, b, h, hb => by
    simp at h hb
    subst h hb
    simp only [layMap]
    rw [layMap_other θ ρc _ k (fun hm => by
      obtain ⟨i, hi, e⟩ := List.getElem_of_mem hm
      have := inj 0 (i + 1) k (by simp) (by simp [List.getElem?_eq_getElem hi, e])
      omega)]
    rw [List.getElem?_set_self (lt 0 k (by simp))]
  | k :: θ, x :: ρc, ρ, inj, lt, i + 1, j, b, h, hb => by
    simp only [layMap]
    exact layMap_at θ ρc _ (fun i i' j h1 h2 => by have := inj (i + 1) (i' + 1) j (by simpa using h1) (by simpa using h2); omega) (fun i j h => by simpa using lt (i + 1) j (by simpa using h)) i j b (by simpa using h) (by simpa using hb)

/-- **What a run over the small heap does, the same run does over every heap that it is a part of.** -/
theorem Part.step {θ : List Nat} {ρ : Map} {H Hc : Heap D} {w : World} (r : Rel ρ H w) (h : Part θ Hc H) {low : Nat} {ρc' : Map} {Hc' : Heap D} {w' : World} (hs : Step (smallMap θ ρ) Hc w low ρc' Hc' w') (hfew : Hc'.length ≤ 1000000000) :
    ∃ ρ', GoesBy (rid θ H.length) ρc' ρ' ∧ Step ρ H w (lowOf H.length (θ.drop low)) ρ' (lift θ Hc' H) w' := by
  have rc := h.rel r
  let f := rid θ H.length
  have hlen := hs.len rc
  have hcl : θ.length ≤ Hc'.length := by rw [h.len]; exact hlen
  let ρ' := layMap θ ρc' ρ ++ ρc'.drop θ.length
  have hll : (layMap θ ρc' ρ).length = H.length := by rw [layMap_length]; exact r.len
  have hltρ : ∀ (i j : Nat), θ[i]? = some j → j < ρ.length := fun i j hj => by rw [r.len]; exact h.lt i j hj
  have hsm : (smallMap θ ρ).length = θ.length := by simp [smallMap]
  -- where the small blocks lie
  have gbyE : ∀ (i : Nat) (F : Nat → Loc), ρc'[i]? = some F → ρ'[f i]? = some F := by
    intro i F hF
    rcases Nat.lt_or_ge i θ.length with hi | hi
    · have hθ : θ[i]? = some θ[i] := List.getElem?_eq_getElem hi
      have e1 : f i = θ[i] := rid_old hθ
      rw [e1]
      show (layMap θ ρc' ρ ++ _)[θ[i]]? = _
      rw [List.getElem?_append_left (by rw [hll]; exact h.lt i _ hθ)]
      exact layMap_at θ ρc' ρ h.inj hltρ i _ F hθ hF
    · have hlt : i < ρc'.length := (List.getElem?_eq_some_iff.1 hF).1
      have hb : i < 1000000000 := by rw [hs.rel.len] at hlt; omega
      have e1 : f i = H.length + (i - θ.length) := rid_new hi hb
      rw [e1]
      show (layMap θ ρc' ρ ++ _)[_]? = _
      rw [List.getElem?_append_right (by rw [hll]; omega), hll, List.getElem?_drop]
      rw [← hF]; congr 1; omega
  have gby : GoesBy f ρc' ρ' := fun i F hF => ⟨F, gbyE i F hF, Lo.refl F⟩
  have gold : Goes ρ ρ' := by
    intro p F hF
    have hp : p < H.length := by rw [← r.len]; exact (List.getElem?_eq_some_iff.1 hF).1
    by_cases hm : p ∈ θ
    · obtain ⟨i, hi, e⟩ := List.getElem_of_mem hm
      have hθ : θ[i]? = some p := by rw [List.getElem?_eq_getElem hi, e]
      have h2 : (smallMap θ ρ)[i]? = some F := by rw [smallMap_get r h, hθ]; exact hF
      obtain ⟨F', hF', l⟩ := hs.goes i F h2
      have := gbyE i F' hF'
      rw [show f i = p from rid_old hθ] at this
      exact ⟨F', this, l⟩
    · refine ⟨F, ?_, Lo.refl F⟩
      show (layMap θ ρc' ρ ++ _)[p]? = _
      rw [List.getElem?_append_left (by rw [hll]; exact hp), layMap_other θ ρc' ρ p hm]
      exact hF
  have hlaylen : (lay f θ Hc' H).length = H.length := lay_length f θ Hc' H
  -- entries of the great heap
  have hget : ∀ (p : Nat) (b : Blk D), (lift θ Hc' H)[p]? = some (some b) →
      (p ∉ θ ∧ p < H.length ∧ H[p]? = some (some b)) ∨ ∃ i bc, Hc'[i]? = some (some bc) ∧ p = f i ∧ b = renB f bc ∧ (i < θ.length → θ[i]? = some p) ∧ (θ.length ≤ i → H.length ≤ p ∧ p = H.length + (i - θ.length)) := by
    intro p b hp
    unfold lift at hp
    rcases Nat.lt_or_ge p H.length with hlt | hge
    · rw [List.getElem?_append_left (by rw [hlaylen]; exact hlt)] at hp
      by_cases hm : p ∈ θ
      · obtain ⟨i, hi, e⟩ := List.getElem_of_mem hm
        have hθ : θ[i]? = some p := by rw [List.getElem?_eq_getElem hi, e]
        have hic : i < Hc'.length := by omega
        have := lay_at f θ Hc' H h.inj h.lt i p _ hθ (List.getElem?_eq_getElem hic)
        rw [this] at hp
        cases hx : Hc'[i] with
        | none => rw [hx] at hp; simp at hp
        | some bc =>
          rw [hx] at hp
          simp at hp
          exact .inr ⟨i, bc, by rw [List.getElem?_eq_getElem hic, hx], (rid_old hθ).symm, hp.symm, fun _ => hθ, fun hh => by omega⟩
      · rw [lay_other f θ Hc' H p hm] at hp
        exact .inl ⟨hm, hlt, hp⟩
    · rw [List.getElem?_append_right (by rw [hlaylen]; exact hge), hlaylen, renH_get, List.getElem?_drop] at hp
      cases hx : Hc'[θ.length + (p - H.length)]? with
      | none => rw [hx] at hp; cases hp
      | some o =>
        cases o with
        | none => rw [hx] at hp; simp at hp
        | some bc =>
          rw [hx] at hp
          simp at hp
          have hlt := (List.getElem?_eq_some_iff.1 hx).1
          refine .inr ⟨_, bc, hx, ?_, hp.symm, fun hh => by omega, fun _ => ⟨hge, by omega⟩⟩
          show p = f _
          rw [show f (θ.length + (p - H.length)) = H.length + (θ.length + (p - H.length) - θ.length) from rid_new (by omega) (by omega)]
          omega
  have hmap : ∀ (p : Nat) (F : Nat → Loc), p ∉ θ → p < H.length → ρ'[p]? = some F → ρ[p]? = some F := by
    intro p F hm hlt hp
    have hp' : (layMap θ ρc' ρ ++ ρc'.drop θ.length)[p]? = some F := hp
    rw [List.getElem?_append_left (by rw [hll]; exact hlt), layMap_other θ ρc' ρ p hm] at hp'
    exact hp'
  have hmapc : ∀ (i : Nat) (bc : Blk D) (F : Nat → Loc), Hc'[i]? = some (some bc) → ρ'[f i]? = some F → ρc'[i]? = some F := by
    intro i bc F hb hF
    obtain ⟨F', hF'⟩ := hs.rel.mapAt hb
    have := gbyE i F' hF'
    rw [hF] at this
    cases this
    exact hF'
  -- ours in the small heap is ours in the great one
  have hown : ∀ (s k : Nat), ownR (smallMap θ ρ) Hc s k → ownR ρ H (lowOf H.length (θ.drop s)) k := by
    rintro s k ⟨i, b, F, idx, h1, h2, h3, h4, h5, h6⟩
    have hi : i < θ.length := by rw [h.len]; exact (List.getElem?_eq_some_iff.1 h2).1
    have hθ : θ[i]? = some θ[i] := List.getElem?_eq_getElem hi
    obtain ⟨b1, e1, k1⟩ := h.same i _ b hθ h2
    refine ⟨θ[i], b1, F, idx, ?_, e1, by rw [k1.own, renB_own]; exact h3, (k1.live _).1 ((renB_live _ _ _).2 h4), ?_, h6⟩
    · refine lowOf_le _ _ _ ?_
      have : (θ.drop s)[i - s]? = some θ[i] := by rw [List.getElem?_drop, show s + (i - s) = i by omega]; exact hθ
      exact List.mem_of_getElem? this
    · rw [smallMap_get r h, hθ] at h5; exact h5
  -- an entry beside is untouched
  have hfar : ∀ (p : Nat) (b : Blk D) (F : Nat → Loc) (idx : Nat), p ∉ θ → H[p]? = some (some b) → ρ[p]? = some F → b.live idx → ∀ (s k : Nat), (F idx).foot k → ¬ ownR (smallMap θ ρ) Hc s k := by
    rintro p b F idx hm hb hF hl s k hk ⟨i, bc, Fc, ic, h1, h2, h3, h4, h5, h6⟩
    have hi : i < θ.length := by rw [h.len]; exact (List.getElem?_eq_some_iff.1 h2).1
    have hθ : θ[i]? = some θ[i] := List.getElem?_eq_getElem hi
    rw [smallMap_get r h, hθ] at h5
    obtain ⟨b1, e1, k1⟩ := h.same i _ bc hθ h2
    refine r.apart θ[i] b1 Fc ic p b F idx e1 h5 ((k1.live _).1 ((renB_live _ _ _).2 h4)) (by rw [k1.own, renB_own]; exact h3) hb hF hl ?_ k h6 hk
    intro e
    simp only [Prod.mk.injEq] at e
    exact hm (by rw [← e.1]; exact List.getElem_mem hi)
  refine ⟨ρ', gby, gold, ⟨?_, ?_, ?_⟩, ?_, ?_, ?_, ?_⟩
  · -- lengths
    have hrl : ∀ l : Heap D, (renH f l).length = l.length := by
      intro l
      induction l with
      | nil => rfl
      | cons b l ih => cases b <;> simp [renH, ih]
    simp only [ρ', lift, List.length_append, List.length_drop, hll, hs.rel.len]
    rw [lay_length, hrl, List.length_drop]
  · -- each entry
    intro p b F idx hb hF
    rcases hget p b hb with ⟨hm, hlt, hb'⟩ | ⟨i, bc, hbc, rfl, rfl, _, _⟩
    · have hF' := hmap p F hm hlt hF
      refine (r.at_ p b F idx hb' hF').keep gold hs.ext.size fun hl k hk => ?_
      exact hs.ext.block k (r.lt hb' hF' hl hk) (hfar p b F idx hm hb' hF' hl low k hk)
    · exact (hs.rel.at_ i bc F idx hbc (hmapc i bc F hbc hF)).ren gby
  · -- apart
    intro p b F idx p' b' F' idx' hb hF hl ho hb' hF' hl' hne k hk hk'
    rcases hget p b hb with ⟨hm, hlt, hb1⟩ | ⟨i, bc, hbc, rfl, rfl, hiθ, hiN⟩ <;> rcases hget p' b' hb' with ⟨hm', hlt', hb1'⟩ | ⟨i', bc', hbc', rfl, rfl, hiθ', hiN'⟩
    · exact r.apart p b F idx p' b' F' idx' hb1 (hmap p F hm hlt hF) hl ho hb1' (hmap p' F' hm' hlt' hF') hl' hne k hk hk'
    · -- beside, and small
      have hF1 := hmap p F hm hlt hF
      have hFc := hmapc i' bc' F' hbc' hF'
      have hlc := (renB_live _ _ _).1 hl'
      have hkw := r.lt hb1 hF1 hl hk
      by_cases hoc : bc'.own = true
      · rcases hs.owned 0 k ⟨i', bc', F', idx', Nat.zero_le _, hbc', hoc, hlc, hFc, hk'⟩ with h1 | h1
        · omega
        · exact hfar p b F idx hm hb1 hF1 hl _ k hk h1
      · -- read alone: it was so before
        rcases Nat.lt_or_ge i' Hc.length with hlt' | hge'
        · obtain ⟨b0, e0, o0, l0, f0⟩ := hs.old i' bc' hlt' hbc'
          obtain ⟨F0, hF0⟩ := rc.mapAt e0
          have e2 := f0 (by simpa using hoc) F0 F' hF0 hFc
          subst e2
          have hi' : i' < θ.length := by rw [h.len]; exact hlt'
          have hθ' := hiθ' hi'
          rw [smallMap_get r h, hθ'] at hF0
          obtain ⟨b1, e1, k1⟩ := h.same i' _ b0 hθ' e0
          exact r.apart p b F idx _ b1 F' idx' hb1 hF1 hl ho e1 hF0 ((k1.live _).1 ((renB_live _ _ _).2 (l0 _ hlc))) hne k hk hk'
        · exact hoc (hs.mine i' bc' hge' hbc')
    · -- small, and beside
      have hF1' := hmap p' F' hm' hlt' hF'
      have hFc := hmapc i bc F hbc hF
      have hlc := (renB_live _ _ _).1 hl
      have hoc : bc.own = true := by rw [← renB_own f]; exact ho
      have hkw := r.lt hb1' hF1' hl' hk'
      rcases hs.owned 0 k ⟨i, bc, F, idx, Nat.zero_le _, hbc, hoc, hlc, hFc, hk⟩ with h1 | h1
      · omega
      · exact hfar p' b' F' idx' hm' hb1' hF1' hl' _ k hk' h1
    · -- both small
      have hFc := hmapc i bc F hbc hF
      have hFc' := hmapc i' bc' F' hbc' hF'
      refine hs.rel.apart i bc F idx i' bc' F' idx' hbc hFc ((renB_live _ _ _).1 hl) (by rw [← renB_own f]; exact ho) hbc' hFc' ((renB_live _ _ _).1 hl') ?_ k hk hk'
      intro e
      simp only [Prod.mk.injEq] at e
      obtain ⟨rfl, rfl⟩ := e
      exact hne rfl
  · exact hs.ext.mono fun k _ => hown low k
  · -- what is ours
    rintro p k ⟨b, F, idx, h2, h3, h4, h5, h6⟩
    rcases hget p b h2 with ⟨hm, hlt, hb1⟩ | ⟨i, bc, hbc, rfl, rfl, hiθ, hiN⟩
    · exact .inr (.inr ⟨b, F, idx, hb1, h3, h4, hmap p F hm hlt h5, h6⟩)
    · have hFc := hmapc i bc F hbc h5
      rcases hs.each i k ⟨bc, F, idx, hbc, by rw [← renB_own f]; exact h3, (renB_live _ _ _).1 h4, hFc, h6⟩ with h7 | h7 | ⟨b0, F0, ic, a2, a3, a4, a5, a6⟩
      · exact .inl h7
      · exact .inr (.inl (hown low k h7))
      · refine .inr (.inr ?_)
        have hi0 : i < θ.length := by rw [h.len]; exact (List.getElem?_eq_some_iff.1 a2).1
        obtain ⟨b1, e1, k1⟩ := h.same i _ b0 (hiθ hi0) a2
        rw [smallMap_get r h, hiθ hi0] at a5
        exact ⟨b1, F0, ic, e1, by rw [k1.own, renB_own]; exact a3, (k1.live _).1 ((renB_live _ _ _).2 a4), a5, a6⟩
  · intro p b' hp hb
    rcases hget p b' hb with ⟨hm, hlt, hb1⟩ | ⟨i, bc, hbc, rfl, rfl, hiθ, hiN⟩
    · refine ⟨b', hb1, rfl, fun _ h => h, fun _ F F' hF hF' => ?_⟩
      have := hmap p F' hm hlt hF'
      rw [hF] at this
      cases this
      rfl
    · have hi : i < θ.length := by
        rcases Nat.lt_or_ge i θ.length with hi | hi
        · exact hi
        · have := (hiN hi).1; omega
      obtain ⟨b0, e0, o0, l0, f0⟩ := hs.old i bc (by rw [← h.len]; exact hi) hbc
      obtain ⟨b1, e1, k1⟩ := h.same i _ b0 (hiθ hi) e0
      refine ⟨b1, e1, by rw [renB_own, k1.own, renB_own]; exact o0, fun idx hl => (k1.live _).1 ((renB_live _ _ _).2 (l0 idx ((renB_live _ _ _).1 hl))), fun ho F F' hF hF' => ?_⟩
      have hFc := hmapc i bc F' hbc hF'
      refine f0 (by rw [← renB_own f]; exact ho) F F' ?_ hFc
      rw [smallMap_get r h, hiθ hi]; exact hF
  · intro p b' hp hb
    rcases hget p b' hb with ⟨hm, hlt, hb1⟩ | ⟨i, bc, hbc, rfl, rfl, hiθ, hiN⟩
    · omega
    · have hi : Hc.length ≤ i := by
        rcases Nat.lt_or_ge i θ.length with hi | hi
        · have := h.lt i _ (hiθ hi); omega
        · rw [← h.len]; exact hi
      rw [renB_own]; exact hs.mine i bc hi hbc
end
end
end Go.Proofs.Ytnoonoghemgbbaa.Sx
