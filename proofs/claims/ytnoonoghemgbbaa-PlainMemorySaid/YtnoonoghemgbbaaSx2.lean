/-
  A symbolic evaluator over the model's code: part 2: what may happen to a heap: a new block, a block written anew, a block let go, a block taken over.
-/
import Derived.Test.YtnoonoghemgbbaaSx1
set_option linter.unusedVariables false
set_option linter.unusedSimpArgs false
namespace Go.Proofs.Ytnoonoghemgbbaa.Sx
open Go

section
variable {D : Type}

theorem get_app_old {α : Type} {l m : List α} {i : Nat} {a : α} (h : l[i]? = some a) : (l ++ m)[i]? = some a := by
  rw [List.getElem?_append_left (List.getElem?_eq_some_iff.1 h).1]; exact h

theorem get_app_cases {α : Type} {l : List α} {y : α} {i : Nat} {a : α} (h : (l ++ [y])[i]? = some a) : (l[i]? = some a ∧ i < l.length) ∨ (i = l.length ∧ a = y) := by
  rcases Nat.lt_trichotomy i l.length with hlt | he | hgt
  · rw [List.getElem?_append_left hlt] at h; exact .inl ⟨h, hlt⟩
  · subst he; rw [List.getElem?_append_right (Nat.le_refl _)] at h; simp at h; exact .inr ⟨rfl, h.symm⟩
  · rw [List.getElem?_append_right (by omega)] at h
    rw [List.getElem?_eq_none (by simp; omega)] at h; cases h

theorem Cont.At.lt {c : Cont} {j : Nat} {x : Cell} (h : c.At j x) : j < c.len := by
  cases c with
  | raw cs => exact (List.getElem?_eq_some_iff.1 h).1
  | ints k l => obtain ⟨n, hn, _⟩ := h; exact (List.getElem?_eq_some_iff.1 hn).1
  | fam n sz f =>
    obtain ⟨i, s, hi, hs, rfl, _⟩ := h
    show i * sz + s < n * sz
    calc i * sz + s < i * sz + sz := by omega
      _ = (i + 1) * sz := by rw [Nat.succ_mul]
      _ ≤ n * sz := Nat.mul_le_mul_right _ hi

/-- One entry of a heap is written anew; all others stay. -/
theorem Step.put {ρ : Map} {H : Heap D} {w w' : World} (r : Rel ρ H w) {id : Nat} {b b' : Blk D} {F : Nat → Loc} (hb : H[id]? = some (some b)) (hF : ρ[id]? = some F)
    (ho : b.own = true) (ho' : b'.own = true) (hlive : ∀ i, b'.live i ↔ b.live i) (idx : Nat) (hi : b.live idx)
    (os : w'.os = w.os) (tape : w'.tape = w.tape) (output : w'.output = w.output) (size : w.heap.size ≤ w'.heap.size)
    (hsame : ∀ k, k < w.heap.size → ¬ (F idx).foot k → w'.heap[k]? = w.heap[k]?)
    (hat : BlkAt ρ w' F idx b') (hold : ∀ i, i ≠ idx → BlkAt ρ w F i b → BlkAt ρ w F i b') :
    Step ρ H w id ρ (H.set id (some b')) w' := by
  have hid : id < H.length := (List.getElem?_eq_some_iff.1 hb).1
  have hget : ∀ i x, (H.set id (some b'))[i]? = some (some x) → (i = id ∧ x = b') ∨ (i ≠ id ∧ H[i]? = some (some x)) := by
    intro i x hx
    by_cases e : i = id
    · subst e; rw [List.getElem?_set_self hid] at hx; simp at hx; exact .inl ⟨rfl, hx.symm⟩
    · rw [List.getElem?_set_ne (Ne.symm e)] at hx; exact .inr ⟨e, hx⟩
  refine Step.make r (GoesE.refl ρ) ⟨by simpa using r.len, ?_, ?_⟩ ⟨os, tape, output, size, ?_⟩ ?_ ?_ (fun i x hge hx => by have := (List.getElem?_eq_some_iff.1 hx).1; simp at this; omega)
  · intro i x F' j hx hF'
    rcases hget i x hx with ⟨rfl, rfl⟩ | ⟨hne, hx'⟩
    · rw [hF] at hF'; cases hF'
      by_cases e : j = idx
      · subst e; exact hat
      · have h0 := hold j e (r.at_ _ b F j hb hF)
        refine h0.keep (Goes.refl ρ) size fun hl k hk => hsame k (r.lt hb hF ((hlive j).1 hl) hk) ?_
        exact fun hk' => r.apart i b F idx i b F j hb hF hi ho hb hF ((hlive j).1 hl) (by intro h; cases h; exact e rfl) k hk' hk
    · refine (r.at_ i x F' j hx' hF').keep (Goes.refl ρ) size fun hl k hk => hsame k (r.lt hx' hF' hl hk) ?_
      exact fun hk' => r.apart id b F idx i x F' j hb hF hi ho hx' hF' hl (by intro h; cases h; exact hne rfl) k hk' hk
  · intro i1 x1 F1 j1 i2 x2 F2 j2 h1 f1 l1 o1 h2 f2 l2 hne
    rcases hget i1 x1 h1 with ⟨rfl, rfl⟩ | ⟨n1, g1⟩ <;> rcases hget i2 x2 h2 with ⟨rfl, rfl⟩ | ⟨n2, g2⟩
    · exact r.apart _ b F1 j1 _ b F2 j2 hb f1 ((hlive _).1 l1) ho hb f2 ((hlive _).1 l2) hne
    · exact r.apart _ b F1 j1 _ x2 F2 j2 hb f1 ((hlive _).1 l1) ho g2 f2 l2 hne
    · exact r.apart _ x1 F1 j1 _ b F2 j2 g1 f1 l1 o1 hb f2 ((hlive _).1 l2) hne
    · exact r.apart _ x1 F1 j1 _ x2 F2 j2 g1 f1 l1 o1 g2 f2 l2 hne
  · exact fun k hk hn => hsame k hk fun hk' => hn ⟨id, b, F, idx, Nat.le_refl _, hb, ho, hi, hF, hk'⟩
  · intro k o
    obtain ⟨i, x, F', j, h1, h2, _⟩ := o
    have := (List.getElem?_eq_some_iff.1 h2).1
    simp at this; omega
  · intro i x hi' hx
    rcases hget i x hx with ⟨rfl, rfl⟩ | ⟨_, hx'⟩
    · exact ⟨b, hb, ho'.trans ho.symm, fun j => (hlive j).1⟩
    · exact ⟨x, hx', rfl, fun _ h => h⟩

/-- A new entry at the end. -/
theorem Step.push {ρ : Map} {H : Heap D} {w w' : World} (r : Rel ρ H w) (b : Blk D) (F : Nat → Loc) (ho : b.own = true)
    (os : w'.os = w.os) (tape : w'.tape = w.tape) (output : w'.output = w.output) (size : w.heap.size ≤ w'.heap.size)
    (hsame : ∀ k, k < w.heap.size → w'.heap[k]? = w.heap[k]?)
    (hat : ∀ i, BlkAt (ρ ++ [F]) w' F i b) (hnew : ∀ i k, b.live i → (F i).foot k → w.heap.size ≤ k)
    (hap : ∀ i j k, b.live i → b.live j → i ≠ j → (F i).foot k → ¬ (F j).foot k) :
    Step ρ H w H.length (ρ ++ [F]) (H ++ [some b]) w' := by
  have g := Goes.app ρ [F]
  have hmap : ∀ i F', (ρ ++ [F])[i]? = some F' → (ρ[i]? = some F' ∧ i < H.length) ∨ (i = H.length ∧ F' = F) := by
    intro i F' h; rcases get_app_cases h with ⟨h1, h2⟩ | ⟨h1, h2⟩
    · exact .inl ⟨h1, by rw [← r.len]; exact h2⟩
    · exact .inr ⟨by rw [← r.len]; exact h1, h2⟩
  have hheap : ∀ i x, (H ++ [some b])[i]? = some (some x) → (H[i]? = some (some x) ∧ i < H.length) ∨ (i = H.length ∧ x = b) := by
    intro i x h; rcases get_app_cases h with h1 | ⟨h1, h2⟩
    · exact .inl h1
    · exact .inr ⟨h1, by simpa using h2⟩
  refine Step.make r (GoesE.app ρ [F]) ⟨by simp [r.len], ?_, ?_⟩ ⟨os, tape, output, size, fun k hk _ => hsame k hk⟩ ?_ ?_ (fun i x hge hx => by rcases hheap i x hx with ⟨_, h⟩ | ⟨_, rfl⟩ <;> first | omega | exact ho)
  · intro i x F' j hx hF'
    rcases hheap i x hx with ⟨h1, h2⟩ | ⟨rfl, rfl⟩ <;> rcases hmap _ F' hF' with ⟨f1, f2⟩ | ⟨f1, rfl⟩
    · exact (r.at_ i x F' j h1 f1).keep g size fun hl k hk => hsame k (r.lt h1 f1 hl hk)
    · omega
    · omega
    · exact hat j
  · intro i1 x1 F1 j1 i2 x2 F2 j2 h1 f1 l1 o1 h2 f2 l2 hne k k1 k2
    rcases hheap i1 x1 h1 with ⟨a1, b1⟩ | ⟨rfl, rfl⟩ <;> rcases hmap _ F1 f1 with ⟨c1, d1⟩ | ⟨c1, rfl⟩ <;> try omega
    all_goals rcases hheap i2 x2 h2 with ⟨a2, b2⟩ | ⟨rfl, rfl⟩ <;> rcases hmap _ F2 f2 with ⟨c2, d2⟩ | ⟨c2, rfl⟩ <;> try omega
    · exact r.apart _ x1 F1 j1 _ x2 F2 j2 a1 c1 l1 o1 a2 c2 l2 hne k k1 k2
    · have := r.lt a1 c1 l1 k1; have := hnew j2 k l2 k2; omega
    · have := r.lt a2 c2 l2 k2; have := hnew j1 k l1 k1; omega
    · exact hap j1 j2 k l1 l2 (fun e => hne (by rw [e])) k1 k2
  · intro k o
    obtain ⟨i, x, F', j, h1, h2, h3, h4, h5, h6⟩ := o
    rcases hheap i x h2 with ⟨a1, b1⟩ | ⟨rfl, rfl⟩
    · omega
    · rcases hmap _ F' h5 with ⟨c1, d1⟩ | ⟨c1, rfl⟩
      · omega
      · exact .inl (hnew j k h4 h6)
  · intro i x hi hx
    rcases hheap i x hx with ⟨a1, b1⟩ | ⟨rfl, rfl⟩
    · exact ⟨x, a1, rfl, fun _ h => h⟩
    · omega

/-- An entry is let go. -/
theorem Step.kill {ρ : Map} {H : Heap D} {w : World} (r : Rel ρ H w) (id : Nat) (low : Nat) : Step ρ H w low ρ (H.set id none) w := by
  have hget : ∀ (i : Nat) (x : Blk D), (H.set id none)[i]? = some (some x) → H[i]? = some (some x) := by
    intro i x hx
    by_cases e : i = id
    · subst e
      by_cases hl : i < H.length
      · rw [List.getElem?_set_self hl] at hx; simp at hx
      · rw [List.getElem?_eq_none (by simpa using hl)] at hx; cases hx
    · rwa [List.getElem?_set_ne (Ne.symm e)] at hx
  refine Step.make r (GoesE.refl ρ) ⟨by simpa using r.len, fun i x F j hx => r.at_ i x F j (hget i x hx), fun i1 x1 F1 j1 i2 x2 F2 j2 h1 f1 l1 o1 h2 => r.apart i1 x1 F1 j1 i2 x2 F2 j2 (hget _ _ h1) f1 l1 o1 (hget _ _ h2)⟩ (Ext.refl w _) ?_ (fun i x _ hx => ⟨x, hget i x hx, rfl, fun _ h => h⟩) (fun i x hge hx => by have := (List.getElem?_eq_some_iff.1 hx).1; simp at this; omega)
  intro k o
  obtain ⟨i, x, F', j, h1, h2, _⟩ := o
  have := (List.getElem?_eq_some_iff.1 h2).1
  simp at this; omega

/-- A new block of cells. -/
theorem Step.alloc {ρ : Map} {H : Heap D} {w : World} (r : Rel ρ H w) (cs : Array Value) (e : TypeId) (c : Cont) (hw : c.wf) (hl : c.len ≤ cs.size)
    (hc : ∀ j x, c.At j x → ∃ v, cs[j]? = some v ∧ RC ρ x v) :
    Step ρ H w H.length (ρ ++ [fun _ => ⟨w.heap.size, 0, cs.size, fun k => k = w.heap.size, default⟩]) (H ++ [some (.cells true 1 fun _ => c)]) (w.alloc (.cells cs e)) := by
  refine Step.push r _ _ rfl rfl rfl rfl (by simp) (fun k hk => heap_alloc_old w _ k hk) ?_ ?_ ?_
  · intro i hi
    refine ⟨hw, fun _ => rfl, fun k hk => ?_, ?_, fun _ => ⟨fun k => Iff.rfl, by simpa using hl, cs, e, (0, 0), heap_alloc_new w _, Nat.le_refl _, fun o _ h => by simp at h⟩⟩
    · have : k = w.heap.size := hk
      simp; omega
    · intro j x hx
      obtain ⟨v, hv, hr⟩ := hc j x hx
      refine ⟨v, ?_, hr.goes (Goes.app ρ _)⟩
      simpa using hv
  · intro i k _ hk
    exact Nat.le_of_eq hk.symm
  · intro i j k hi hj hne
    have h1 : i < 1 := hi
    have h2 : j < 1 := hj
    omega

def upd (num : Nat) (c : Nat → Cont) (idx : Nat) (x : Cont) : Nat → Cont :=
  match Nat.beq num 1 with
  | true => fun _ => x
  | false => fun i => if i = idx then x else c i

theorem upd_at {num : Nat} {c : Nat → Cont} {idx : Nat} {x : Cont} : upd num c idx x idx = x := by
  cases hb : Nat.beq num 1 <;> simp [upd, hb]

theorem upd_not {num : Nat} {c : Nat → Cont} {idx : Nat} {x : Cont} {i : Nat} (hi : idx < num) (h : i < num) (hne : i ≠ idx) : upd num c idx x i = c i := by
  cases hb : Nat.beq num 1 with
  | true =>
    have := Nat.eq_of_beq_eq_true hb
    omega
  | false => simp [upd, hb, hne]

/-- The cells of a block of ours are written anew. -/
theorem Step.setRow {ρ : Map} {H : Heap D} {w : World} (r : Rel ρ H w) {id num : Nat} {c : Nat → Cont} {F : Nat → Loc} {idx : Nat} (hb : H[id]? = some (some (.cells true num c))) (hF : ρ[id]? = some F)
    (hi : idx < num) {cs : Array Value} {e : TypeId} {fr : Nat × Nat} (hcs : w.heap[(F idx).blk]? = some (.cells cs e fr)) (cs' : Array Value) (hsz : cs'.size = cs.size) (c' : Cont) (hw : c'.wf)
    (hfin : (F idx).sh + c'.len ≤ (F idx).fin) (hc : ∀ j x, c'.At j x → ∃ v, cs'[(F idx).sh + j]? = some v ∧ RC ρ x v) :
    Step ρ H w id ρ (H.set id (some (.cells true num (upd num c idx c')))) (w.setRow (F idx).blk cs') := by
  have h0 := r.at_ id _ F idx hb hF hi
  obtain ⟨g1, g2, cs0, e0, fr0, g3, g4, g5⟩ := h0.2.2.2.2 rfl
  rw [hcs] at g3
  cases g3
  have hnew := setRow_heap w (F idx).blk cs cs' e fr hcs
  refine Step.put r hb hF rfl rfl (fun _ => Iff.rfl) idx hi rfl rfl rfl (by simp) ?_ ?_ ?_
  · intro k hk hn
    have hne : k ≠ (F idx).blk := fun e => hn ((g1 k).2 e)
    simp only [World.setRow, Array.getElem?_modify]
    rw [if_neg (Ne.symm hne)]
  · intro _
    have hu : upd num c idx c' idx = c' := upd_at
    rw [hu]
    refine ⟨hw, fun _ => (g1 _).2 rfl, fun k hk => ?_, ?_, fun _ => ⟨g1, hfin, cs', e, fr, hnew, by rw [hsz]; exact g4, by rw [hsz]; exact g5⟩⟩
    · have := h0.2.2.1 k hk
      simpa using this
    · intro j x hx
      obtain ⟨v, hv, hr⟩ := hc j x hx
      exact ⟨v, by simpa [World.cell?, hnew] using hv, hr⟩
  · intro i hne h hi'
    have hu : upd num c idx c' i = c i := upd_not hi hi' hne
    rw [hu]; exact h hi'

/-- A block of ours is taken over by a new entry, its cells written anew. -/
theorem Step.takeOver {ρ : Map} {H : Heap D} {w : World} (r : Rel ρ H w) {id : Nat} {c : Nat → Cont} {F : Nat → Loc} (hb : H[id]? = some (some (.cells true 1 c))) (hF : ρ[id]? = some F)
    {cs : Array Value} {e : TypeId} {fr : Nat × Nat} (hcs : w.heap[(F 0).blk]? = some (.cells cs e fr)) (cs' : Array Value) (hsz : cs'.size = cs.size) (sh : Nat) (c' : Cont) (hw : c'.wf)
    (hfin : sh + c'.len ≤ (F 0).fin) (hc : ∀ j x, c'.At j x → ∃ v, cs'[sh + j]? = some v ∧ RC ρ x v) :
    Step ρ H w id (ρ ++ [fun _ => ⟨(F 0).blk, sh, (F 0).fin, fun k => k = (F 0).blk, default⟩]) (H.set id none ++ [some (.cells true 1 fun _ => c')]) (w.setRow (F 0).blk cs') := by
  have hi0 : (0 : Nat) < 1 := by omega
  have h0 := r.at_ id _ F 0 hb hF hi0
  obtain ⟨g1, g2, cs0, e0, fr0, g3, g4, g5⟩ := h0.2.2.2.2 rfl
  rw [hcs] at g3
  cases g3
  have hnew := setRow_heap w (F 0).blk cs cs' e fr hcs
  have hid : id < H.length := (List.getElem?_eq_some_iff.1 hb).1
  let L : Nat → Loc := fun _ => ⟨(F 0).blk, sh, (F 0).fin, fun k => k = (F 0).blk, default⟩
  have hblk : (F 0).blk < w.heap.size := h0.2.2.1 _ ((g1 _).2 rfl)
  have g := Goes.app ρ [L]
  have hkeep : ∀ k, k ≠ (F 0).blk → (w.setRow (F 0).blk cs').heap[k]? = w.heap[k]? := by
    intro k hne
    simp only [World.setRow, Array.getElem?_modify]
    rw [if_neg (Ne.symm hne)]
  have hold : ∀ (i : Nat) (x : Blk D), (H.set id none)[i]? = some (some x) → H[i]? = some (some x) ∧ i ≠ id := by
    intro i x hx
    by_cases e : i = id
    · subst e; rw [List.getElem?_set_self hid] at hx; simp at hx
    · rw [List.getElem?_set_ne (Ne.symm e)] at hx; exact ⟨hx, e⟩
  have hmap : ∀ i F', (ρ ++ [L])[i]? = some F' → (ρ[i]? = some F' ∧ i < H.length) ∨ (i = H.length ∧ F' = L) := by
    intro i F' h; rcases get_app_cases h with ⟨h1, h2⟩ | ⟨h1, h2⟩
    · exact .inl ⟨h1, by rw [← r.len]; exact h2⟩
    · exact .inr ⟨by rw [← r.len]; exact h1, h2⟩
  have hheap : ∀ (i : Nat) (x : Blk D), (H.set id none ++ [some (.cells true 1 fun _ => c')])[i]? = some (some x) → (H[i]? = some (some x) ∧ i ≠ id ∧ i < H.length) ∨ (i = H.length ∧ x = .cells true 1 fun _ => c') := by
    intro i x h; rcases get_app_cases h with ⟨h1, h2⟩ | ⟨h1, h2⟩
    · exact .inl ⟨(hold i x h1).1, (hold i x h1).2, by simpa using h2⟩
    · exact .inr ⟨by simpa using h1, by simpa using h2⟩
  have hown : ownR ρ H id (F 0).blk := ⟨id, _, F, 0, Nat.le_refl _, hb, rfl, hi0, hF, (g1 _).2 rfl⟩
  have hfar : ∀ (i : Nat) (x : Blk D) (F' : Nat → Loc) (j : Nat), H[i]? = some (some x) → i ≠ id → ρ[i]? = some F' → x.live j → ∀ k, (F' j).foot k → k ≠ (F 0).blk := by
    intro i x F' j hx hne hF' hl k hk e
    subst e
    exact r.apart id _ F 0 i x F' j hb hF hi0 rfl hx hF' hl (by intro h; cases h; exact hne rfl) _ ((g1 _).2 rfl) hk
  refine Step.make r (GoesE.app ρ [L]) ⟨by simp [r.len], ?_, ?_⟩ ⟨rfl, rfl, rfl, by simp, fun k hk hn => hkeep k fun e => hn (by rw [e]; exact hown)⟩ ?_ ?_ (fun i x hge hx => by rcases hheap i x hx with ⟨_, _, h⟩ | ⟨_, rfl⟩ <;> first | omega | rfl)
  · intro i x F' j hx hF'
    rcases hheap i x hx with ⟨h1, h2, h3⟩ | ⟨rfl, rfl⟩ <;> rcases hmap _ F' hF' with ⟨f1, f2⟩ | ⟨f1, rfl⟩ <;> try omega
    · exact (r.at_ i x F' j h1 f1).keep g (by simp) fun hl k hk => hkeep k (hfar i x F' j h1 h2 f1 hl k hk)
    · intro hj
      refine ⟨hw, fun _ => rfl, fun k hk => ?_, ?_, fun _ => ⟨fun k => Iff.rfl, hfin, cs', e, fr, hnew, by rw [hsz]; exact g4, by rw [hsz]; exact g5⟩⟩
      · have : k = (F 0).blk := hk
        subst this; simpa using hblk
      · intro j x hx
        obtain ⟨v, hv, hr⟩ := hc j x hx
        exact ⟨v, by simpa [World.cell?, hnew, L] using hv, hr.goes g⟩
  · intro i1 x1 F1 j1 i2 x2 F2 j2 h1 f1 l1 o1 h2 f2 l2 hne k k1 k2
    rcases hheap i1 x1 h1 with ⟨a1, b1, c1⟩ | ⟨rfl, rfl⟩ <;> rcases hmap _ F1 f1 with ⟨d1, _⟩ | ⟨d1, rfl⟩ <;> try omega
    all_goals rcases hheap i2 x2 h2 with ⟨a2, b2, c2⟩ | ⟨rfl, rfl⟩ <;> rcases hmap _ F2 f2 with ⟨d2, _⟩ | ⟨d2, rfl⟩ <;> try omega
    · exact r.apart _ x1 F1 j1 _ x2 F2 j2 a1 d1 l1 o1 a2 d2 l2 hne k k1 k2
    · exact hfar i1 x1 F1 j1 a1 b1 d1 l1 k k1 k2
    · exact hfar i2 x2 F2 j2 a2 b2 d2 l2 k k2 k1
    · have e1 : j1 < 1 := l1
      have e2 : j2 < 1 := l2
      exact hne (by rw [show j1 = j2 by omega])
  · intro k o
    obtain ⟨i, x, F', j, h1, h2, h3, h4, h5, h6⟩ := o
    rcases hheap i x h2 with ⟨a1, b1, c1⟩ | ⟨rfl, rfl⟩
    · omega
    · rcases hmap _ F' h5 with ⟨c1, d1⟩ | ⟨c1, rfl⟩
      · omega
      · have : k = (F 0).blk := h6
        subst this
        exact .inr hown
  · intro i x hi hx
    rcases hheap i x hx with ⟨a1, b1, c1⟩ | ⟨rfl, rfl⟩
    · exact ⟨x, a1, rfl, fun _ h => h⟩
    · omega
end
end Go.Proofs.Ytnoonoghemgbbaa.Sx
