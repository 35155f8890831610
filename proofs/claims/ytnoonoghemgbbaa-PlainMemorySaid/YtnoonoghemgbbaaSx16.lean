/-
  A symbolic evaluator over the model's code: part 16: summaries of functions, each over a small heap.
-/
import Derived.Test.YtnoonoghemgbbaaSx15
set_option linter.unusedVariables false
set_option linter.unusedSimpArgs false
namespace Go.Proofs.Ytnoonoghemgbbaa.Sx
open Go
noncomputable section

section
variable {D : Type}

/-- What one call does over one heap. -/
def CanOk (P : Program) (f : FuncId) (H : Heap D) (args : List AV) (v : AV) (H' : Heap D) (low : Nat) : Prop :=
  ∀ ρ w (as : Array Value), Rel ρ H w → All2 (RV ρ) args as.toList → Calls P f as w fun e w' => ∃ r ρ', e = .returned r ∧ Step ρ H w low ρ' H' w' ∧ RV ρ' v r

theorem Valid.can {P : Program} {f : FuncId} {s : Sum D} (hs : Valid P f s) {args : List AV} {H H' : Heap D} {dec d : Dec} {p : VC} {v : AV} {low : Nat} (h : s args H dec = some (p, v, H', low, d)) (hp : VC.ok p) : CanOk P f H args v H' low :=
  fun ρ w as r ha => hs args H dec p v H' low d h hp ρ w as r ha

theorem CanOk.low {P : Program} {f : FuncId} {H H' : Heap D} {args : List AV} {v : AV} {low low' : Nat} (h : CanOk P f H args v H' low) (hl : low' ≤ low) : CanOk P f H args v H' low' :=
  fun ρ w as r ha => (h ρ w as r ha).mono fun _ _ ⟨r, ρ', e, hs, hr⟩ => ⟨r, ρ', e, hs.mono hl, hr⟩

/-- One way that a call may go: under a condition; the result; the small heap behind it; the lowest block that is touched. -/
structure Way (D : Type) where
  cond : VC
  go : Bool
  v : AV
  H : Heap D
  low : Nat

def mkSum {π : Type} (find : List AV → Heap D → Option (List Nat × π)) (ways : π → List (Way D)) : Sum D := fun args H dec =>
  match find args H with
  | some (θ, x) => match Nat.ble H.length 1000000000, dec with
    | true, k :: d => match (ways x)[k]? with
      | some y => match Nat.ble y.H.length 1000000000 with
        | true => some (y.cond, renV (rid θ H.length) y.v, lift θ y.H H, lowOf H.length (θ.drop y.low), d)
        | false => none
      | none => none
    | _, _ => none
  | none => none

theorem mkSum_valid {P : Program} {f : FuncId} {π : Type} {find : List AV → Heap D → Option (List Nat × π)} {ways : π → List (Way D)} (hc : π → Heap D) (ac : π → List AV)
    (hfind : ∀ args H θ x, H.length ≤ 1000000000 → find args H = some (θ, x) → Part θ (hc x) H ∧ ∀ ρ (as : List Value), All2 (RV ρ) args as → All2 (RV ρ) ((ac x).map (renV (rid θ H.length))) as)
    (hways : ∀ (x : π) (k : Nat) (y : Way D), (ways x)[k]? = some y → VC.ok y.cond → CanOk P f (hc x) (ac x) y.v y.H y.low) : Valid P f (mkSum find ways) := by
  intro args H dec p v H' low d h hp ρ w as r ha
  unfold mkSum at h
  split at h
  · rename_i θ x hf
    split at h
    · rename_i k d' hb
      have hfew : H.length ≤ 1000000000 := Nat.le_of_ble_eq_true hb
      obtain ⟨hpart, hargs⟩ := hfind args H θ x hfew hf
      split at h
      · rename_i y hy
        split at h
        · rename_i hb2
          simp only [Option.some.injEq, Prod.mk.injEq] at h
          obtain ⟨rfl, rfl, rfl, rfl, rfl⟩ := h
          have ha' := All2.unmap_left (f := renV (rid θ H.length)) (R := RV (smallMap θ ρ)) (fun a b => RV.unren (small_unren r hpart)) (hargs ρ as.toList ha)
          refine (hways x k y hy hp (smallMap θ ρ) w as (hpart.rel r) ha').mono ?_
          rintro e w' ⟨rv, ρc', rfl, hs, hr⟩
          obtain ⟨ρ', g, hs'⟩ := hpart.step r hs (Nat.le_of_ble_eq_true hb2)
          exact ⟨rv, ρ', rfl, hs', hr.ren g⟩
        · cases h
      · cases h
    · cases h
  · cases h

/-- The small heap is a part, entry by entry. -/
theorem Part.of {θ : List Nat} {Hc H : Heap D} (len : θ.length = Hc.length) (few : H.length ≤ 1000000000) (nodup : θ.Nodup)
    (all : ∀ (i j : Nat) (b : Option (Blk D)), θ[i]? = some j → Hc[i]? = some b → j < H.length ∧ ∀ b0, b = some b0 → ∃ b', H[j]? = some (some b') ∧ Weak b' (renB (rid θ H.length) b0)) : Part θ Hc H := by
  refine ⟨len, ?_, ?_, ?_, few⟩
  · intro i j hj
    have hi : i < Hc.length := by rw [← len]; exact (List.getElem?_eq_some_iff.1 hj).1
    exact (all i j _ hj (List.getElem?_eq_getElem hi)).1
  · intro i i' j h1 h2
    obtain ⟨a1, b1⟩ := List.getElem?_eq_some_iff.1 h1
    obtain ⟨a2, b2⟩ := List.getElem?_eq_some_iff.1 h2
    exact (List.getElem_inj nodup).1 (b1.trans b2.symm)
  · intro i j b h1 h2
    exact (all i j _ h1 h2).2 b rfl

theorem Part.nil {H : Heap D} (few : H.length ≤ 1000000000) : Part [] [] H :=
  Part.of rfl few List.nodup_nil fun i j b h => by simp at h

theorem Part.one {j : Nat} {b : Blk D} {H : Heap D} (few : H.length ≤ 1000000000) {b' : Blk D} (hb : H[j]? = some (some b')) (hw : Weak b' (renB (rid [j] H.length) b)) : Part [j] [some b] H :=
  Part.of rfl few (by simp) fun i k c h1 h2 => by
    cases i with
    | zero =>
      simp at h1 h2
      subst h1 h2
      exact ⟨(List.getElem?_eq_some_iff.1 hb).1, fun b0 e => by cases e; exact ⟨b', hb, hw⟩⟩
    | succ i => simp at h1

theorem Part.two {j k : Nat} {b c : Blk D} {H : Heap D} (few : H.length ≤ 1000000000) (hne : j ≠ k) {b' c' : Blk D} (hb : H[j]? = some (some b')) (hw : Weak b' (renB (rid [j, k] H.length) b))
    (hb2 : H[k]? = some (some c')) (hw2 : Weak c' (renB (rid [j, k] H.length) c)) : Part [j, k] [some b, some c] H :=
  Part.of rfl few (by simp [hne]) fun i m x h1 h2 => by
    match i, h1, h2 with
    | 0, h1, h2 =>
      simp at h1 h2
      subst h1 h2
      exact ⟨(List.getElem?_eq_some_iff.1 hb).1, fun b0 e => by cases e; exact ⟨b', hb, hw⟩⟩
    | 1, h1, h2 =>
      simp at h1 h2
      subst h1 h2
      exact ⟨(List.getElem?_eq_some_iff.1 hb2).1, fun b0 e => by cases e; exact ⟨c', hb2, hw2⟩⟩
    | i + 2, h1, h2 => simp at h1

/-- Cells that are whole numbers, said as numbers. -/
theorem Weak.ints {own : Bool} {num : Nat} {c : Nat → Cont} {k : IntKind} {l : List Int} {cs : List Cell} (hc : ∀ i, i < num → c i = .raw cs) (h : colInts k cs = some l) : Weak (D := D) (.cells own num c) (.cells own num fun _ => .ints k l) := by
  refine ⟨rfl, fun _ => Iff.rfl, ?_⟩
  intro ρ w L idx hb hi
  obtain ⟨h0, h1, h2, h3, h4⟩ := hb hi
  rw [hc idx hi] at h1 h3 h4
  have e := colInts_len h
  refine ⟨trivial, fun hl => h1 (by simpa [Cont.len, ← e] using hl), h2, fun j x hx => h3 j x (colInts_at h hx), fun ho => ?_⟩
  obtain ⟨g1, g2, g3⟩ := h4 ho
  exact ⟨g1, by simpa [Cont.len, e] using g2, g3⟩

/-- The same, of a call that turns no memory. -/
structure QWay where
  cond : VC
  go : Bool
  v : AV

/-- A call that turns no memory, and is handed no address. -/
def quietSum (g : List AV → Option (List QWay)) : Sum D := fun args H dec =>
  match g args, dec with
  | some l, k :: d => match l[k]? with
    | some y => some (y.cond, y.v, H, H.length, d)
    | none => none
  | _, _ => none


def flatC : Cell → Bool
  | .bool _ => true
  | .int _ _ => true
  | .str _ => true
  | .nilFunc => true
  | .func _ [] => true
  | .ptr true _ _ _ => true
  | .slice true _ _ _ _ _ _ => true
  | .map true _ _ => true
  | _ => false
def flatL : List Cell → Bool
  | [] => true
  | c :: l => flatC c && flatL l
def flat1 : AV1 → Bool
  | .cell c => flatC c
  | .agg cs => flatL cs
def flatL1 : List AV1 → Bool
  | [] => true
  | c :: l => flat1 c && flatL1 l
def flatV : AV → Bool
  | .cell c => flatC c
  | .agg cs => flatL cs
  | .tup l => flatL1 l
  | .junk => true

theorem RC.flatten {ρ ρ' : Map} {c : Cell} {v : Value} (hf : flatC c = true) (h : RC ρ c v) : RC ρ' c v := by
  unfold flatC at hf
  split at hf
  · exact h
  · exact h
  · exact h
  · exact h
  · obtain ⟨vs, e, hh⟩ := h
    cases vs with
    | nil => exact ⟨[], e, trivial⟩
    | cons _ _ => exact hh.elim
  · rcases h with h | ⟨h, _⟩
    · exact .inl h
    · cases h
  · rcases h with h | ⟨h, _⟩
    · exact .inl h
    · cases h
  · rcases h with h | ⟨h, _⟩
    · exact .inl h
    · cases h
  · cases hf

theorem RL.flatten {ρ ρ' : Map} : ∀ {cs : List Cell} {vs : List Value}, flatL cs = true → All2 (RC ρ) cs vs → All2 (RC ρ') cs vs
  | [], [], _, _ => trivial
  | c :: cs, v :: vs, hf, ⟨h1, h2⟩ => by
    simp only [flatL, Bool.and_eq_true] at hf
    exact ⟨RC.flatten hf.1 h1, RL.flatten hf.2 h2⟩
  | [], _ :: _, _, h => h.elim
  | _ :: _, [], _, h => h.elim

theorem R1.flatten {ρ ρ' : Map} {c : AV1} {v : Value} (hf : flat1 c = true) (h : R1 ρ c v) : R1 ρ' c v := by
  cases c with
  | cell c => exact RC.flatten hf h
  | agg cs => obtain ⟨vs, e, h⟩ := h; exact ⟨vs, e, RL.flatten hf h⟩

theorem RL1.flatten {ρ ρ' : Map} : ∀ {cs : List AV1} {vs : List Value}, flatL1 cs = true → All2 (R1 ρ) cs vs → All2 (R1 ρ') cs vs
  | [], [], _, _ => trivial
  | c :: cs, v :: vs, hf, ⟨h1, h2⟩ => by
    simp only [flatL1, Bool.and_eq_true] at hf
    exact ⟨R1.flatten hf.1 h1, RL1.flatten hf.2 h2⟩
  | [], _ :: _, _, h => h.elim
  | _ :: _, [], _, h => h.elim

theorem RV.flatten {ρ ρ' : Map} {c : AV} {v : Value} (hf : flatV c = true) (h : RV ρ c v) : RV ρ' c v := by
  cases c with
  | cell c => exact RC.flatten hf h
  | agg cs => obtain ⟨vs, e, h⟩ := h; exact ⟨vs, e, RL.flatten hf h⟩
  | tup l => obtain ⟨vs, e, h⟩ := h; exact ⟨vs, e, RL1.flatten hf h⟩
  | junk => trivial

def flatVs : List AV → Bool
  | [] => true
  | c :: l => flatV c && flatVs l

theorem RVs.flatten {ρ ρ' : Map} : ∀ {cs : List AV} {vs : List Value}, flatVs cs = true → All2 (RV ρ) cs vs → All2 (RV ρ') cs vs
  | [], [], _, _ => trivial
  | c :: cs, v :: vs, hf, ⟨h1, h2⟩ => by
    simp only [flatVs, Bool.and_eq_true] at hf
    exact ⟨RV.flatten hf.1 h1, RVs.flatten hf.2 h2⟩
  | [], _ :: _, _, h => h.elim
  | _ :: _, [], _, h => h.elim

theorem Rel.nil (w : World) : Rel ([] : Map) ([] : Heap D) w :=
  ⟨rfl, fun id b F idx h => by simp at h, fun id b F idx id' b' F' idx' h => by simp at h⟩

/-- Nothing that was there has turned: the heap stands as it did. -/
theorem Step.still {ρ : Map} {H : Heap D} {w w' : World} (r : Rel ρ H w) (h : Ext w w' fun _ => False) : Step ρ H w H.length ρ H w' := by
  refine Step.make r (GoesE.refl ρ) ⟨r.len, ?_, r.apart⟩ (h.mono fun _ _ h => h.elim) (fun k o => (ownR.none o).elim) (fun id b' _ h => ⟨b', h, rfl, fun _ h => h⟩) (fun id b' hge hb => by have := (List.getElem?_eq_some_iff.1 hb).1; omega)
  intro id b F idx hb hF
  exact (r.at_ id b F idx hb hF).keep (Goes.refl ρ) h.size fun hl k hk => h.block k (r.lt hb hF hl hk) fun h => h

theorem quietSum_valid {P : Program} {f : FuncId} {g : List AV → Option (List QWay)} (hflat : ∀ args l, g args = some l → flatVs args = true)
    (h : ∀ args l (k : Nat) (y : QWay), g args = some l → l[k]? = some y → VC.ok y.cond → flatV y.v = true ∧ ∃ Hg low, CanOk P f ([] : Heap D) args y.v Hg low) : Valid P f (quietSum (D := D) g) := by
  intro args H dec p v H' low d hs hp ρ w as r ha
  unfold quietSum at hs
  split at hs
  · rename_i l k d' hg
    split at hs
    · rename_i u hy
      simp only [Option.some.injEq, Prod.mk.injEq] at hs
      obtain ⟨rfl, rfl, rfl, rfl, rfl⟩ := hs
      obtain ⟨hfv, Hg, low, hcan⟩ := h args l k u hg hy hp
      refine (hcan [] w as (Rel.nil w) (RVs.flatten (hflat args l hg) ha)).mono ?_
      rintro e w' ⟨rv, ρ', rfl, hst, hr⟩
      refine ⟨rv, ρ, rfl, Step.still r (hst.ext.mono ?_), RV.flatten hfv hr⟩
      rintro k _ ⟨id, b, F, idx, _, hb, _⟩
      simp at hb
    · cases hs
  · cases hs
end
end
end Go.Proofs.Ytnoonoghemgbbaa.Sx
