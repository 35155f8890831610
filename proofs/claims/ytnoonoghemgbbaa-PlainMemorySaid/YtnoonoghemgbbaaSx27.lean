/-
  A symbolic evaluator over the model's code: part 27: new blocks that nothing refers to are let go.
-/
import Derived.Test.YtnoonoghemgbbaaSx26
set_option linter.unusedVariables false
set_option linter.unusedSimpArgs false
namespace Go.Proofs.Ytnoonoghemgbbaa.Sx
open Go
noncomputable section

def refs (n i : Nat) : Bool := Nat.blt i n || Nat.ble 1000000000 i

section
variable {D : Type}

def idsO : Ob → List Nat
  | .map es => es.flatMap fun e => ids1 e.1 ++ ids1 e.2
  | _ => []

def fitH (n : Nat) : Heap D → Bool
  | [] => true
  | none :: l => fitH n l
  | some (.cells _ num c) :: l => Nat.beq num 1 && (plainCont (c 0) && ((idsCont (c 0)).all (refs n) && fitH n l))
  | some (.obj o) :: l => (idsO o).all (refs n) && fitH n l

def fits (n : Nat) (vs : List AV) (H : Heap D) : Bool := Nat.ble H.length 1000000000 && (fitH n (H.take n) && (vs.flatMap idsV).all (refs n))

theorem take_at {ρ : Map} {n i : Nat} (hl : ρ.length ≤ 1000000000) (h : refs n i = true) {F : Nat → Loc} (e : ρ[i]? = some F) : (ρ.take n)[i]? = some F := by
  have hi := (List.getElem?_eq_some_iff.1 e).1
  unfold refs at h
  simp only [Bool.or_eq_true, Nat.blt_eq, Nat.ble_eq] at h
  rw [List.getElem?_take, if_pos (by omega)]
  exact e

theorem RC.cut {ρ : Map} {n : Nat} (hl : ρ.length ≤ 1000000000) {c : Cell} {v : Value} (hc : (idsC c).all (refs n) = true) (h : RC ρ c v) : RC (ρ.take n) c v := by
  cases c with
  | ptr nl id idx off =>
    simp only [idsC, List.all_cons, List.all_nil, Bool.and_true] at hc
    rcases h with h | ⟨h1, F, h2, h3⟩
    · exact .inl h
    · exact .inr ⟨h1, F, take_at hl hc h2, h3⟩
  | slice nl id idx off len cap sz =>
    simp only [idsC, List.all_cons, List.all_nil, Bool.and_true] at hc
    rcases h with h | ⟨h1, F, r, h2, h3⟩
    · exact .inl h
    · exact .inr ⟨h1, F, r, take_at hl hc h2, h3⟩
  | func f caps =>
    obtain ⟨vs, e, h⟩ := h
    refine ⟨vs, e, ?_⟩
    clear e
    simp only [idsC] at hc
    induction caps generalizing vs with
    | nil => cases vs with
      | nil => exact trivial
      | cons _ _ => exact h.elim
    | cons p l ih =>
      cases vs with
      | nil => exact h.elim
      | cons u vs =>
        simp only [List.map_cons, List.all_cons, Bool.and_eq_true] at hc
        obtain ⟨⟨F, h1, h2⟩, h3⟩ := h
        exact ⟨⟨F, take_at hl hc.1 h1, h2⟩, ih hc.2 vs h3⟩
  | map nl id idx =>
    simp only [idsC, List.all_cons, List.all_nil, Bool.and_true] at hc
    rcases h with h | ⟨h1, F, h2, h3⟩
    · exact .inl h
    · exact .inr ⟨h1, F, take_at hl hc h2, h3⟩
  | yld id =>
    simp only [idsC, List.all_cons, List.all_nil, Bool.and_true] at hc
    obtain ⟨F, h2, h3⟩ := h
    exact ⟨F, take_at hl hc h2, h3⟩
  | bool b => exact h
  | int k n => exact h
  | str l => exact h
  | empty => exact h
  | nilFunc => exact h
  | anyp => exact h

theorem RCs.cut {ρ : Map} {n : Nat} (hl : ρ.length ≤ 1000000000) : ∀ {cs : List Cell} {vs : List Value}, (cs.flatMap idsC).all (refs n) = true → All2 (RC ρ) cs vs → All2 (RC (ρ.take n)) cs vs
  | [], [], _, _ => trivial
  | c :: cs, v :: vs, hc, h => by
    simp only [List.flatMap_cons, List.all_append, Bool.and_eq_true] at hc
    exact ⟨h.1.cut hl hc.1, RCs.cut hl hc.2 h.2⟩
  | [], _ :: _, _, h => h.elim
  | _ :: _, [], _, h => h.elim

theorem R1.cut {ρ : Map} {n : Nat} (hl : ρ.length ≤ 1000000000) {c : AV1} {v : Value} (hc : (ids1 c).all (refs n) = true) (h : R1 ρ c v) : R1 (ρ.take n) c v := by
  cases c with
  | cell c => exact RC.cut hl hc h
  | agg cs => obtain ⟨vs, e, h⟩ := h; exact ⟨vs, e, RCs.cut hl hc h⟩

theorem R1s.cut {ρ : Map} {n : Nat} (hl : ρ.length ≤ 1000000000) : ∀ {cs : List AV1} {vs : List Value}, (cs.flatMap ids1).all (refs n) = true → All2 (R1 ρ) cs vs → All2 (R1 (ρ.take n)) cs vs
  | [], [], _, _ => trivial
  | c :: cs, v :: vs, hc, h => by
    simp only [List.flatMap_cons, List.all_append, Bool.and_eq_true] at hc
    exact ⟨h.1.cut hl hc.1, R1s.cut hl hc.2 h.2⟩
  | [], _ :: _, _, h => h.elim
  | _ :: _, [], _, h => h.elim

theorem RV.cut {ρ : Map} {n : Nat} (hl : ρ.length ≤ 1000000000) {c : AV} {v : Value} (hc : (idsV c).all (refs n) = true) (h : RV ρ c v) : RV (ρ.take n) c v := by
  cases c with
  | cell c => exact RC.cut hl hc h
  | agg cs => obtain ⟨vs, e, h⟩ := h; exact ⟨vs, e, RCs.cut hl hc h⟩
  | tup l => obtain ⟨vs, e, h⟩ := h; exact ⟨vs, e, R1s.cut hl hc h⟩
  | junk => trivial

theorem RVs.cut {ρ : Map} {n : Nat} (hl : ρ.length ≤ 1000000000) : ∀ {cs : List AV} {vs : List Value}, (cs.flatMap idsV).all (refs n) = true → All2 (RV ρ) cs vs → All2 (RV (ρ.take n)) cs vs
  | [], [], _, _ => trivial
  | c :: cs, v :: vs, hc, h => by
    simp only [List.flatMap_cons, List.all_append, Bool.and_eq_true] at hc
    exact ⟨h.1.cut hl hc.1, RVs.cut hl hc.2 h.2⟩
  | [], _ :: _, _, h => h.elim
  | _ :: _, [], _, h => h.elim

theorem fitH_at {n : Nat} : ∀ {H : Heap D} {id : Nat} {b : Blk D}, fitH n H = true → H[id]? = some (some b) → (∃ own c, b = .cells own 1 c ∧ plainCont (c 0) = true ∧ (idsCont (c 0)).all (refs n) = true) ∨ (∃ o, b = .obj o ∧ (idsO o).all (refs n) = true)
  | [], _, _, _, h => by simp at h
  | none :: l, 0, _, _, h => by simp at h
  | none :: l, id + 1, _, hf, h => fitH_at (H := l) (by simpa [fitH] using hf) (by simpa using h)
  | some (.cells own num c) :: l, id, b, hf, h => by
    simp only [fitH, Bool.and_eq_true] at hf
    have hn := Nat.eq_of_beq_eq_true hf.1
    subst hn
    cases id with
    | zero => simp at h; subst h; exact .inl ⟨own, c, rfl, hf.2.1, hf.2.2.1⟩
    | succ id => exact fitH_at (H := l) hf.2.2.2 (by simpa using h)
  | some (.obj o) :: l, id, b, hf, h => by
    simp only [fitH, Bool.and_eq_true] at hf
    cases id with
    | zero => simp at h; subst h; exact .inr ⟨o, rfl, hf.1⟩
    | succ id => exact fitH_at (H := l) hf.2 (by simpa using h)

theorem ObAt.cut {ρ : Map} {n : Nat} (hl : ρ.length ≤ 1000000000) {w : World} {L : Nat → Loc} {o : Ob} (hc : (idsO o).all (refs n) = true) (h : ObAt ρ w L o) : ObAt (ρ.take n) w L o := by
  cases o with
  | map es =>
    obtain ⟨arr, clock, h1, h2, h3⟩ := h
    refine ⟨arr, clock, h1, ?_, h3⟩
    clear h1 h3
    simp only [idsO] at hc
    generalize arr.toList = l at h2
    induction es generalizing l with
    | nil => cases l with
      | nil => exact trivial
      | cons _ _ => exact h2.elim
    | cons e es ih =>
      cases l with
      | nil => exact h2.elim
      | cons m l =>
        simp only [List.flatMap_cons, List.all_append, Bool.and_eq_true] at hc
        exact ⟨⟨R1.cut hl hc.1.1 h2.1.1, R1.cut hl hc.1.2 h2.1.2⟩, ih hc.2 l h2.2⟩
  | iter s pos => exact h
  | loop st pend => exact h
  | ab d => exact h

theorem ContAt.cut {ρ : Map} {n : Nat} (hl : ρ.length ≤ 1000000000) {w : World} {L : Loc} {c : Cont} (hp : plainCont c = true) (hc : (idsCont c).all (refs n) = true) (h : ContAt ρ w L c) : ContAt (ρ.take n) w L c := by
  intro j x hx
  obtain ⟨v, hv, hr⟩ := h j x hx
  refine ⟨v, hv, RC.cut hl ?_ hr⟩
  cases c with
  | raw cs =>
    have hx : cs[j]? = some x := hx
    have hm := List.mem_of_getElem? hx
    rw [List.all_eq_true] at hc ⊢
    intro i hi
    exact hc i (by simp only [idsCont, List.mem_flatMap]; exact ⟨x, hm, hi⟩)
  | ints k l =>
    obtain ⟨y, _, rfl⟩ : ∃ y, l[j]? = some y ∧ x = .int k y := by
      cases hl : l[j]? with
      | none => simp [Cont.At, hl] at hx
      | some y => exact ⟨y, rfl, by simpa [Cont.At, hl, eq_comm] using hx⟩
    rfl
  | fam a b f => simp [plainCont] at hp

theorem Rel.cut {ρ : Map} {H : Heap D} {w : World} (n : Nat) (hl : H.length ≤ 1000000000) (hf : fitH n (H.take n) = true) (h : Rel ρ H w) : Rel (ρ.take n) (H.take n) w := by
  have hlen : ρ.length ≤ 1000000000 := by rw [h.len]; exact hl
  have hH : ∀ {id : Nat} {b : Blk D}, (H.take n)[id]? = some (some b) → H[id]? = some (some b) := by
    intro id b e
    rw [List.getElem?_take] at e
    split at e
    · exact e
    · cases e
  have hR : ∀ {id : Nat} {F : Nat → Loc}, (ρ.take n)[id]? = some F → ρ[id]? = some F := by
    intro id F e
    rw [List.getElem?_take] at e
    split at e
    · exact e
    · cases e
  refine ⟨by simp [h.len], ?_, ?_⟩
  · intro id b F idx hb hF
    rcases fitH_at hf hb with ⟨own, c, rfl, hp, hc⟩ | ⟨o, rfl, hc⟩
    · intro hi
      have h0 : idx = 0 := by omega
      subst h0
      obtain ⟨g1, g2, g3, g4, g5⟩ := h.at_ id _ F 0 (hH hb) (hR hF) hi
      exact ⟨g1, g2, g3, g4.cut hlen hp hc, g5⟩
    · intro hi
      obtain ⟨g1, g2, g3⟩ := h.at_ id _ F idx (hH hb) (hR hF) hi
      exact ⟨g1, g2, g3.cut hlen hc⟩
  · intro id b F idx id' b' F' idx' hb hF h1 h2 hb' hF' h3 hne
    exact h.apart id b F idx id' b' F' idx' (hH hb) (hR hF) h1 h2 (hH hb') (hR hF') h3 hne

theorem Step.cut {ρ ρ' : Map} {H H' : Heap D} {w w' : World} {low : Nat} (r : Rel ρ H w) (n : Nat) (hn : H.length ≤ n) (hl : H'.length ≤ 1000000000) (hf : fitH n (H'.take n) = true) (h : Step ρ H w low ρ' H' w') :
    Step ρ H w low (ρ'.take n) (H'.take n) w' := by
  have hH : ∀ {id : Nat} {b : Blk D}, (H'.take n)[id]? = some (some b) → H'[id]? = some (some b) := by
    intro id b e
    rw [List.getElem?_take] at e
    split at e
    · exact e
    · cases e
  have hR : ∀ {id : Nat} {F : Nat → Loc}, (ρ'.take n)[id]? = some F → ρ'[id]? = some F := by
    intro id F e
    rw [List.getElem?_take] at e
    split at e
    · exact e
    · cases e
  refine ⟨?_, h.rel.cut n hl hf, h.ext, ?_, ?_, ?_⟩
  · intro i F hi
    obtain ⟨F', h1, h2⟩ := h.goes i F hi
    have := (List.getElem?_eq_some_iff.1 hi).1
    rw [r.len] at this
    exact ⟨F', by rw [List.getElem?_take, if_pos (by omega)]; exact h1, h2⟩
  · rintro id k ⟨b, F, idx, h1, h2, h3, h4, h5⟩
    exact h.each id k ⟨b, F, idx, hH h1, h2, h3, hR h4, h5⟩
  · intro id b' hid hb
    obtain ⟨b, e, o, l, f⟩ := h.old id b' hid (hH hb)
    exact ⟨b, e, o, l, fun ho F F' hF hF' => f ho F F' hF (hR hF')⟩
  · intro id b' hid hb
    exact h.mine id b' hid (hH hb)

theorem CanOk.cut {P : Program} {f : FuncId} {H H' : Heap D} {args : List AV} {v : AV} {low : Nat} (n : Nat) (hn : H.length ≤ n) (hf : fits n [v] H' = true) (h : CanOk P f H args v H' low) :
    CanOk P f H args v (H'.take n) low := by
  intro ρ w as r ha
  refine (h ρ w as r ha).mono fun e w' he => ?_
  obtain ⟨rv, ρ', rfl, hs, hr⟩ := he
  simp only [fits, Bool.and_eq_true, Nat.ble_eq, List.flatMap_cons, List.flatMap_nil, List.append_nil] at hf
  exact ⟨rv, _, rfl, hs.cut r n hn hf.1 hf.2.1, hr.cut (by rw [hs.rel.len]; exact hf.1) hf.2.2⟩

theorem Done.cut {B : Nat} {ρ : Map} {H H' : Heap D} {w : World} {ex : Ex} {t' : List AV} {low : Nat} {e : Exit} {a : Act} {w' : World} (r : Rel ρ H w) (n : Nat) (hn : H.length ≤ n) (hf : fits n t' H' = true)
    (h : Done B ρ H w ex t' H' low e a w') : Done B ρ H w ex t' (H'.take n) low e a w' := by
  obtain ⟨h1, h2, ρ', hs, ht⟩ := h
  simp only [fits, Bool.and_eq_true, Nat.ble_eq] at hf
  exact ⟨h1, h2, _, hs.cut r n hn hf.1 hf.2.1, RVs.cut (by rw [hs.rel.len]; exact hf.1) hf.2.2 ht⟩

theorem Runs.cut {P : Program} {c : Code} {t t' : List AV} {H H' : Heap D} {ex : Ex} {low : Nat} (n : Nat) (hn : H.length ≤ n) (hf : fits n t' H' = true) (h : Runs P c t H ex t' H' low) : Runs P c t H ex t' (H'.take n) low := by
  cases c with
  | loop body => obtain ⟨m, hm⟩ := h; exact ⟨m, fun q B ρ w a r ht hd => rounds_mono (fun _ _ _ => Done.cut r n hn hf) (hm q B ρ w a r ht hd)⟩
  | _ => exact fun q B ρ w a r ht hd => wpIn_mono (h q B ρ w a r ht hd) fun _ _ _ => Done.cut r n hn hf

/-- A run of which some temporaries, and the blocks from n on, are not looked at any more. -/
def trimE (is : List Nat) (n : Nat) (r : ER D) : ER D :=
  match r with
  | some (vc, ex, t, H, l, d) => some (cq (fits n (junkAt is t) H) true :: vc, ex, junkAt is t, H.take n, l, d)
  | none => none

theorem Good.runsT {P : Program} (hmix : P.follows .mixedOrders = true) {S : FuncId → Option (Sum D)} (hS : ∀ f s, S f = some s → Valid P f s) {L : Nat → Option (Code × LSum D)} (hL : ∀ k b s, L k = some (b, s) → LValid P b s)
    {fuel n m : Nat} {c : Code} {is : List Nat} {t t' : List AV} {H H' : Heap D} {dec d : Dec} {ex : Ex} {low : Nat} {ks : List Nat} {ps : List Prop} (hm : H.length ≤ m)
    (h : Good (trimE is m (codeR P S L fuel n c t H dec)) ks ps (ex, t', H', low, d)) (hp : AllP ps) : Runs P c t H ex t' H' low := by
  obtain ⟨vc, e, hv⟩ := h.ok hp
  unfold trimE at e
  split at e
  · rename_i vc1 ex1 t1 H1 l1 d1 hr
    simp only [Option.some.injEq, Prod.mk.injEq] at e
    obtain ⟨rfl, rfl, rfl, rfl, rfl, rfl⟩ := e
    have hE := runF_valid hmix hS (L := fun _ _ => none) (fun _ _ _ _ h => by cases h) fuel n
    exact Runs.cut m hm hv.1 (Runs.post is (codeA_ok hE (drawR_ok hmix hE) fuel false L noY [] c hL (noY_valid _ _) hr hv.2).runs)
  · cases e

/-- A call of which the blocks from n on are not looked at any more. -/
def trimF (n : Nat) (r : ML D) : ML D :=
  match r with
  | some (vc, v, H, l, d) => some (cq (fits n [v] H) true :: vc, v, H.take n, l, d)
  | none => none

theorem Good.canT {P : Program} {f : FuncId} {s : Sum D} (hs : Valid P f s) {args : List AV} {H H' : Heap D} {dec d : Dec} {v : AV} {low n : Nat} {ks : List Nat} {ps : List Prop} (hn : H.length ≤ n)
    (h : Good (trimF n (s args H dec)) ks ps (v, H', low, d)) (hp : AllP ps) : CanOk P f H args v H' low := by
  obtain ⟨vc, e, hv⟩ := h.ok hp
  unfold trimF at e
  split at e
  · rename_i hr
    simp only [Option.some.injEq, Prod.mk.injEq] at e
    obtain ⟨rfl, rfl, rfl, rfl, rfl⟩ := e
    exact CanOk.cut n hn hv.1 (hs.can hr hv.2)
  · cases e
end
end
end Go.Proofs.Ytnoonoghemgbbaa.Sx
