/-
  A symbolic evaluator over the model's code: part 19: regions that draw their order.
-/
import Derived.Test.YtnoonoghemgbbaaSx18
set_option linter.unusedVariables false
set_option linter.unusedSimpArgs false
namespace Go.Proofs.Ytnoonoghemgbbaa.Sx
open Go
noncomputable section

section
variable {D : Type}

/-- The blocks of H below m, as they stand; those above are not known. -/
def coldH (m n : Nat) (H : Heap D) : Heap D := H.take m ++ List.replicate (n - m) none

/-- The first one of those ready that may be taken ahead. -/
def pickA (P : Program) (H0 : Heap D) (m : Nat) (Wl : List Nat) (ops : Array Oper) (clean : Bool) (ls : List Bool) (t : List AV) (n : Nat) (dec : Dec) : List Nat → Option (Nat × Oper × VC × AV × Dec)
  | [] => none
  | i :: rest => match ops[i]? with
    | none => none
    | some o => match freeAt ops ls Wl false i o 0 ops.toList with
      | false => pickA P H0 m Wl ops clean ls t n dec rest
      | true => match calmA P (List.replicate n (none : Option (Blk D))) ops t dec o with
        | some (p, v, d) => some (i, o, p, v, d)
        | none => match clean && (!(Wl.any (Nat.beq i)) && freeAt ops ls Wl true i o 0 ops.toList) with
          | false => pickA P H0 m Wl ops clean ls t n dec rest
          | true => match calmA P (coldH m n H0) ops t dec o with
            | some (p, v, d) => some (i, o, p, v, d)
            | none => pickA P H0 m Wl ops clean ls t n dec rest

def idsC : Cell → List Nat
  | .ptr _ id _ _ => [id]
  | .slice _ id _ _ _ _ _ => [id]
  | .func _ caps => caps.map (·.1)
  | .map _ id _ => [id]
  | .yld id => [id]
  | _ => []
def ids1 : AV1 → List Nat
  | .cell c => idsC c
  | .agg cs => cs.flatMap idsC
def idsV : AV → List Nat
  | .cell c => idsC c
  | .agg cs => cs.flatMap idsC
  | .tup l => l.flatMap ids1
  | .junk => []

def fixT (f : Nat → Nat) (t : List AV) : Bool := t.all fun v => (idsV v).all fun i => Nat.beq (f i) i

def dstsA : List Oper → List Bool → List Nat
  | o :: l, false :: ls => match o.dst with
    | some d => d :: dstsA l ls
    | none => dstsA l ls
  | _ :: l, _ :: ls => dstsA l ls
  | _, _ => []

/-- The other orders end as the first one does. -/
def joinA (br : Nat → Dec → RR D) (n : Nat) (t : List AV) (ds : List Nat) : List Nat → (VC × List AV × Heap D × Nat × Dec) → RR D
  | [], acc => some acc
  | i :: rest, (p, t1, H1, l1, dec) => match dec with
    | [] => none
    | k :: d => match br i (d.drop k) with
      | none => none
      | some (q, t2, H2, l2, d2) => match permOk n (d.take k) H2.length && fixT (pf n (d.take k)) t with
        | false => none
        | true => joinA br n t ds rest (p ++ (q ++ [cq (ds.map fun j => t1[j]?) (ds.map fun j => (t2[j]?).map (renV (pf n (d.take k)))), cq H1 (permH (pf n (d.take k)) (pinv n (d.take k)) H2.length H2)]), t1, H1, min l1 l2, d2)

def drawA (P : Program) (E : FuncId → Sum D) (ops : Array Oper) (H0 : Heap D) (m : Nat) (Wl : List Nat) : Nat → Bool → List Bool → List AV → Heap D → Dec → RR D
  | k, clean, ls, t, H, dec => match readyL ops.toList ls with
    | [] => some ([], t, H, H.length, dec)
    | r :: rs => match k with
      | 0 => none
      | k + 1 => match pickA P H0 m Wl ops clean ls t H.length dec (r :: rs) with
        | some (i, o, p, v, d) => match drawA P E ops H0 m Wl k clean (ls.set i true) (putA t o.dst v) H d with
          | some (q, res) => some (p ++ q, res)
          | none => none
        | none =>
          let br : Nat → Dec → RR D := fun i dec => match ops[i]? with
            | none => none
            | some o => match guardA ops t o dec with
              | some (p, true, d) => match opD P E t H d o.op with
                | some (q, v, H', l, d') => match !clean || (Wl.any (Nat.beq i) || Nat.ble m l) with
                  | true => match drawA P E ops H0 m Wl k (clean && !(Wl.any (Nat.beq i))) (ls.set i true) (putA t o.dst v) H' d' with
                    | some (s, t', H'', l', d'') => some (p ++ (q ++ s), t', H'', min l l', d'')
                    | none => none
                  | false => none
                | none => none
              | _ => none
          match br r dec with
          | some acc => joinA br H.length t (dstsA ops.toList ls) rs acc
          | none => none

/-- A region that draws its order. Decisions: how much of the heap nobody but the writers turns; how many writers, and which. -/
def drawR (P : Program) (E : FuncId → Sum D) : Array Oper → List AV → Heap D → Dec → RR D := fun ops t H dec => match dec with
  | m :: k :: d => match noSelectL ops.toList && Nat.ble m H.length with
    | true => drawA P E ops H m (d.take k) ops.size true (List.replicate ops.size false) t H (d.drop k)
    | false => none
  | _ => none

end

section
variable {D : Type}

theorem coldH_get {m n : Nat} {H : Heap D} {i : Nat} {b : Blk D} (h : (coldH m n H)[i]? = some (some b)) : i < m ∧ H[i]? = some (some b) := by
  unfold coldH at h
  rcases Nat.lt_or_ge i (H.take m).length with h1 | h1
  · rw [List.getElem?_append_left h1] at h
    have h2 : i < m := by simp at h1; omega
    rw [List.getElem?_take_of_lt h2] at h
    exact ⟨h2, h⟩
  · rw [List.getElem?_append_right h1] at h
    have := List.mem_replicate.1 (List.mem_of_getElem? h)
    cases this.2

theorem nones_rel {ρ : Map} {n : Nat} (hn : ρ.length = n) (w : World) : Rel ρ (List.replicate n (none : Option (Blk D))) w := by
  refine ⟨by simpa using hn, ?_, ?_⟩
  · intro id b F idx hb
    have := List.mem_replicate.1 (List.mem_of_getElem? hb)
    cases this.2
  · intro id b F idx id' b' F' idx' hb
    have := List.mem_replicate.1 (List.mem_of_getElem? hb)
    cases this.2

/-- What is not ours from block m on is as it was. -/
def Same (ρ : Map) (H : Heap D) (w : World) (m : Nat) (w' : World) : Prop :=
  w.heap.size ≤ w'.heap.size ∧ ∀ k, k < w.heap.size → ¬ ownR ρ H m k → w'.heap[k]? = w.heap[k]?

theorem cold_rel {ρ0 ρ : Map} {H0 H : Heap D} {w0 : World} {m : Nat} (r0 : Rel ρ0 H0 w0) (hm : m ≤ H0.length) (g : Goes ρ0 ρ) (hl : ρ.length = H.length) :
    ∃ ρx, (∀ w', Same ρ0 H0 w0 m w' → Rel ρx (coldH m H.length H0) w') ∧ Goes ρ ρx ∧ Goes ρx ρ := by
  have hml : m ≤ ρ0.length := by rw [r0.len]; exact hm
  have hge : ρ0.length ≤ ρ.length := by
    rcases Nat.lt_or_ge ρ.length ρ0.length with hlt | hge
    · obtain ⟨F', this, _⟩ := g _ _ (List.getElem?_eq_getElem hlt)
      rw [List.getElem?_eq_none (Nat.le_refl _)] at this
      cases this
    · exact hge
  let ρx : Map := ρ0.take m ++ ρ.drop m
  have tl : (ρ0.take m).length = m := by simp; omega
  have lo : ∀ i, i < m → ρx[i]? = ρ0[i]? := fun i hi => by
    simp only [ρx]
    rw [List.getElem?_append_left (by omega), List.getElem?_take_of_lt hi]
  have hi' : ∀ i, m ≤ i → ρx[i]? = ρ[i]? := fun i hi => by
    simp only [ρx]
    rw [List.getElem?_append_right (by omega), tl, List.getElem?_drop, show m + (i - m) = i by omega]
  have sym : ∀ {F G : Nat → Loc}, Lo F G → Lo G F := fun h i => ⟨(h i).1.symm, (h i).2.1.symm, (h i).2.2.1.symm, (h i).2.2.2.symm⟩
  have gx : Goes ρ0 ρx := fun i F e => by
    rcases Nat.lt_or_ge i m with h | h
    · exact ⟨F, by rw [lo i h]; exact e, Lo.refl F⟩
    · obtain ⟨F', e', l⟩ := g i F e
      exact ⟨F', by rw [hi' i h]; exact e', l⟩
  refine ⟨ρx, fun w' hS => ⟨?_, ?_, ?_⟩, ?_, ?_⟩
  · simp only [ρx, coldH, List.length_append, List.length_take, List.length_drop, List.length_replicate]
    omega
  · intro id b F idx hb hF
    obtain ⟨him, hb⟩ := coldH_get hb
    rw [lo id him] at hF
    refine (r0.at_ id b F idx hb hF).keep gx hS.1 fun hlv k hk => ?_
    refine hS.2 k (r0.lt hb hF hlv hk) fun ho => ?_
    obtain ⟨id2, b2, F2, idx2, h1, h2, h3, h4, h5, h6⟩ := ho
    exact r0.apart id2 b2 F2 idx2 id b F idx h2 h5 h4 h3 hb hF hlv (fun e => by simp only [Prod.mk.injEq] at e; omega) k h6 hk
  · intro id b F idx id' b' F' idx' hb hF hlv ho hb' hF' hlv' hne
    obtain ⟨him, hb⟩ := coldH_get hb
    obtain ⟨him', hb'⟩ := coldH_get hb'
    rw [lo id him] at hF
    rw [lo id' him'] at hF'
    exact r0.apart id b F idx id' b' F' idx' hb hF hlv ho hb' hF' hlv' hne
  · intro i F e
    rcases Nat.lt_or_ge i m with h | h
    · have hlt : i < ρ0.length := by omega
      obtain ⟨F', e', l⟩ := g i _ (List.getElem?_eq_getElem hlt)
      rw [e] at e'
      cases e'
      exact ⟨_, by rw [lo i h]; exact List.getElem?_eq_getElem hlt, sym l⟩
    · exact ⟨F, by rw [hi' i h]; exact e, Lo.refl F⟩
  · intro i F e
    rcases Nat.lt_or_ge i m with h | h
    · rw [lo i h] at e
      exact g i F e
    · exact ⟨F, by rw [← hi' i h]; exact e, Lo.refl F⟩

def Fin (B : Nat) (ρ : Map) (H : Heap D) (w : World) (t : List AV) (H' : Heap D) (low : Nat) (a' : Act) (w' : World) : Prop :=
  DefOk B w' a'.defers ∧ ∃ ρ', Step ρ H w low ρ' H' w' ∧ TR ρ' t a'

/-- The state of a walk through a region that draws its order. -/
def wpX (P : Program) (ops : Array Oper) (Q : Exit → Act → World → Prop) (Wl : List Nat) (S : World → Prop) (clean : Bool) (k : Nat) (ls : List Bool) (a : Act) (w : World) : Prop :=
  match clean with
  | true => wpH P ops Q (fun i => Wl.any (Nat.beq i)) S k ls.toArray a w
  | false => wpAny P .any ops Q k ls.toArray a w

theorem pickA_ok {P : Program} {H0 : Heap D} {m : Nat} {Wl : List Nat} {ops : Array Oper} {clean : Bool} {ls : List Bool} {t : List AV} {n : Nat} {dec d : Dec} {p : VC} {v : AV} {i : Nat} {o : Oper} : ∀ {l : List Nat},
    pickA P H0 m Wl ops clean ls t n dec l = some (i, o, p, v, d) → i ∈ l ∧ ops[i]? = some o ∧
      ((freeAt ops ls Wl false i o 0 ops.toList = true ∧ calmA P (List.replicate n (none : Option (Blk D))) ops t dec o = some (p, v, d)) ∨
       (clean = true ∧ Wl.any (Nat.beq i) = false ∧ freeAt ops ls Wl true i o 0 ops.toList = true ∧ calmA P (coldH m n H0) ops t dec o = some (p, v, d)))
  | [], h => by simp [pickA] at h
  | j :: l, h => by
    have up : pickA P H0 m Wl ops clean ls t n dec l = some (i, o, p, v, d) → _ := fun h => pickA_ok (l := l) h
    unfold pickA at h
    split at h
    · cases h
    · rename_i oj hj
      split at h
      · obtain ⟨a, b⟩ := up h; exact ⟨List.mem_cons_of_mem _ a, b⟩
      · rename_i hf
        split at h
        · rename_i q u d' hc
          simp only [Option.some.injEq, Prod.mk.injEq] at h
          obtain ⟨rfl, rfl, rfl, rfl, rfl⟩ := h
          exact ⟨List.mem_cons_self, hj, .inl ⟨hf, hc⟩⟩
        · split at h
          · obtain ⟨a, b⟩ := up h; exact ⟨List.mem_cons_of_mem _ a, b⟩
          · rename_i hb
            split at h
            · rename_i q u d' hc
              simp only [Option.some.injEq, Prod.mk.injEq] at h
              obtain ⟨rfl, rfl, rfl, rfl, rfl⟩ := h
              rw [Bool.and_eq_true, Bool.and_eq_true] at hb
              exact ⟨List.mem_cons_self, hj, .inr ⟨hb.1, by simpa using hb.2.1, hb.2.2, hc⟩⟩
            · obtain ⟨a, b⟩ := up h; exact ⟨List.mem_cons_of_mem _ a, b⟩
end
end
end Go.Proofs.Ytnoonoghemgbbaa.Sx
