/-
  A symbolic evaluator over the model's code: part 14: whole functions, and loops by an invariant.
-/
import Derived.Test.YtnoonoghemgbbaaSx13
namespace Go.Proofs.Ytnoonoghemgbbaa.Sx
open Go
noncomputable section

section
variable {D : Type} [Reps D]

theorem av1_ok {ρ : Map} {v : AV} {u : AV1} {r : Value} (h : av1 v = some u) (hv : RV ρ v r) : R1 ρ u r := by
  unfold av1 at h
  split at h
  · cases h; exact hv
  · cases h; exact hv
  · cases h

def resRun (P : Program) (tmps : Array Value) : ResultVar → Sem Value
  | .tmp t => pure (tmps.getD t undef)
  | .cell a t => do loadVar t (← asAddr (tmps.getD a undef))

theorem resA_ok {P : Program} {ρ : Map} {H : Heap D} {w : World} {t : List AV} {a : Act} (r : Rel ρ H w) (ht : TR ρ t a) : ∀ {rs : List ResultVar} {dec d : Dec} {p : VC} {vs : List AV1}, resA P H t rs dec = some (p, vs, d) → VC.ok p →
    ∃ us : List Value, (rs.mapM (resRun P a.tmps)).run P w = .ok us w ∧ All2 (R1 ρ) vs us
  | [], dec, d, p, vs, h, hp => by
    simp only [resA, Option.some.injEq, Prod.mk.injEq] at h
    obtain ⟨_, rfl, _⟩ := h
    exact ⟨[], by simp, trivial⟩
  | .tmp i :: rs, dec, d, p, vs, h, hp => by
    unfold resA at h
    try simp only [nth_eq, setL_eq, und_eq, inf_eq] at h
    split at h
    · rename_i v hv
      split at h
      · rename_i u q m d' hu hm
        simp only [Option.some.injEq, Prod.mk.injEq] at h
        obtain ⟨rfl, rfl, rfl⟩ := h
        obtain ⟨us, h1, h2⟩ := resA_ok r ht hm hp
        obtain ⟨b, hb, hr⟩ := All2.get ht hv
        have hg : a.tmps.getD i undef = b := by
          rw [Array.getD_eq_getD_getElem?, ← Array.getElem?_toList, hb]; rfl
        exact ⟨b :: us, by simp [List.mapM_cons, resRun, hg, h1], av1_ok hu hr, h2⟩
      · cases h
    · cases h
  | .cell i ty :: rs, dec, d, p, vs, h, hp => by
    unfold resA at h
    try simp only [nth_eq, setL_eq, und_eq, inf_eq] at h
    split at h
    · rename_i q v d1 hv
      split at h
      · rename_i u q2 m d' hu hm
        simp only [Option.some.injEq, Prod.mk.injEq] at h
        obtain ⟨rfl, rfl, rfl⟩ := h
        obtain ⟨us, h1, h2⟩ := resA_ok r ht hm hp.2
        have hp1 := hp.1
        simp only [pureA] at hv
        split at hv
        · rename_i nl id idx off ag n hx hag hsz
          split at hv
          · rename_i own live c hc
            split at hv
            · rename_i q3 cs d3 hg
              split at hv
              · rename_i u2 hu2
                simp only [Option.some.injEq, Prod.mk.injEq] at hv
                obtain ⟨rfl, rfl, rfl⟩ := hv
                obtain ⟨g0, g1, g2⟩ := hp1
                obtain ⟨num, cc, F, hb, rfl, hlt, hF, hwf, hat, _⟩ := contAt_ok r hc g1
                rcases cellOf_ok ht hx with ⟨h3, _⟩ | ⟨_, F', hF', e⟩
                · rw [g0] at h3; cases h3
                · rw [hF] at hF'
                  cases hF'
                  obtain ⟨y, hy, hr⟩ := loadVar_ok (P := P) hat hag hsz hg g2 hu2
                  have e' : a.tmps.getD i undef = .pointer (some ⟨(F idx).blk, (F idx).sh + off, none⟩) := e
                  exact ⟨y :: us, by simp [List.mapM_cons, resRun, e', asAddr, hy, h1], av1_ok hu hr, h2⟩
              · cases hv
            · cases hv
          · cases hv
        · cases hv
      · cases h
    · cases h

theorem tupA_ok {ρ : Map} {vs : List AV1} {us : List Value} (h : All2 (R1 ρ) vs us) : RV ρ (tupA vs) (if h : us.toArray.size = 1 then us.toArray[0] else .tuple us.toArray) := by
  match vs, us, h with
  | [], [], _ => exact ⟨[], rfl, trivial⟩
  | [v], [u], h =>
    simp only [tupA]
    have h1 : R1 ρ v u := h.1
    cases v <;> exact h1
  | v :: v' :: vs, u :: u' :: us, h => exact ⟨u :: u' :: us, rfl, h⟩
  | [], _ :: _, h => exact h.elim
  | _ :: _, [], h => exact h.elim
  | [_], _ :: _ :: _, h => exact h.2.elim
  | _ :: _ :: _, [_], h => exact h.2.elim

theorem bodyA_valid {P : Program} {E : FuncId → Sum D} (hE : ∀ f, Valid P f (E f)) {L : Nat → Option (Code × LSum D)} (hL : ∀ k b s, L k = some (b, s) → LValid P b s)
    {DR : Array Oper → List AV → Heap D → Dec → RR D} (hD : DValid P DR) (fuel : Nat) (f : FuncId) : Valid P f (bodyA P E L DR fuel f) := by
  intro args H dec p v H' low d h hp ρ w as r ha
  unfold bodyA at h
  try simp only [nth_eq, setL_eq, und_eq, inf_eq] at h
  split at h
  · rename_i fn hfn
    rw [Array.getElem?_toList] at hfn
    split at h
    · rename_i c hc
      have hlen : args.length = as.size := by rw [ha.length]; simp
      have ht : TR ρ (args ++ List.replicate (fn.ntmps - args.length) undefA) { tmps := as ++ Array.replicate (fn.ntmps - as.size) undef, defers := [] } := by
        show All2 _ _ (as ++ Array.replicate (fn.ntmps - as.size) undef).toList
        rw [Array.toList_append, Array.toList_replicate, hlen]
        exact ha.app (All2.replicate undef_ok _)
      have key : ∀ {q : VC} {ex : Ex} {t : List AV} {H1 : Heap D} {l1 : Nat} {d1 : Dec}, codeA P E L DR fuel c (args ++ List.replicate (fn.ntmps - args.length) undefA) H dec = some (q, ex, t, H1, l1, d1) → (∀ id, ex ≠ .exit id) →
          (match resA P H1 t fn.results.toList d1 with
            | some (q', vs, d') => some (q ++ q', tupA vs, H1, l1, d')
            | none => none) = some (p, v, H', low, d) → Calls P f as w fun e w' => ∃ r ρ', e = .returned r ∧ Step ρ H w low ρ' H' w' ∧ RV ρ' v r := by
        intro q ex t H1 l1 d1 hcode hex hres
        split at hres
        · rename_i q' vs d' hr
          simp only [Option.some.injEq, Prod.mk.injEq] at hres
          obtain ⟨rfl, rfl, rfl, rfl, rfl⟩ := hres
          have hp := ok_app.1 hp
          refine calls_of_wp hfn hc (wp_mono ((codeA_ok hE hL hD fuel c hcode hp.1).wp r ht rfl) ?_)
          rintro e a' w' ⟨rfl, hd', ρ', hs, ht'⟩
          obtain ⟨us, h1, h2⟩ := resA_ok (P := P) hs.rel ht' hr hp.2
          have hrun : (results fn a'.tmps).run P w' = .ok (if h : us.toArray.size = 1 then us.toArray[0] else .tuple us.toArray) w' := by
            have e1 : (fn.results.mapM (resRun P a'.tmps)).run P w' = .ok us.toArray w' := by
              rw [Array.mapM_eq_mapM_toList, Sem.run_map, h1]; rfl
            have e2 : results fn a'.tmps = (do let vs ← fn.results.mapM (resRun P a'.tmps); pure (if h : vs.size = 1 then vs[0] else .tuple vs)) := by
              unfold results
              congr 1
            rw [e2]
            simp only [Sem.run_bind, e1, Result.andThen_ok, Sem.run_pure]
          cases ex with
          | exit id => exact absurd rfl (hex id)
          | normal => exact ⟨hd', _, hrun, _, ρ', rfl, hs, tupA_ok h2⟩
          | ret => exact ⟨hd', _, hrun, _, ρ', rfl, hs, tupA_ok h2⟩
        · cases hres
      split at h
      · cases h
      · rename_i q ex t H1 l1 d1 hne hcode
        exact key hcode (fun id he => hne id he) h
      · cases h
    · cases h
  · cases h

def evalF (P : Program) (S : FuncId → Option (Sum D)) (L : FuncId → Nat → Option (Code × LSum D)) (DR : (FuncId → Sum D) → Array Oper → List AV → Heap D → Dec → RR D) (fuel : Nat) : Nat → FuncId → Sum D
  | 0, f => match S f with
    | some s => s
    | none => fun _ _ _ => none
  | n + 1, f => match S f with
    | some s => s
    | none => bodyA P (evalF P S L DR fuel n) (L f) (DR (evalF P S L DR fuel n)) fuel f

theorem evalF_valid {P : Program} {S : FuncId → Option (Sum D)} (hS : ∀ f s, S f = some s → Valid P f s) {L : FuncId → Nat → Option (Code × LSum D)} (hL : ∀ f k b s, L f k = some (b, s) → LValid P b s)
    {DR : (FuncId → Sum D) → Array Oper → List AV → Heap D → Dec → RR D} (hD : ∀ E, (∀ f, Valid P f (E f)) → DValid P (DR E)) (fuel : Nat) : ∀ (n : Nat) (f : FuncId), Valid P f (evalF P S L DR fuel n f)
  | 0, f => by
    unfold evalF
    split
    · rename_i s hs; exact hS f s hs
    · intro args H dec p v H' low d h; cases h
  | n + 1, f => by
    unfold evalF
    split
    · rename_i s hs; exact hS f s hs
    · have ih := evalF_valid hS hL hD fuel n
      exact bodyA_valid ih (hL f) (hD _ ih) fuel f

/-- A loop by an invariant over abstract states and a measure. -/
theorem rounds_of {P : Program} {body : Code} {Q : Exit → Act → World → Prop} (I : Nat → Act → World → Prop)
    (round : ∀ k a w, I k a w → body.wp P (Exit.then (fun a' w' => ∃ k', k' < k ∧ I k' a' w') Q) a w) : ∀ (n k : Nat) (a : Act) (w : World), k < n → I k a w → Code.rounds P body Q n a w
  | 0, k, a, w, h, _ => by omega
  | n + 1, k, a, w, h, hI => wp_mono (round k a w hI) fun e a' w' he => by
    cases e <;> first
      | (obtain ⟨k', hk, hI'⟩ := he; exact rounds_of I round n k' a' w' (by omega) hI')
      | exact he
end
end
end Go.Proofs.Ytnoonoghemgbbaa.Sx
