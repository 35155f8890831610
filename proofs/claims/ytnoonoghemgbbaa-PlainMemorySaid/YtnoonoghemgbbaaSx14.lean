/-
  A symbolic evaluator over the model's code: part 14: whole functions, and loops by an invariant.
-/
import Derived.Test.YtnoonoghemgbbaaSx13
set_option linter.unusedVariables false
set_option linter.unusedSimpArgs false
namespace Go.Proofs.Ytnoonoghemgbbaa.Sx
open Go
noncomputable section

section
variable {D : Type}

theorem av1_ok {ρ : Map} {v : AV} {u : AV1} {r : Value} (h : av1 v = some u) (hv : RV ρ v r) : R1 ρ u r := by
  unfold av1 at h
  split at h
  · cases h; exact hv
  · cases h; exact hv
  · cases h

def resRun (P : Program) (tmps : Array Value) : ResultVar → Sem Value
  | .tmp t => pure (tmps.getD t undef)
  | .cell a t => do loadVar t (← asAddr (tmps.getD a undef))

theorem resA_ok {P : Program} {ρ : Map} {H : Heap D} {w : World} {t : List AV} {a : Act} (r : Rel ρ H w) (ht : TR ρ t a) : ∀ {rs : List ResultVar} {dec d : Dec} {p : VC} {vs : List AV1}, resA P H t rs dec = some (p, vs, d) → VC.ok p →
    ∃ us : List Value, (rs.mapM (resRun P a.tmps)).run P w = .ok us w ∧ All2 (R1 ρ) vs us
  | [], dec, d, p, vs, h, hp => by
    simp only [resA, Option.some.injEq, Prod.mk.injEq] at h
    obtain ⟨_, rfl, _⟩ := h
    exact ⟨[], by simp, trivial⟩
  | .tmp i :: rs, dec, d, p, vs, h, hp => by
    unfold resA at h
    try simp only [nth_eq, setL_eq, und_eq, inf_eq] at h
    split at h
    · rename_i v hv
      split at h
      · rename_i u q m d' hu hm
        simp only [Option.some.injEq, Prod.mk.injEq] at h
        obtain ⟨rfl, rfl, rfl⟩ := h
        obtain ⟨us, h1, h2⟩ := resA_ok r ht hm hp
        obtain ⟨b, hb, hr⟩ := All2.get ht hv
        have hg : a.tmps.getD i undef = b := by
          rw [Array.getD_eq_getD_getElem?, ← Array.getElem?_toList, hb]; rfl
        exact ⟨b :: us, by simp [List.mapM_cons, resRun, hg, h1], av1_ok hu hr, h2⟩
      · cases h
    · cases h
  | .cell i ty :: rs, dec, d, p, vs, h, hp => by
    unfold resA at h
    try simp only [nth_eq, setL_eq, und_eq, inf_eq] at h
    split at h
    · rename_i q v d1 hv
      split at h
      · rename_i u q2 m d' hu hm
        simp only [Option.some.injEq, Prod.mk.injEq] at h
        obtain ⟨rfl, rfl, rfl⟩ := h
        obtain ⟨us, h1, h2⟩ := resA_ok r ht hm hp.2
        have hp1 := hp.1
        simp only [pureA] at hv
        split at hv
        · rename_i nl id idx off ag n hx hag hsz
          split at hv
          · rename_i own live c hc
            split at hv
            · rename_i q3 cs d3 hg
              split at hv
              · rename_i u2 hu2
                simp only [Option.some.injEq, Prod.mk.injEq] at hv
                obtain ⟨rfl, rfl, rfl⟩ := hv
                obtain ⟨g0, g1, g2⟩ := hp1
                obtain ⟨num, cc, F, hb, rfl, hlt, hF, hwf, hat, _⟩ := contAt_ok r hc g1
                rcases cellOf_ok ht hx with ⟨h3, _⟩ | ⟨_, F', hF', e⟩
                · rw [g0] at h3; cases h3
                · rw [hF] at hF'
                  cases hF'
                  obtain ⟨y, hy, hr⟩ := loadVar_ok (P := P) hat hag hsz hg g2 hu2
                  have e' : a.tmps.getD i undef = .pointer (some ⟨(F idx).blk, (F idx).sh + off, none⟩) := e
                  exact ⟨y :: us, by simp [List.mapM_cons, resRun, e', asAddr, hy, h1], av1_ok hu hr, h2⟩
              · cases hv
            · cases hv
          · cases hv
        · cases hv
      · cases h
    · cases h

theorem tupA_ok {ρ : Map} {vs : List AV1} {us : List Value} (h : All2 (R1 ρ) vs us) : RV ρ (tupA vs) (if h : us.toArray.size = 1 then us.toArray[0] else .tuple us.toArray) := by
  match vs, us, h with
  | [], [], _ => exact ⟨[], rfl, trivial⟩
  | [v], [u], h =>
    simp only [tupA]
    have h1 : R1 ρ v u := h.1
    cases v <;> exact h1
  | v :: v' :: vs, u :: u' :: us, h => exact ⟨u :: u' :: us, rfl, h⟩
  | [], _ :: _, h => exact h.elim
  | _ :: _, [], h => exact h.elim
  | [_], _ :: _ :: _, h => exact h.2.elim
  | _ :: _ :: _, [_], h => exact h.2.elim

theorem results_ok {P : Program} {ρ : Map} {H : Heap D} {w : World} {t : List AV} {a : Act} (r : Rel ρ H w) (ht : TR ρ t a) {fn : Func} {dec d : Dec} {p : VC} {vs : List AV1} (h : resA P H t fn.results.toList dec = some (p, vs, d)) (hp : VC.ok p) :
    ∃ us : List Value, (results fn a.tmps).run P w = .ok (if h : us.toArray.size = 1 then us.toArray[0] else .tuple us.toArray) w ∧ All2 (R1 ρ) vs us := by
  obtain ⟨us, h1, h2⟩ := resA_ok (P := P) r ht h hp
  refine ⟨us, ?_, h2⟩
  have e1 : (fn.results.mapM (resRun P a.tmps)).run P w = .ok us.toArray w := by
    rw [Array.mapM_eq_mapM_toList, Sem.run_map, h1]; rfl
  have e2 : results fn a.tmps = (do let vs ← fn.results.mapM (resRun P a.tmps); pure (if h : vs.size = 1 then vs[0] else .tuple vs)) := by
    unfold results
    congr 1
  rw [e2]
  simp only [Sem.run_bind, e1, Result.andThen_ok, Sem.run_pure]

/-! ### Objects that are turned -/

theorem Step.putOb {ρ : Map} {H : Heap D} {w : World} (r : Rel ρ H w) {id : Nat} {o o' : Ob} {F : Nat → Loc} (hb : H[id]? = some (some (.obj o))) (hF : ρ[id]? = some F) (hfo : ∀ L, FootOk L o → ∀ k, L.foot k ↔ k = L.blk) (x : Obj)
    (hfo' : ∀ L, FootOk L o → FootOk L o') (ho : ObAt ρ (w.putObj (F 0).blk x) F o') : Step ρ H w id ρ (H.set id (some (.obj o'))) (w.putObj (F 0).blk x) := by
  obtain ⟨h1, h2, h3⟩ := r.at_ id _ F 0 hb hF rfl
  refine Step.put (b := .obj o) (b' := .obj o') r hb hF rfl rfl (fun _ => Iff.rfl) 0 rfl rfl rfl rfl (by simp [World.putObj]) ?_ ?_ ?_
  · intro k hk hn
    exact World.putObj_heap_other fun e => hn ((hfo _ h1 k).2 e)
  · intro _
    exact ⟨hfo' _ h1, fun k hk => by simpa [World.putObj] using h2 k hk, ho⟩
  · intro i hne _ hi
    exact absurd hi hne

theorem CellsAt.other {ρ : Map} {w w' : World} {L : Loc} {own : Bool} {c : Cont} (h : CellsAt ρ w L own c) (hs : w'.heap.size = w.heap.size) (hk : ∀ (k : Nat) cs e fr, w.heap[k]? = some (.cells cs e fr) → w'.heap[k]? = some (.cells cs e fr)) : CellsAt ρ w' L own c := by
  obtain ⟨h0, h1, h2, h3, h4⟩ := h
  refine ⟨h0, h1, fun k hf => by rw [hs]; exact h2 k hf, ?_, fun ho => ?_⟩
  · intro j y hy
    obtain ⟨v, hv, hr⟩ := h3 j y hy
    refine ⟨v, ?_, hr⟩
    unfold World.cell? at hv ⊢
    simp only at hv ⊢
    cases hh : w.heap[L.blk]? with
    | none => rw [hh] at hv; cases hv
    | some o =>
      rw [hh] at hv
      cases o with
      | cells c e fr => rw [hk _ _ _ _ hh]; exact hv
      | _ => cases hv
  · obtain ⟨g1, g2, cs, e, fr, g3, g4⟩ := h4 ho
    exact ⟨g1, g2, cs, e, fr, hk _ _ _ _ g3, g4⟩

theorem Rel.shut {ρ : Map} {H : Heap D} {w : World} (r : Rel ρ H w) {b : Nat} {d : Option (List Deferred)} (hb : w.heap[b]? = some (.deferred d)) (x : Option (List Deferred)) : Rel ρ H (w.putObj b (.deferred x)) := by
  refine ⟨r.len, ?_, r.apart⟩
  intro id bl F idx hbl hF
  have h := r.at_ id bl F idx hbl hF
  have hsz : (w.putObj b (.deferred x)).heap.size = w.heap.size := by simp [World.putObj]
  have other : ∀ {k : Nat} {o : Obj}, w.heap[k]? = some o → (∀ d, o ≠ .deferred d) → (w.putObj b (.deferred x)).heap[k]? = some o := by
    intro k o hk hne
    rw [World.putObj_heap_other fun e => ?_]
    · exact hk
    · subst e
      rw [hb] at hk
      cases hk
      exact hne _ rfl
  have cells : ∀ (k : Nat) cs e fr, w.heap[k]? = some (.cells cs e fr) → (w.putObj b (.deferred x)).heap[k]? = some (.cells cs e fr) := fun k cs e fr hk => other hk (fun d h => by cases h)
  cases bl with
  | cells own num c => exact fun hi => CellsAt.other (h hi) hsz cells
  | obj o =>
    intro hi
    obtain ⟨h1, h2, h3⟩ := h hi
    refine ⟨h1, fun k hk => by rw [hsz]; exact h2 k hk, ?_⟩
    cases o with
    | map es =>
      obtain ⟨arr, clock, g1, g2⟩ := h3
      exact ⟨arr, clock, other g1 (fun d h => by cases h), g2⟩
    | iter s pos => exact other h3 (fun d h => by cases h)
    | loop st pend => exact other h3 (fun d h => by cases h)
    | ab d =>
      obtain ⟨V, ρc, F', g1, g2, g3, g4⟩ := h3
      exact ⟨V, ρc, F', g1, g2, ⟨g3.len, fun i own c F hc hF => (g3.at_ i own c F hc hF).other hsz cells, g3.apart⟩, g4⟩

theorem Step.shut {ρ ρ' : Map} {H H' : Heap D} {w w' : World} {low b : Nat} (h : Step ρ H w low ρ' H' w') {d : Option (List Deferred)} (hb : w'.heap[b]? = some (.deferred d)) (hle : w.heap.size ≤ b) (x : Option (List Deferred)) :
    Step ρ H w low ρ' H' (w'.putObj b (.deferred x)) := by
  refine ⟨h.goes, h.rel.shut hb x, ⟨h.ext.os, h.ext.tape, h.ext.output, by simpa [World.putObj] using h.ext.size, fun k hk hn => ?_⟩, h.each, h.old, h.mine⟩
  rw [World.putObj_heap_other (by omega)]
  exact h.ext.block k hk hn

/-- A frame on its way out takes up the marks that it has left. -/
theorem leaves_of {q : Option Nat} {P : Program} {fn : Func} {tmps : Array Value} {R : Ending → World → Prop} {B : Nat} {ρ ρ' : Map} {H H' : Heap D} {w : World} {low : Nat} (hB : w.heap.size ≤ B)
    (hfin : ∀ w'', Step ρ H w low ρ' H' w'' → ∃ v, (results fn tmps).run P w'' = .ok v w'' ∧ R (.returned v) w'') : ∀ {bs : List Nat} {w' : World}, Step ρ H w low ρ' H' w' → bs.Nodup → (∀ b ∈ bs, B ≤ b ∧ w'.heap[b]? = some (.deferred (some []))) →
    LeavesInM (Fr q) 0 P fn tmps R (bs.map fun b => ({ target := .collected b, args := #[] } : Deferred)) .returning w'
  | [], w', hs, _, _ => hfin w' hs
  | b :: bs, w', hs, hn, hb => by
    obtain ⟨h1, h2⟩ := hb b List.mem_cons_self
    rw [List.nodup_cons] at hn
    refine ⟨by simp, .inl ⟨b, _, rfl, run_takeDeferred h2, leaves_of hB hfin (hs.shut h2 (by omega) _) hn.2 fun c hc => ⟨(hb c (List.mem_cons_of_mem _ hc)).1, ?_⟩⟩⟩
    have hne : c ≠ b := fun e => hn.1 (by rw [← e]; exact hc)
    rw [World.putObj_heap_other hne]
    exact (hb c (List.mem_cons_of_mem _ hc)).2

/-- A function's contract from what its body does. -/
theorem calls_of_done {P : Program} {f : FuncId} {fn : Func} {c : Code} {as : Array Value} {R : Ending → World → Prop} {ρ : Map} {H H' : Heap D} {w : World} {ex : Ex} {t' : List AV} {low : Nat} (hf : P.funcs[f]? = some fn) (hb : fn.body = some c) (hex : ∀ id, ex ≠ .exit id)
    (h : c.wpIn (Fr none) 0 P (Done w.heap.size ρ H w ex t' H' low) { tmps := as ++ Array.replicate (fn.ntmps - as.size) undef, defers := [] } w)
    (hR : ∀ ρ' w' a', Step ρ H w low ρ' H' w' → TR ρ' t' a' → ∃ v, (results fn a'.tmps).run P w' = .ok v w' ∧ R (.returned v) w') : CallsIn (Fr none) 0 P f as w R := by
  refine callsIn_of_wp_marks hf hb trivial (wpIn_mono h ?_)
  rintro e a' w' ⟨rfl, ⟨_, bs, hd, hn, hbs⟩, ρ', hs, ht'⟩
  have key : LeavesInM (Fr none) 0 P fn a'.tmps R a'.defers .returning w' := by
    rw [hd]
    exact leaves_of (Nat.le_refl _) (fun w'' hs' => hR ρ' w'' a' hs' ht') hs hn hbs
  cases ex with
  | exit id => exact absurd rfl (hex id)
  | normal => exact key
  | ret => exact key

/-! ### Code -/

/-- What is shown of code: of a loop how many rounds it takes. -/
def RunsAt (P : Program) (top : Bool) (ρ0 : Map) (c : Code) (t : List AV) (H : Heap D) (ex : Ex) (t' : List AV) (H' : Heap D) (low : Nat) : Prop :=
  match c with
  | .loop body => ∃ m, ∀ (q : Option Nat) (B : Nat) ρ w a, (top = true → q = none) → Goes ρ0 ρ → Rel ρ H w → TR ρ t a → DefOk B w a.defers → Code.roundsIn (Fr q) 0 P body (Done B ρ H w ex t' H' low) m a w
  | c => ∀ (q : Option Nat) (B : Nat) ρ w a, (top = true → q = none) → Goes ρ0 ρ → Rel ρ H w → TR ρ t a → DefOk B w a.defers → c.wpIn (Fr q) 0 P (Done B ρ H w ex t' H' low) a w

theorem RunsAt.wp {P : Program} {top : Bool} {ρ0 : Map} {c : Code} {t : List AV} {H : Heap D} {ex : Ex} {t' : List AV} {H' : Heap D} {low : Nat} (h : RunsAt P top ρ0 c t H ex t' H' low) {q : Option Nat} {B : Nat} {ρ : Map} {w : World} {a : Act} (hq : top = true → q = none)
    (g0 : Goes ρ0 ρ) (r : Rel ρ H w) (ht : TR ρ t a) (hd : DefOk B w a.defers) : c.wpIn (Fr q) 0 P (Done B ρ H w ex t' H' low) a w := by
  cases c with
  | loop body => obtain ⟨m, hm⟩ := h; exact wpIn_loop_rounds m (hm q B ρ w a hq g0 r ht hd)
  | _ => exact h q B ρ w a hq g0 r ht hd

/-- Runs of code are what they say. -/
def RunOk (P : Program) (run : Bool → LS D → Sum D → Code → LSum D) : Prop :=
  ∀ top (L : LS D) (Y : Sum D) ρ0 c {H H' : Heap D} {t t' : List AV} {dec d : Dec} {p : VC} {low : Nat} {ex : Ex}, (∀ k b s, L k = some (b, s) → LValid P b s) → YValid ρ0 P Y →
    run top L Y c t H dec = some (p, ex, t', H', low, d) → VC.ok p → RunsAt P top ρ0 c t H ex t' H' low

theorem setPs_ok {ρ : Map} : ∀ {ps : List Tmp} {vs : List AV} {zs : List Value} {t : List AV} {tmps : Array Value}, All2 (RV ρ) t tmps.toList → All2 (RV ρ) vs zs → 
    All2 (RV ρ) (setPs t ps vs) (((ps.zip zs).foldl (fun t (x : Tmp × Value) => t.setIfInBounds x.1 x.2) tmps).toList)
  | [], vs, zs, t, tmps, ht, _ => by cases vs <;> simpa [setPs] using ht
  | p :: ps, [], [], t, tmps, ht, _ => by simpa [setPs] using ht
  | p :: ps, v :: vs, z :: zs, t, tmps, ht, h => by
    simp only [setPs, List.zip_cons_cons, List.foldl_cons]
    refine setPs_ok ?_ h.2
    rw [Array.toList_setIfInBounds, setL_eq]
    exact All2.set ht p h.1
  | _ :: _, [], _ :: _, _, _, _, h => h.elim
  | _ :: _, _ :: _, [], _, _, _, h => h.elim

theorem isReady_ok {H : Heap D} {lid : Nat} (h : isReady H lid = true) : H[lid]? = some (some (.obj (.loop .ready none))) := by
  unfold isReady at h
  rw [nth_eq] at h
  split at h
  · assumption
  · cases h

theorem isBusy_ok {H : Heap D} {lid : Nat} (h : isBusy H lid = true) : H[lid]? = some (some (.obj (.loop .busy none))) := by
  unfold isBusy at h
  rw [nth_eq] at h
  split at h
  · assumption
  · cases h

theorem loop_at {ρ : Map} {H : Heap D} {w : World} (r : Rel ρ H w) {lid : Nat} {st : LoopState} {pend : Option Code} (h : H[lid]? = some (some (.obj (.loop st pend)))) {F : Nat → Loc} (hF : ρ[lid]? = some F) :
    w.heap[(F 0).blk]? = some (.loop { (F 0).aux with state := st, pending := pend }) := (r.at_ lid _ F 0 h hF rfl).2.2

theorem loop_lt {ρ : Map} {H : Heap D} {w : World} (r : Rel ρ H w) {lid : Nat} {st : LoopState} {pend : Option Code} (h : H[lid]? = some (some (.obj (.loop st pend)))) {F : Nat → Loc} (hF : ρ[lid]? = some F) : (F 0).blk < w.heap.size := by
  obtain ⟨h1, h2, _⟩ := r.at_ lid _ F 0 h hF rfl
  exact h2 _ ((h1 _).2 rfl)

theorem Goes.at_ {ρ ρ' : Map} {F1 : Nat → Loc} (g : Goes (ρ ++ [F1]) ρ') : ∃ F, ρ'[ρ.length]? = some F ∧ Lo F1 F := g _ _ (by simp)
theorem Goes.fst {ρ ρ' : Map} {F1 : Nat → Loc} (g : Goes (ρ ++ [F1]) ρ') : Goes ρ ρ' := (Goes.app ρ [F1]).trans g

theorem roundA_ok {P : Program} {run : Bool → LS D → Sum D → Code → LSum D} (hrun : RunOk P run) {L : LS D} (hL : ∀ k b s, L k = some (b, s) → LValid P b s) {Y : Sum D} {ρ0 : Map} (hY : YValid ρ0 P Y) {ρ : Map} (g0 : Goes ρ0 ρ)
    {t : List AV} {rec : Loop} (ht : All2 (RV ρ) t rec.tmps.toList) (hst : rec.state = .ready) (hpe : rec.pending = none) {F1 : Nat → Loc} (haux : (F1 0).aux = rec) :
    YValid (ρ ++ [F1]) P (roundA run L Y t ρ.length rec.params.toList rec.assign rec.body) := by
  intro args H2 dec p v H' low d h hp ρ2 w2 as g r2 hargs
  unfold roundA at h
  split at h
  · rename_i id vs
    split at h
    · rename_i hb
      simp only [Bool.and_eq_true] at hb
      obtain ⟨hid, hlen, hrd⟩ := hb
      have hid := Nat.eq_of_beq_eq_true hid
      have hlen := Nat.eq_of_beq_eq_true hlen
      subst hid
      split at h
      · rename_i p1 t2 H3 l2 d2 hass
        split at h
        · rename_i hrd2
          split at h
          · rename_i q ex t3 H4 l4 d4 hbody
            split at h
            · rename_i hbz
              simp only [Option.some.injEq, Prod.mk.injEq] at h
              obtain ⟨rfl, rfl, rfl, rfl, rfl⟩ := h
              have hp := ok_app.1 hp
              obtain ⟨F, hF, hlo⟩ := g.at_
              match as, hargs with
              | v0 :: zs, hargs =>
                obtain ⟨hv0, hzs⟩ := hargs
                rcases hv0 with ⟨h, _⟩ | ⟨_, F', hF', rfl⟩
                · cases h
                rw [hF] at hF'
                cases hF'
                have haux2 : (F 0).aux = rec := (hlo 0).2.2.2.trans haux
                have hl2 := loop_at r2 (isReady_ok hrd) hF
                have hrec : ({ rec with state := .ready, pending := none } : Loop) = rec := by rw [← hst, ← hpe]
                rw [haux2, hrec] at hl2
                have hsz : zs.toArray.size = rec.params.size := by
                  have := hzs.length
                  simp only [Array.length_toList] at hlen
                  simp only [List.size_toArray]
                  omega
                refine ⟨_, _, zs, rfl, rec.fn, _, rec.assign, rec.body, run_yield hl2 hsz, roundIn_of_wpIn (F := Fr none) trivial ?_⟩
                have htm : TR ρ2 (setPs t rec.params.toList vs) { tmps := (rec.params.zip zs.toArray).foldl (fun tmps (t, a) => tmps.setIfInBounds t a) rec.tmps, defers := [] } := by
                  have h1 := setPs_ok (ps := rec.params.toList) (ht.mono fun _ _ => RV.goes g.fst) hzs
                  show All2 (RV ρ2) _ _
                  rw [← Array.foldl_toList, Array.toList_zip]
                  exact h1
                refine wpIn_mono ((hrun false L Y ρ0 rec.assign hL hY hass hp.1).wp (q := some (F 0).blk) (B := w2.heap.size) (fun h => by cases h) (g0.trans g.fst) r2 htm (DefOk.nil w2)) ?_
                rintro e a1 w3 ⟨rfl, hd3, ρ3, hs3, ht3⟩
                obtain ⟨F3, hF3, hlo3⟩ := hs3.goes _ _ hF
                have hl3 := loop_at hs3.rel (isReady_ok hrd2) hF3
                rw [(hlo3 0).2.2.2, haux2, hrec, (hlo3 0).1] at hl3
                refine ⟨_, run_beginRound hl3 hst, ?_⟩
                have hsB : Step ρ3 H3 w3 ρ.length ρ3 (H3.set ρ.length (some (.obj (.loop .busy none)))) (w3.putObj (F 0).blk (.loop { rec with state := .busy })) := by
                  have := Step.putOb (o' := .loop .busy none) hs3.rel (isReady_ok hrd2) hF3 (fun _ h => h) (.loop { rec with state := .busy }) (fun _ h => h) (by
                    show (World.putObj _ _ _).heap[_]? = _
                    rw [World.putObj_heap_same (loop_lt hs3.rel (isReady_ok hrd2) hF3), (hlo3 0).2.2.2, haux2]
                    congr 2
                    rw [← hpe])
                  rw [(hlo3 0).1] at this
                  exact this
                rw [setL_eq] at hbody
                refine wpIn_mono ((hrun false L Y ρ0 rec.body hL hY hbody hp.2).wp (q := some (F 0).blk) (B := w2.heap.size) (fun h => by cases h) ((g0.trans g.fst).trans (hs3.goes.trans hsB.goes)) hsB.rel (ht3.goes hsB.goes) (hd3.step hs3.rel hsB)) ?_
                rintro e a4 w4 ⟨rfl, _, ρ4, hs4, _⟩
                obtain ⟨F4, hF4, hlo4⟩ := (hs3.goes.trans (hsB.goes.trans hs4.goes)) _ _ hF
                have hl4 := loop_at hs4.rel (isBusy_ok hbz) hF4
                rw [(hlo4 0).2.2.2, haux2, (hlo4 0).1] at hl4
                have hstep : ∀ (st : LoopState) (jump : Option Code), Step ρ2 H2 w2 (min (min l2 l4) ρ.length) ρ4 (H4.set ρ.length (some (.obj (.loop st jump)))) (w4.putObj (F 0).blk (.loop { rec with state := st, pending := jump })) := by
                  intro st jump
                  have h5 := Step.putOb (o' := .loop st jump) hs4.rel (isBusy_ok hbz) hF4 (fun _ h => h) (.loop { rec with state := st, pending := jump }) (fun _ h => h) (by
                    show (World.putObj _ _ _).heap[_]? = _
                    rw [World.putObj_heap_same (loop_lt hs4.rel (isBusy_ok hbz) hF4), (hlo4 0).2.2.2, haux2])
                  rw [(hlo4 0).1] at h5
                  exact (Step.trans r2 hs3 (Step.trans hs3.rel hsB (Step.trans hsB.rel hs4 h5))).mono (by omega)
                rw [setL_eq]
                cases ex with
                | normal => exact ⟨_, _, run_endRound none hl4, _, ρ4, rfl, by simpa [endOf] using hstep .ready none, rfl⟩
                | ret => exact ⟨_, _, run_endRound (some .ret) hl4, _, ρ4, rfl, by simpa [endOf] using hstep .done (some .ret), rfl⟩
                | exit id => exact ⟨_, _, run_endRound (some (.exit id)) hl4, _, ρ4, rfl, by simpa [endOf] using hstep .done (some (.exit id)), rfl⟩
            · cases h
          · cases h
        · cases h
      · cases h
    · cases h
  · cases h

theorem rangeA_ok {P : Program} {run : Bool → LS D → Sum D → Code → LSum D} (hrun : RunOk P run) {L : LS D} (hL : ∀ k b s, L k = some (b, s) → LValid P b s) {Y : Sum D} {ρ0 : Map} (hY : YValid ρ0 P Y)
    {g : Operand} {ps : Array Tmp} {assign body : Code} {t t' : List AV} {H H' : Heap D} {dec d : Dec} {p : VC} {ex : Ex} {low : Nat} (h : rangeA P run L Y g ps.toList assign body t H dec = some (p, ex, t', H', low, d)) (hp : VC.ok p)
    {B : Nat} {ρ : Map} {w : World} {a : Act} (g0 : Goes ρ0 ρ) (r : Rel ρ H w) (ht : TR ρ t a) (hd : DefOk B w a.defers) : (Code.rangeFunc g ps assign body).wpIn (Fr none) 0 P (Done B ρ H w ex t' H' low) a w := by
  unfold rangeA at h
  try simp only [nth_eq] at h
  split at h
  · rename_i gf caps hc
    split at h
    · rename_i fn hfn
      rw [Array.getElem?_toList] at hfn
      split at h
      · rename_i c hb he
        split at h
        · cases h
        · rename_i p1 ex1 t1 H1 l1 d1 hne hcode
          split at h
          · rename_i p2 us0 d2 ex2 hres hleft
            simp only [Option.some.injEq, Prod.mk.injEq] at h
            obtain ⟨rfl, rfl, rfl, rfl, rfl, rfl⟩ := h
            have hp := ok_app.1 hp
            obtain ⟨vs, e, hvs⟩ := cellOf_ok ht hc
            refine wpIn_rangeFunc fun fnId _ => ?_
            obtain ⟨rec, hrec⟩ : ∃ rec : Loop, rec = { state := .ready, pending := none, fn := fnId, tmps := a.tmps, params := ps, assign, body, defers := w.heap.size } := ⟨_, rfl⟩
            obtain ⟨W1, hW1⟩ : ∃ W1, (w.alloc (.deferred (some []))).alloc (.loop rec) = W1 := ⟨_, rfl⟩
            have hsz1 : W1.heap.size = w.heap.size + 2 := by rw [← hW1]; simp
            have hL1 : W1.heap[w.heap.size + 1]? = some (.loop rec) := by
              rw [← hW1]; have := World.alloc_heap_new (w.alloc (.deferred (some []))) (.loop rec); rwa [World.size_alloc] at this
            have hold : ∀ k, k < w.heap.size + 1 → W1.heap[k]? = (w.alloc (.deferred (some []))).heap[k]? := fun k hk => by
              rw [← hW1]; exact heap_alloc_old _ _ (by rw [World.size_alloc]; exact hk)
            have hD1 : W1.heap[w.heap.size]? = some (.deferred (some [])) := (hold _ (by omega)).trans (World.alloc_heap_new w _)
            have hsame : ∀ k, k < w.heap.size → W1.heap[k]? = w.heap[k]? := fun k hk => (hold k (by omega)).trans (heap_alloc_old w _ hk)
            obtain ⟨F1, hF1⟩ : ∃ F1 : Nat → Loc, F1 = fun _ => ⟨w.heap.size + 1, 0, 0, fun k => k = w.heap.size + 1, rec⟩ := ⟨_, rfl⟩
            have hpush : Step ρ H w H.length (ρ ++ [F1]) (H ++ [some (.obj (.loop .ready none))]) W1 := by
              refine Step.push r _ F1 rfl (by rw [← hW1]; rfl) (by rw [← hW1]; rfl) (by rw [← hW1]; rfl) (by omega) hsame ?_ ?_ ?_
              · intro i hi
                rw [hF1]
                refine ⟨fun k => Iff.rfl, fun k hk => by have : k = w.heap.size + 1 := hk; omega, ?_⟩
                show W1.heap[_]? = _
                simp only
                rw [hL1, hrec]
              · intro i k _ hk
                rw [hF1] at hk
                have : k = w.heap.size + 1 := hk
                omega
              · intro i j k hi hj hij
                have hi : i = 0 := hi
                have hj : j = 0 := hj
                omega
            have hlen : caps.length = vs.length := hvs.length
            have hY1 : YValid (ρ ++ [F1]) P (roundA run L Y t H.length ps.toList assign body) := by
              have := roundA_ok (rec := rec) (F1 := F1) hrun hL hY g0 (by rw [hrec]; exact ht) (by rw [hrec]) (by rw [hrec]) (by rw [hF1])
              rw [r.len, hrec] at this
              exact this
            refine ⟨w.heap.size + 1, [{ target := .collected w.heap.size, args := #[] }], W1, { target := .fn (.func gf) vs.toArray, args := #[.func (.yield (w.heap.size + 1)) #[] #[]] }, W1, gf,
              #[.func (.yield (w.heap.size + 1)) #[] #[]] ++ vs.toArray, W1, ?_, ?_, fun _ _ => trivial, ?_, fun h => Bool.noConfusion h, ?_⟩
            · rw [← hW1, hrec]; exact run_enterLoop_outer _ _ _ _ _
            · simp only [resolve, rangeCall, e, Deferred.ofValue]
              simp only [Sem.run_pure, List.map_toArray, List.map_cons, List.map_nil, Act.eval, Array.empty_append]
            · exact entersA_ok he _
            · refine calls_of_done (ρ := ρ ++ [F1]) (H := H ++ [some (.obj (.loop .ready none))]) (ex := ex1) (t' := t1) (H' := H1) (low := l1) hfn hb (fun id hid => hne id hid) ?_ ?_
              · refine (hrun true noL _ (ρ ++ [F1]) c (fun k b s h => by cases h) hY1 hcode hp.1).wp (fun _ => rfl) (Goes.refl _) hpush.rel ?_ (DefOk.nil W1)
                show All2 _ _ ((#[Value.func (.yield (w.heap.size + 1)) #[] #[]] ++ vs.toArray) ++ Array.replicate (fn.ntmps - (#[Value.func (.yield (w.heap.size + 1)) #[] #[]] ++ vs.toArray).size) undef).toList
                have hs : (#[Value.func (.yield (w.heap.size + 1)) #[] #[]] ++ vs.toArray).size = caps.length + 1 := by simp [hlen]
                rw [hs]
                simp only [Array.toList_append, Array.toList_replicate]
                refine All2.app (show All2 _ (_ :: _) ([_] ++ vs) from ⟨?_, ?_⟩) (All2.replicate undef_ok _)
                · refine ⟨F1, ?_, by rw [hF1]⟩
                  rw [← r.len]; simp
                · exact (capsA_ok hvs).mono fun _ _ => RV.goes (Goes.app ρ [F1])
              · intro ρ' w' a' hs ht'
                obtain ⟨us, hus, _⟩ := results_ok hs.rel ht' hres hp.2
                refine ⟨_, hus, ?_⟩
                obtain ⟨F, hF, hlo⟩ := hs.goes.at_
                rw [r.len] at hF
                have hblk : (F 0).blk = w.heap.size + 1 := by rw [(hlo 0).1, hF1]
                have haux : (F 0).aux = rec := by rw [(hlo 0).2.2.2, hF1]
                have fin : ∀ (st : LoopState) (pend : Option Code), H1[H.length]? = some (some (.obj (.loop st pend))) → st ≠ .busy → ∃ w4 ρ4, (Instr.endLoop (w.heap.size + 1)).run P w' = .ok pend w4 ∧
                    Step ρ H w (min l1 H.length) ρ4 (setL H1 H.length none) w4 ∧ DefOk B w4 ({ target := .collected w.heap.size, args := #[] } :: a.defers) := by
                  intro st pend hl hst
                  have hl1 := loop_at hs.rel hl hF
                  rw [haux, hblk] at hl1
                  have h2 := Step.putOb (o' := .loop .exhausted pend) hs.rel hl hF (fun _ h => h) (.loop { rec with state := .exhausted, pending := pend }) (fun _ h => h) (by
                    show (World.putObj _ _ _).heap[_]? = _
                    rw [World.putObj_heap_same (loop_lt hs.rel hl hF), haux])
                  rw [hblk] at h2
                  have h3 := Step.kill h2.rel H.length H.length
                  have hset : (H1.set H.length (some (.obj (.loop .exhausted pend)))).set H.length none = setL H1 H.length none := by rw [setL_eq, List.set_set]
                  rw [hset] at h3
                  refine ⟨_, ρ', run_endLoop hl1 hst, (Step.trans r hpush (Step.trans hpush.rel hs (Step.trans hs.rel h2 h3))).mono (by omega), ?_⟩
                  have hdW : DefOk B W1 ({ target := .collected w.heap.size, args := #[] } :: a.defers) := by
                    obtain ⟨k0, bs, k1, k2, k3⟩ := hd
                    refine ⟨by omega, w.heap.size :: bs, by rw [k1]; rfl, List.nodup_cons.2 ⟨fun hm => ?_, k2⟩, ?_⟩
                    · have := (Array.getElem?_eq_some_iff.1 (k3 _ hm).2).1
                      omega
                    · intro b hb
                      rcases List.mem_cons.1 hb with rfl | hb
                      · exact ⟨k0, hD1⟩
                      · obtain ⟨k4, k5⟩ := k3 b hb
                        exact ⟨k4, (hsame b (Array.getElem?_eq_some_iff.1 k5).1).trans k5⟩
                  exact (hdW.step hpush.rel hs).step hs.rel h2
                unfold leftA at hleft
                rw [nth_eq] at hleft
                split at hleft
                · rename_i hl
                  cases hleft
                  obtain ⟨w4, ρ4, h1, h2, h3⟩ := fin _ _ hl (fun h => by cases h)
                  exact ⟨_, w4, h1, rfl, h3, ρ4, h2, ht.goes h2.goes⟩
                · rename_i hl
                  cases hleft
                  obtain ⟨w4, ρ4, h1, h2, h3⟩ := fin _ _ hl (fun h => by cases h)
                  exact ⟨_, w4, h1, wpIn_ret ⟨rfl, h3, ρ4, h2, ht.goes h2.goes⟩⟩
                · rename_i id hl
                  cases hleft
                  obtain ⟨w4, ρ4, h1, h2, h3⟩ := fin _ _ hl (fun h => by cases h)
                  exact ⟨_, w4, h1, wpIn_exit ⟨rfl, h3, ρ4, h2, ht.goes h2.goes⟩⟩
                · cases hleft
          · cases h
        · cases h
      · cases h
    · cases h
  · cases h

theorem codeA_ok {P : Program} {E : FuncId → Sum D} (hE : ∀ f, Valid P f (E f)) {DR : Array Oper → List AV → Heap D → Dec → RR D} (hD : DValid P DR) : ∀ (n : Nat), RunOk P (codeA P E DR n)
  | 0 => fun top L Y ρ0 c H H' t t' dec d p low ex hL hY h hp => by simp [codeA] at h
  | n + 1 => fun top L Y ρ0 c H H' t t' dec d p low ex hL hY h hp => by
    have ihr := codeA_ok hE hD n
    have ih : ∀ (c : Code) {q : Option Nat} {B : Nat} {ρ : Map} {H H' : Heap D} {w : World} {t t' : List AV} {a : Act} {dec d : Dec} {p : VC} {low : Nat} {ex : Ex}, (top = true → q = none) → Goes ρ0 ρ → Rel ρ H w → TR ρ t a → DefOk B w a.defers →
        codeA P E DR n top L Y c t H dec = some (p, ex, t', H', low, d) → VC.ok p → c.wpIn (Fr q) 0 P (Done B ρ H w ex t' H' low) a w :=
      fun c _ _ _ _ _ _ _ _ _ _ _ _ _ _ hq g0 r ht hd h hp => (ihr top L Y ρ0 c hL hY h hp).wp hq g0 r ht hd
    cases c with
    | skip =>
      intro q B ρ w a hq g0 r ht hd
      simp only [codeA, Option.some.injEq, Prod.mk.injEq] at h
      obtain ⟨rfl, rfl, rfl, rfl, rfl, rfl⟩ := h
      exact wpIn_skip ⟨rfl, hd, ρ, Step.refl r _, ht⟩
    | region id ops draw =>
      intro q B ρ w a hq g0 r ht hd
      cases draw with
      | false =>
        simp only [codeA] at h
        split at h
        · rename_i q1 t1 H1 l1 d1 hr
          simp only [Option.some.injEq, Prod.mk.injEq] at h
          obtain ⟨rfl, rfl, rfl, rfl, rfl, rfl⟩ := h
          have := regionA_ok (q := q) hE hY (Done B ρ H w .normal t1 H1 l1) ops.toList 0 (by simp) g0 r ht hd hr hp (fun a' w' h => h)
          exact wpIn_region (by simpa using this)
        · cases h
      | true =>
        simp only [codeA] at h
        split at h
        · rename_i q1 t1 H1 l1 d1 hr
          simp only [Option.some.injEq, Prod.mk.injEq] at h
          obtain ⟨rfl, rfl, rfl, rfl, rfl, rfl⟩ := h
          exact hD id ops t H dec _ _ _ _ _ hr hp q B ρ w a r ht hd
        · cases h
    | seq x y =>
      intro q B ρ w a hq g0 r ht hd
      simp only [codeA] at h
      split at h
      · rename_i q1 t1 H1 l1 d1 hx
        split at h
        · rename_i q2 ex2 t2 H2 l2 d2 hy
          simp only [Option.some.injEq, Prod.mk.injEq] at h
          obtain ⟨rfl, rfl, rfl, rfl, rfl, rfl⟩ := h
          have hp := ok_app.1 hp
          refine wpIn_seq (wpIn_mono (ih x hq g0 r ht hd hx hp.1) ?_)
          rintro e a' w' ⟨rfl, hd', ρ', hs, ht'⟩
          show y.wpIn (Fr q) 0 P _ a' w'
          exact wpIn_mono (ih y hq (g0.trans hs.goes) hs.rel ht' hd' hy hp.2) fun e a w h => h.trans r hs
        · cases h
      · rename_i hne
        refine wpIn_seq (wpIn_mono (ih x hq g0 r ht hd h hp) ?_)
        rintro e a' w' hdone
        obtain ⟨rfl, hrest⟩ := hdone
        cases ex with
        | normal => exact absurd h (by intro hh; exact hne _ _ _ _ _ hh)
        | exit id => exact ⟨rfl, hrest⟩
        | ret => exact ⟨rfl, hrest⟩
    | cond x thn els =>
      intro q B ρ w a hq g0 r ht hd
      simp only [codeA] at h
      split at h
      · rename_i b d1 hx
        split at h
        · rename_i q1 rr hr
          cases h
          have e : a.eval x = .bool b := cellOf_ok ht hx
          have hb : b = false := hp.1
          subst hb
          exact wpIn_cond_false e (ih els hq g0 r ht hd hr hp.2)
        · cases h
      · rename_i b k d1 hx
        split at h
        · rename_i q1 rr hr
          cases h
          have e : a.eval x = .bool b := cellOf_ok ht hx
          have hb : b = true := hp.1
          subst hb
          exact wpIn_cond_true e (ih thn hq g0 r ht hd hr hp.2)
        · cases h
      · cases h
    | block id body =>
      intro q B ρ w a hq g0 r ht hd
      simp only [codeA] at h
      split at h
      · rename_i q1 id' rr hr
        split at h
        · rename_i hid
          have hid' : id' = id := Nat.eq_of_beq_eq_true hid
          subst hid'
          cases h
          refine wpIn_block (wpIn_mono (ih body hq g0 r ht hd hr hp) ?_)
          rintro e a' w' ⟨rfl, hrest⟩
          simp only [Ex.real, Exit.inBlock, if_true]
          exact ⟨rfl, hrest⟩
        · rename_i hid
          have hid' : id' ≠ id := Nat.ne_of_beq_eq_false hid
          cases h
          refine wpIn_block (wpIn_mono (ih body hq g0 r ht hd hr hp) ?_)
          rintro e a' w' ⟨rfl, hrest⟩
          simp only [Ex.real, Exit.inBlock, hid', if_false]
          exact ⟨rfl, hrest⟩
      · rename_i hne
        refine wpIn_block (wpIn_mono (ih body hq g0 r ht hd h hp) ?_)
        rintro e a' w' ⟨rfl, hrest⟩
        cases ex with
        | normal => exact ⟨rfl, hrest⟩
        | exit id' => exact absurd h (by intro hh; exact hne _ _ _ hh)
        | ret => exact ⟨rfl, hrest⟩
    | loop body =>
      simp only [codeA] at h
      split at h
      · rename_i d1
        split at h
        · rename_i q1 t1 H1 l1 d2 hb
          split at h
          · rename_i q2 ex2 t2 H2 l2 d3 hl
            simp only [Option.some.injEq, Prod.mk.injEq] at h
            obtain ⟨rfl, rfl, rfl, rfl, rfl, rfl⟩ := h
            have hp := ok_app.1 hp
            obtain ⟨m, hm⟩ := ihr top L Y ρ0 (.loop body) hL hY hl hp.2
            refine ⟨m + 1, fun q B ρ w a hq g0 r ht hd => wpIn_mono (ih body hq g0 r ht hd hb hp.1) ?_⟩
            rintro e a' w' ⟨rfl, hd', ρ', hs, ht'⟩
            exact rounds_mono (fun e a w h => h.trans r hs) (hm q B ρ' w' a' hq (g0.trans hs.goes) hs.rel ht' hd')
          · cases h
        · rename_i hne
          refine ⟨1, fun q B ρ w a hq g0 r ht hd => wpIn_mono (ih body hq g0 r ht hd h hp) ?_⟩
          rintro e a' w' ⟨rfl, hrest⟩
          cases ex with
          | normal => exact absurd h (by intro hh; exact hne _ _ _ _ _ hh)
          | exit id' => exact ⟨rfl, hrest⟩
          | ret => exact ⟨rfl, hrest⟩
      · rename_i k d1
        split at h
        · rename_i b s hk
          split at h
          · rename_i q1 rr hs
            cases h
            obtain ⟨rfl, hq⟩ := hp
            obtain ⟨m, hm⟩ := hL k _ s hk t H d1 _ _ _ _ _ _ hs hq
            exact ⟨m, fun q B ρ w a _ _ r ht hd => hm q B ρ w a r ht hd⟩
          · cases h
        · cases h
      · cases h
    | rangeFunc f ps as body =>
      intro q B ρ w a hq g0 r ht hd
      simp only [codeA] at h
      split at h
      · obtain rfl := hq rfl
        exact rangeA_ok ihr hL hY h hp g0 r ht hd
      · cases h
    | exit id =>
      intro q B ρ w a hq g0 r ht hd
      simp only [codeA, Option.some.injEq, Prod.mk.injEq] at h
      obtain ⟨rfl, rfl, rfl, rfl, rfl, rfl⟩ := h
      exact wpIn_exit ⟨rfl, hd, ρ, Step.refl r _, ht⟩
    | ret =>
      intro q B ρ w a hq g0 r ht hd
      simp only [codeA, Option.some.injEq, Prod.mk.injEq] at h
      obtain ⟨rfl, rfl, rfl, rfl, rfl, rfl⟩ := h
      exact wpIn_ret ⟨rfl, hd, ρ, Step.refl r _, ht⟩
    | scope body => simp only [codeA, reduceCtorEq] at h
    | label l => simp only [codeA, reduceCtorEq] at h
    | goto l => simp only [codeA, reduceCtorEq] at h
    | refuse why => simp only [codeA, reduceCtorEq] at h

/-- Runs of code that hold everywhere. -/
def Runs (P : Program) (c : Code) (t : List AV) (H : Heap D) (ex : Ex) (t' : List AV) (H' : Heap D) (low : Nat) : Prop :=
  match c with
  | .loop body => ∃ m, ∀ (q : Option Nat) (B : Nat) ρ w a, Rel ρ H w → TR ρ t a → DefOk B w a.defers → Code.roundsIn (Fr q) 0 P body (Done B ρ H w ex t' H' low) m a w
  | c => ∀ (q : Option Nat) (B : Nat) ρ w a, Rel ρ H w → TR ρ t a → DefOk B w a.defers → c.wpIn (Fr q) 0 P (Done B ρ H w ex t' H' low) a w

theorem Goes.nil (ρ : Map) : Goes [] ρ := fun i F h => by simp at h

theorem RunsAt.runs {P : Program} {c : Code} {t : List AV} {H : Heap D} {ex : Ex} {t' : List AV} {H' : Heap D} {low : Nat} (h : RunsAt P false [] c t H ex t' H' low) : Runs P c t H ex t' H' low := by
  cases c with
  | loop body => obtain ⟨m, hm⟩ := h; exact ⟨m, fun q B ρ w a r ht hd => hm q B ρ w a (fun h => by cases h) (Goes.nil ρ) r ht hd⟩
  | _ => exact fun q B ρ w a r ht hd => h q B ρ w a (fun h => by cases h) (Goes.nil ρ) r ht hd

theorem Runs.wp {P : Program} {c : Code} {t : List AV} {H : Heap D} {ex : Ex} {t' : List AV} {H' : Heap D} {low : Nat} (h : Runs P c t H ex t' H' low) {q : Option Nat} {B : Nat} {ρ : Map} {w : World} {a : Act} (r : Rel ρ H w) (ht : TR ρ t a) (hd : DefOk B w a.defers) :
    c.wpIn (Fr q) 0 P (Done B ρ H w ex t' H' low) a w := by
  cases c with
  | loop body => obtain ⟨m, hm⟩ := h; exact wpIn_loop_rounds m (hm q B ρ w a r ht hd)
  | _ => exact h q B ρ w a r ht hd

theorem bodyA_valid {P : Program} {E : FuncId → Sum D} (hE : ∀ f, Valid P f (E f)) {L : LS D} (hL : ∀ k b s, L k = some (b, s) → LValid P b s)
    {DR : Array Oper → List AV → Heap D → Dec → RR D} (hD : DValid P DR) (fuel : Nat) (f : FuncId) : Valid P f (bodyA P E L DR fuel f) := by
  intro args H dec p v H' low d h hp ρ w as r ha
  unfold bodyA at h
  try simp only [nth_eq, setL_eq, und_eq, inf_eq] at h
  split at h
  · rename_i fn hfn
    rw [Array.getElem?_toList] at hfn
    split at h
    · rename_i c hc
      have hlen : args.length = as.size := by rw [ha.length]; simp
      have ht : TR ρ (args ++ List.replicate (fn.ntmps - args.length) undefA) { tmps := as ++ Array.replicate (fn.ntmps - as.size) undef, defers := [] } := by
        show All2 _ _ (as ++ Array.replicate (fn.ntmps - as.size) undef).toList
        rw [Array.toList_append, Array.toList_replicate, hlen]
        exact ha.app (All2.replicate undef_ok _)
      split at h
      · cases h
      · rename_i q1 ex t1 H1 l1 d1 hne hcode
        split at h
        · rename_i q2 vs d2 hres
          simp only [Option.some.injEq, Prod.mk.injEq] at h
          obtain ⟨rfl, rfl, rfl, rfl, rfl⟩ := h
          have hp := ok_app.1 hp
          refine callsIn_wide.1 (show CallsIn (Fr none) 0 P f as w _ from calls_of_done (ρ := ρ) (H := H) (ex := ex) (t' := t1) (H' := H1) (low := l1) hfn hc (fun id hid => hne id hid)
            ((codeA_ok hE hD fuel true L noY [] c hL (noY_valid _ _) hcode hp.1).wp (fun _ => rfl) (Goes.nil ρ) r ht (DefOk.nil w)) ?_)
          intro ρ' w' a' hs ht'
          obtain ⟨us, h1, h2⟩ := results_ok hs.rel ht' hres hp.2
          exact ⟨_, h1, _, ρ', rfl, hs, tupA_ok h2⟩
        · cases h
      · cases h
    · cases h
  · cases h

def evalF (P : Program) (S : FuncId → Option (Sum D)) (L : FuncId → LS D) (DR : (FuncId → Sum D) → Array Oper → List AV → Heap D → Dec → RR D) (fuel : Nat) : Nat → FuncId → Sum D
  | 0, f => match S f with
    | some s => s
    | none => fun _ _ _ => none
  | n + 1, f => match S f with
    | some s => s
    | none => bodyA P (evalF P S L DR fuel n) (L f) (DR (evalF P S L DR fuel n)) fuel f

theorem evalF_valid {P : Program} {S : FuncId → Option (Sum D)} (hS : ∀ f s, S f = some s → Valid P f s) {L : FuncId → LS D} (hL : ∀ f k b s, L f k = some (b, s) → LValid P b s)
    {DR : (FuncId → Sum D) → Array Oper → List AV → Heap D → Dec → RR D} (hD : ∀ E, (∀ f, Valid P f (E f)) → DValid P (DR E)) (fuel : Nat) : ∀ (n : Nat) (f : FuncId), Valid P f (evalF P S L DR fuel n f)
  | 0, f => by
    unfold evalF
    split
    · rename_i s hs; exact hS f s hs
    · intro args H dec p v H' low d h; cases h
  | n + 1, f => by
    unfold evalF
    split
    · rename_i s hs; exact hS f s hs
    · have ih := evalF_valid hS hL hD fuel n
      exact bodyA_valid ih (hL f) (hD _ ih) fuel f

end
end
end Go.Proofs.Ytnoonoghemgbbaa.Sx
