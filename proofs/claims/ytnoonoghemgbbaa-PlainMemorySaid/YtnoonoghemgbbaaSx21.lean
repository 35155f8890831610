/-
  A symbolic evaluator over the model's code: part 21: regions that draw their order: the proof.
-/
import Derived.Test.YtnoonoghemgbbaaSx20
set_option linter.unusedVariables false
set_option linter.unusedSimpArgs false
namespace Go.Proofs.Ytnoonoghemgbbaa.Sx
open Go
noncomputable section

section
variable {D : Type}

theorem Yields.ofIf {P : Program} {ops : Array Oper} {o : Oper} {v : Value} {a : Act} (h : YieldsIf P ops (fun _ => True) o v a) : Yields P ops o v a :=
  h.imp (fun ⟨a, b⟩ => ⟨a, fun w => b w trivial⟩) id

/-- The same end with the new blocks in another order. -/
theorem Fin.perm {B : Nat} {ρ : Map} {H : Heap D} {w : World} {t t1 t2 : List AV} {H1 H2 : Heap D} {l2 low : Nat} {ds s : List Nat} (r : Rel ρ H w) (hl : low ≤ l2)
    (hp : permOk H.length s H2.length = true) (hf : fixT (pf H.length s) t = true)
    (he : (ds.map fun j => t1[j]?) = (ds.map fun j => (t2[j]?).map (renV (pf H.length s)))) (hH : H1 = permH (pf H.length s) (pinv H.length s) H2.length H2)
    (h1 : ∀ j, j ∉ ds → t1[j]? = t[j]?) (h2 : ∀ j, j ∉ ds → t2[j]? = t[j]?) {a' : Act} {w' : World} (h : Fin B ρ H w t2 H2 l2 a' w') : Fin B ρ H w t1 H1 low a' w' := by
  obtain ⟨hd, ρ', hs, ht⟩ := h
  obtain ⟨ρ'', hs', g⟩ := Step.perm (permOk_ok hp) rfl rfl r hs
  refine ⟨hd, ρ'', by rw [hH]; exact hs'.mono hl, ?_⟩
  have e : t1 = t2.map (renV (pf H.length s)) := by
    apply List.ext_getElem?
    intro j
    rw [List.getElem?_map]
    by_cases hj : j ∈ ds
    · exact List.map_inj_left.1 he j hj
    · rw [h1 j hj, h2 j hj]
      cases hx : t[j]? with
      | none => rfl
      | some v =>
        have := List.all_eq_true.1 hf v (List.mem_of_getElem? hx)
        simp only [Option.map_some, renV_fix this]
  rw [e]
  exact All2.map_left (f := renV (pf H.length s)) (fun _ _ => RV.ren g) ht

theorem wpX_step {P : Program} {ops : Array Oper} {Q : Exit → Act → World → Prop} {Wl : List Nat} {S : World → Prop} {clean : Bool} {k : Nat} {ls : List Bool} {a : Act} {w : World} {r : Nat} {rs : List Nat} (hr : readyL ops.toList ls = r :: rs)
    (h : ∀ i ∈ readyL ops.toList ls, wpOp P ops Q i (fun a' w' => wpX P ops Q Wl S (clean && !(Wl.any (Nat.beq i))) k (ls.set i true) a' w' ∧ ((clean && !(Wl.any (Nat.beq i))) = true → S w')) a w) :
    wpX P ops Q Wl S clean (k + 1) ls a w := by
  cases clean with
  | false =>
    refine ⟨fun h0 => ?_, fun i hi => ?_⟩
    · rw [readyL_eq, hr] at h0; cases h0
    · rw [readyL_eq] at hi
      refine wpOp_mono (fun a' w' h' => ?_) (h i hi)
      have := h'.1
      simp only [Bool.false_and, wpX] at this
      rw [List.setIfInBounds_toArray]
      exact this
  | true =>
    refine ⟨fun h0 => ?_, fun i hi => ?_⟩
    · rw [readyL_eq, hr] at h0; cases h0
    · rw [readyL_eq] at hi
      refine wpOp_mono (fun a' w' h' => ⟨fun hW => ?_, fun hW => ?_⟩) (h i hi)
      · have := h'.1
        simp only [hW, Bool.not_true, Bool.and_false, wpX] at this
        rw [List.setIfInBounds_toArray]
        exact this
      · have h1 := h'.1
        have h2 := h'.2
        simp only [hW, Bool.not_false, Bool.and_true, wpX] at h1 h2
        rw [List.setIfInBounds_toArray]
        exact ⟨h2 trivial, h1⟩

theorem drawA_ok {B : Nat} {P : Program} {E : FuncId → Sum D} (hE : ∀ f, Valid P f (E f)) {ops : Array Oper} (hsel : noSelectL ops.toList = true) {ρ0 : Map} {H0 : Heap D} {w0 : World} (r0 : Rel ρ0 H0 w0) {m : Nat} (hm : m ≤ H0.length) {Wl : List Nat}
    {Q : Exit → Act → World → Prop} (hnp : ∀ c a w, ¬ Q (.panic c) a w) : ∀ (k : Nat) {clean : Bool} {ls : List Bool} {t t' : List AV} {H H' : Heap D} {dec d : Dec} {p : VC} {low : Nat},
    drawA P E ops H0 m Wl k clean ls t H dec = some (p, t', H', low, d) → VC.ok p → ∀ {ρ : Map} {w : World} {a : Act}, Rel ρ H w → TR ρ t a → DefOk B w a.defers → (clean = true → Step ρ0 H0 w0 m ρ H w) →
    (∀ a' w', Fin B ρ H w t' H' low a' w' → Q .normal a' w') → wpX P ops Q Wl (Same ρ0 H0 w0 m) clean k ls a w := by
  intro k
  have stop : ∀ (k : Nat) {clean : Bool} {ls : List Bool} {t : List AV} {H : Heap D}, readyL ops.toList ls = [] → ∀ {ρ : Map} {w : World} {a : Act}, Rel ρ H w → TR ρ t a → DefOk B w a.defers →
      (∀ a' w', Fin B ρ H w t H H.length a' w' → Q .normal a' w') → wpX P ops Q Wl (Same ρ0 H0 w0 m) clean k ls a w := by
    intro k clean ls t H hr ρ w a r ht hd hQ
    have hq : Q .normal a w := hQ a w ⟨hd, ρ, Step.refl r _, ht⟩
    have hr' : Region.ready .any ops ls.toArray = [] := by rw [readyL_eq]; exact hr
    cases clean with
    | false => exact wpAny_done hr' hq k
    | true =>
      cases k with
      | zero => exact ⟨hr', hq⟩
      | succ k => exact ⟨fun _ => hq, by rw [hr']; intro i hi; cases hi⟩
  induction k with
  | zero =>
    intro clean ls t t' H H' dec d p low h hp ρ w a r ht hd hc hQ
    unfold drawA at h
    split at h
    · rename_i hr
      cases h
      exact stop 0 hr r ht hd hQ
    · cases h
  | succ k ih =>
    intro clean ls t t' H H' dec d p low h hp ρ w a r ht hd hc hQ
    unfold drawA at h
    split at h
    · rename_i hr
      cases h
      exact stop (k + 1) hr r ht hd hQ
    · rename_i r1 rs hr
      simp only at h
      split at h
      · rename_i i o q v d1 hpick
        split at h
        · rename_i q2 res hdr
          cases h
          have hp := ok_app.1 hp
          obtain ⟨hi, ho, hcase⟩ := pickA_ok hpick
          rw [← hr] at hi
          have hi' : i ∈ Region.ready .any ops ls.toArray := by rw [readyL_eq]; exact hi
          have hset : ls.toArray.setIfInBounds i true = (ls.set i true).toArray := List.setIfInBounds_toArray ..
          rcases hcase with ⟨hf, hca⟩ | ⟨hcl, hWi, hf, hca⟩
          · obtain ⟨rv, hy, hv⟩ := calmA_ok (S := fun _ => True) (fun w' _ => nones_rel (D := D) r.len w') (Goes.refl ρ) (Goes.refl ρ) (w := w) trivial ht hca hp.1
            have hy := Yields.ofIf hy
            have hfree : ∀ j oj, ops[j]? = some oj → j ≠ i → ls.toArray.getD j true = false → (∀ e ∈ oj.after, Region.binds .any e = true → e.on ≠ i) → o.apart ops oj = true := fun j oj hj hne hun hno =>
              (freeAt_ok hf j oj (by rw [Array.getElem?_toList]; exact hj) (by omega) (by rw [Nat.zero_add]; exact hun) hno).1
            have hrec := ih hdr hp.2 (a := a.put o.dst rv) r (ht.put hv) (by rw [put_defers]; exact hd) hc hQ
            cases clean with
            | true =>
              have hrec' : wpH P ops Q (fun i => Wl.any (Nat.beq i)) (Same ρ0 H0 w0 m) k (ls.set i true).toArray (a.put o.dst rv) w := hrec
              rw [← hset] at hrec'
              exact wpH_firstY ho (fun j o cs b => noSelectL_ok hsel j o cs b) hnp k ls.toArray a w hfree hi' hy ⟨(hc rfl).ext.size, (hc rfl).ext.block⟩ hrec'
            | false =>
              have hrec' : wpAny P .any ops Q k (ls.set i true).toArray (a.put o.dst rv) w := hrec
              rw [← hset] at hrec'
              exact wpAny_first ho (fun j o cs b => noSelectL_ok hsel j o cs b) (fun c a w h => (hnp _ _ _ h).elim) k ls.toArray a w hfree hi' hy hrec'
          · subst hcl
            have hc' := hc rfl
            have hsame : Same ρ0 H0 w0 m w := ⟨hc'.ext.size, hc'.ext.block⟩
            obtain ⟨ρx, hx, g1, g2⟩ := cold_rel r0 hm hc'.goes r.len
            obtain ⟨rv, hy, hv⟩ := calmA_ok (S := Same ρ0 H0 w0 m) hx g1 g2 hsame ht hca hp.1
            have hfree : ∀ j oj, ops[j]? = some oj → j ≠ i → ls.toArray.getD j true = false → (∀ e ∈ oj.after, Region.binds .any e = true → e.on ≠ i) → o.apart ops oj = true ∧ Wl.any (Nat.beq j) = false := fun j oj hj hne hun hno => by
              have := freeAt_ok hf j oj (by rw [Array.getElem?_toList]; exact hj) (by omega) (by rw [Nat.zero_add]; exact hun) hno
              rw [Nat.zero_add] at this
              exact ⟨this.1, this.2 rfl⟩
            have hrec : wpH P ops Q (fun i => Wl.any (Nat.beq i)) (Same ρ0 H0 w0 m) k (ls.set i true).toArray (a.put o.dst rv) w := ih hdr hp.2 (a := a.put o.dst rv) r (ht.put hv) (by rw [put_defers]; exact hd) hc hQ
            rw [← hset] at hrec
            exact wpH_first ho (fun j o cs b => noSelectL_ok hsel j o cs b) hnp hWi k ls.toArray a w hfree hi' hy hsame hrec
        · cases h
      · split at h
        · rename_i acc hbr
          obtain ⟨p0, t0, H0', l0, d0⟩ := acc
          obtain ⟨rfl, rfl, hlow, hv⟩ := joinA_ok h
          obtain ⟨hp0, hothers⟩ := hv hp
          have branch : ∀ (i : Nat) (dec : Dec) (q : VC) (t1 : List AV) (H1 : Heap D) (l1 : Nat) (d1 : Dec), i ∈ readyL ops.toList ls → 
              (match ops[i]? with
                | none => none
                | some o => match guardA ops t o dec with
                  | some (p, true, d) => match opD P E t H d o.op with
                    | some (q, v, H', l, d') => match !clean || (Wl.any (Nat.beq i) || Nat.ble m l) with
                      | true => match drawA P E ops H0 m Wl k (clean && !(Wl.any (Nat.beq i))) (ls.set i true) (putA t o.dst v) H' d' with
                        | some (s, t', H'', l', d'') => some (p ++ (q ++ s), t', H'', min l l', d'')
                        | none => none
                      | false => none
                    | none => none
                  | _ => none : RR D) = some (q, t1, H1, l1, d1) → VC.ok q →
              (∀ j, j ∉ dstsA ops.toList ls → t1[j]? = t[j]?) ∧ ((∀ a' w', Fin B ρ H w t1 H1 l1 a' w' → Q .normal a' w') →
                wpOp P ops Q i (fun a' w' => wpX P ops Q Wl (Same ρ0 H0 w0 m) (clean && !(Wl.any (Nat.beq i))) k (ls.set i true) a' w' ∧ ((clean && !(Wl.any (Nat.beq i))) = true → Same ρ0 H0 w0 m w')) a w) := by
            intro i dec q t1 H1 l1 d1 hi hb hq
            split at hb
            · cases hb
            · rename_i o ho
              split at hb
              · rename_i pg dg hg
                split at hb
                · rename_i q1 v H2 l2 d2 hop
                  split at hb
                  · rename_i hck
                    split at hb
                    · rename_i s t2 H3 l3 d3 hdr
                      simp only [Option.some.injEq, Prod.mk.injEq] at hb
                      obtain ⟨rfl, rfl, rfl, rfl, rfl⟩ := hb
                      refine ⟨fun j hj => ?_, fun hQ' => ?_⟩
                      · rw [drawA_frame k hdr j fun hx => hj (dstsA_set hx)]
                        exact putA_other fun he => hj (dstsA_mem (i := i) (o := o) (by rw [Array.getElem?_toList]; exact ho) (readyL_at hi).1 he)
                      · have hq1 := ok_app.1 hq
                        have hq2 := ok_app.1 hq1.2
                        unfold wpOp
                        rw [ho]
                        simp only [guardA_ok ht hg hq1.1, if_true]
                        refine .inl (opD_ok hE r ht hop hq2.1 _ Q fun ρ' w' rv hs hrv => ?_)
                        have hc' : (clean && !(Wl.any (Nat.beq i))) = true → Step ρ0 H0 w0 m ρ' H2 w' := fun hcl => by
                          rw [Bool.and_eq_true] at hcl
                          have hW : Wl.any (Nat.beq i) = false := by simpa using hcl.2
                          rw [hcl.1, hW] at hck
                          have hml : m ≤ l2 := Nat.le_of_ble_eq_true (by simpa using hck)
                          exact (Step.trans r0 (hc hcl.1) hs).mono (by omega)
                        refine ⟨ih hdr hq2.2 hs.rel ((ht.goes hs.goes).put hrv) (by rw [put_defers]; exact hd.step r hs) hc' ?_, fun hcl => ⟨(hc' hcl).ext.size, (hc' hcl).ext.block⟩⟩
                        rintro a' w'' ⟨h1, ρ'', h2, h3⟩
                        exact hQ' a' w'' ⟨h1, ρ'', Step.trans r hs h2, h3⟩
                    · cases hb
                  · cases hb
                · cases hb
              · cases hb
          have hfirst := branch r1 dec p0 t' H' l0 d0 (by rw [hr]; exact List.mem_cons_self) hbr hp0
          refine wpX_step hr fun i hi => ?_
          rw [hr] at hi
          rcases List.mem_cons.1 hi with rfl | hi
          · refine hfirst.2 fun a' w' hf => hQ a' w' ?_
            obtain ⟨h1, ρ', h2, h3⟩ := hf
            exact ⟨h1, ρ', h2.mono hlow, h3⟩
          · obtain ⟨dec2, q, t2, H2, l2, d2, s, hb, hq, hl2, h1, h2, h3, h4⟩ := hothers i hi
            have hb' := branch i dec2 q t2 H2 l2 d2 (by rw [hr]; exact List.mem_cons_of_mem _ hi) hb hq
            exact hb'.2 fun a' w' hf => hQ a' w' (Fin.perm r hl2 h1 h2 h3 h4 hfirst.1 hb'.1 hf)
        · cases h

/-- A region that draws its order does what the evaluator says. -/
theorem drawR_ok {P : Program} (hmix : P.follows .mixedOrders = true) {E : FuncId → Sum D} (hE : ∀ f, Valid P f (E f)) : DValid P (drawR P E) := by
  intro id ops t H dec p t' H' low d h hp q B ρ w a r ht hd
  unfold drawR at h
  split at h
  · rename_i m k dd
    split at h
    · rename_i hb
      rw [Bool.and_eq_true] at hb
      refine wpIn_region_any hmix (anyIn_of_any Done.notOut (fun j o c ho => noDeferL_ok hb.1 j o c ho) _ _ _ _ (wpH_any (W := fun i => (dd.take k).any (Nat.beq i)) (S := Same ρ H w.drew m) _ _ _ _ ?_))
      have := drawA_ok (B := B) (Q := Done B ρ H w .normal t' H' low) hE hb.1 r.drew (Nat.le_of_ble_eq_true hb.2) (fun c a w h => by cases h.1) ops.size h hp r.drew ht (hd.step r (Step.drew r low)) (fun _ => Step.refl r.drew m) (fun a' w' hf => by
        obtain ⟨h1, ρ', h2, h3⟩ := hf
        exact ⟨rfl, h1, ρ', (Step.trans r (Step.drew r low) h2).mono (by omega), h3⟩)
      simpa [wpX] using this
    · cases h
  · cases h
end
end
end Go.Proofs.Ytnoonoghemgbbaa.Sx
