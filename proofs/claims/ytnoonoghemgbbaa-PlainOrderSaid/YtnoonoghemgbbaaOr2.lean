import Derived.Test.YtnoonoghemgbbaaOr1
/-
  A symbolic evaluator over the model's code: part 8: operations that turn memory do in the model what they do to the abstract heap.
-/
set_option linter.unusedVariables false
set_option linter.unusedSimpArgs false
namespace Go.Proofs.Ytnoonoghemgbbaa.Sx
open Go

/-! ### Contents, joined and cut -/
theorem Cont.at_of_lt {c : Cont} (hw : c.wf) {j : Nat} (h : j < c.len) : ∃ x, c.At j x := by
  cases c with
  | raw cs => exact ⟨cs[j], List.getElem?_eq_getElem h⟩
  | ints k l => exact ⟨_, l[j], List.getElem?_eq_getElem h, rfl⟩
  | fam n sz f =>
    have hs : 0 < sz := by
      rcases Nat.eq_zero_or_pos sz with e | e
      · subst e; simp [Cont.len] at h
      · exact e
    have hi : j / sz < n := Nat.div_lt_of_lt_mul (by rw [Nat.mul_comm]; exact h)
    have hm : j % sz < sz := Nat.mod_lt _ hs
    have hl : (f (j / sz)).length = sz := hw _ hi
    exact ⟨_, j / sz, j % sz, hi, hm, by rw [Nat.mul_comm]; exact (Nat.div_add_mod j sz).symm, List.getElem?_eq_getElem (by omega)⟩

theorem colInts_len {k : IntKind} : ∀ {l : List Cell} {ns : List Int}, colInts k l = some ns → ns.length = l.length
  | [], ns, h => by simp [colInts] at h; subst h; rfl
  | x :: l, ns, h => by
    unfold colInts at h
    split at h
    · rename_i heq; cases heq
    · rename_i k' n l' heq
      cases heq
      split at h
      · rename_i ns' hk hr
        cases h
        simp [colInts_len hr]
      · cases h
    · cases h

theorem colInts_at {k : IntKind} {l : List Cell} {ns : List Int} (h : colInts k l = some ns) {j : Nat} {x : Cell} : (Cont.ints k ns).At j x → (Cont.raw l).At j x := by
  rintro ⟨n, hn, rfl⟩
  have hj : j < l.length := by rw [← colInts_len h]; exact (List.getElem?_eq_some_iff.1 hn).1
  have := colInts_get h (List.getElem?_eq_getElem hj)
  show l[j]? = _
  rw [List.getElem?_eq_getElem hj, this]
  simp [List.getD, hn]

theorem Cont.sub_ok {c c' : Cont} {off n : Nat} {p : Cd} (h : c.sub off n = some (p, c')) (hp : p) (hw : c.wf) : c'.len = n ∧ c'.wf ∧ off + n ≤ c.len ∧ ∀ j x, c'.At j x → c.At (off + j) x := by
  cases c with
  | raw cs =>
    simp only [Cont.sub] at h
    split at h
    · rename_i hb
      cases h
      have hb' : off + n ≤ cs.length := by simpa using hb
      refine ⟨by simp [Cont.len]; omega, trivial, hb', fun j x hx => ?_⟩
      have hx' : ((cs.drop off).take n)[j]? = some x := hx
      rw [List.getElem?_take] at hx'
      split at hx'
      · rwa [List.getElem?_drop] at hx'
      · cases hx'
    · cases h
  | ints k l =>
    cases h
    have hb' : off + n ≤ l.length := hp
    refine ⟨by simp [Cont.len]; omega, trivial, hb', ?_⟩
    rintro j x ⟨m, hm, rfl⟩
    rw [List.getElem?_take] at hm
    split at hm
    · rw [List.getElem?_drop] at hm; exact ⟨m, hm, rfl⟩
    · cases hm
  | fam m sz f =>
    cases h
    obtain ⟨h1, h2, h3, h4⟩ := hp
    have e1 : n / sz * sz = n := Nat.div_mul_cancel (Nat.dvd_of_mod_eq_zero h2)
    have e2 : off / sz * sz = off := Nat.div_mul_cancel (Nat.dvd_of_mod_eq_zero h1)
    refine ⟨e1, ?_, h3, ?_⟩
    · intro i hi
      refine hw _ ?_
      have : (off / sz + i) * sz < m * sz := by
        rw [Nat.add_mul, e2]
        have : (i + 1) * sz ≤ n / sz * sz := Nat.mul_le_mul_right _ hi
        rw [e1, Nat.succ_mul] at this; omega
      exact Nat.lt_of_mul_lt_mul_right this
    · rintro j x ⟨i, s, hi, hs, rfl, hx⟩
      refine ⟨off / sz + i, s, ?_, hs, by rw [Nat.add_mul, e2]; omega, hx⟩
      have : (off / sz + i) * sz < m * sz := by
        rw [Nat.add_mul, e2]
        have : (i + 1) * sz ≤ n / sz * sz := Nat.mul_le_mul_right _ hi
        rw [e1, Nat.succ_mul] at this; omega
      exact Nat.lt_of_mul_lt_mul_right this

theorem ints_cat {k : IntKind} {l m : List Int} {j : Nat} {x : Cell} : (Cont.ints k (l ++ m)).At j x → (j < l.length ∧ (Cont.ints k l).At j x) ∨ (l.length ≤ j ∧ (Cont.ints k m).At (j - l.length) x) := by
  rintro ⟨n, hn, rfl⟩
  rcases Nat.lt_or_ge j l.length with h | h
  · rw [List.getElem?_append_left h] at hn; exact .inl ⟨h, n, hn, rfl⟩
  · rw [List.getElem?_append_right h] at hn; exact .inr ⟨h, n, hn, rfl⟩

theorem Cont.cat_ok {a b c : Cont} (h : a.cat b = some c) (ha : a.wf) (hb : b.wf) : c.len = a.len + b.len ∧ c.wf ∧ ∀ j x, c.At j x → (j < a.len ∧ a.At j x) ∨ (a.len ≤ j ∧ b.At (j - a.len) x) := by
  unfold Cont.cat at h
  split at h
  · cases h
    exact ⟨by simp [Cont.len], hb, fun j x hx => .inr ⟨by simp [Cont.len], by simpa [Cont.len] using hx⟩⟩
  · cases h
    exact ⟨by simp [Cont.len], ha, fun j x hx => .inl ⟨hx.lt, hx⟩⟩
  · cases h
    refine ⟨by simp [Cont.len], trivial, fun j x hx => ?_⟩
    rename_i p q _ _
    have hx' : (p ++ q)[j]? = some x := hx
    rcases Nat.lt_or_ge j p.length with h | h
    · rw [List.getElem?_append_left h] at hx'; exact .inl ⟨h, hx'⟩
    · rw [List.getElem?_append_right h] at hx'; exact .inr ⟨h, hx'⟩
  · split at h
    · rename_i hk
      cases kindEq_ok hk
      cases h
      exact ⟨by simp [Cont.len], trivial, fun j x hx => ints_cat hx⟩
    · cases h
  · split at h
    · rename_i m hm
      cases h
      refine ⟨by simp [Cont.len, colInts_len hm], trivial, fun j x hx => ?_⟩
      rcases ints_cat hx with h | ⟨h1, h2⟩
      · exact .inl h
      · exact .inr ⟨h1, colInts_at hm h2⟩
    · cases h
  · split at h
    · rename_i m hm
      cases h
      refine ⟨by simp [Cont.len, colInts_len hm], trivial, fun j x hx => ?_⟩
      have e := colInts_len hm
      rcases ints_cat hx with ⟨h1, h2⟩ | ⟨h1, h2⟩
      · exact .inl ⟨by simpa [Cont.len, e] using h1, colInts_at hm h2⟩
      · exact .inr ⟨by simpa [Cont.len, e] using h1, by simpa [Cont.len, e] using h2⟩
    · cases h
  · cases h

theorem list_over {α : Type} {l m : List α} {off : Nat} (hl : off + m.length ≤ l.length) (j : Nat) :
    (l.take off ++ m ++ l.drop (off + m.length))[j]? = if off ≤ j ∧ j < off + m.length then m[j - off]? else l[j]? := by
  rw [List.append_assoc]
  rcases Nat.lt_or_ge j off with h | h
  · rw [List.getElem?_append_left (by simp; omega), List.getElem?_take, if_pos h, if_neg (by omega)]
  · rw [List.getElem?_append_right (by simp; omega)]
    have e : (l.take off).length = off := by simp; omega
    rw [e]
    rcases Nat.lt_or_ge j (off + m.length) with h2 | h2
    · rw [List.getElem?_append_left (by omega), if_pos ⟨h, h2⟩]
    · rw [List.getElem?_append_right (by omega), List.getElem?_drop, if_neg (by omega)]
      congr 1; omega

theorem Cont.over_ok {c x c' : Cont} {off : Nat} {p : Cd} (h : c.over off x = some (p, c')) (hp : p) : c'.len = c.len ∧ c'.wf ∧ off + x.len ≤ c.len ∧
    ∀ j y, c'.At j y → (off ≤ j ∧ j < off + x.len ∧ x.At (j - off) y) ∨ (¬ (off ≤ j ∧ j < off + x.len) ∧ c.At j y) := by
  have key : ∀ {k : IntKind} {l m : List Int} {j : Nat} {y : Cell}, off + m.length ≤ l.length → (Cont.ints k (l.take off ++ m ++ l.drop (off + m.length))).At j y →
      (off ≤ j ∧ j < off + m.length ∧ (Cont.ints k m).At (j - off) y) ∨ (¬ (off ≤ j ∧ j < off + m.length) ∧ (Cont.ints k l).At j y) := by
    rintro k l m j y hl ⟨n, hn, rfl⟩
    rw [list_over hl] at hn
    split at hn
    · rename_i hc; exact .inl ⟨hc.1, hc.2, n, hn, rfl⟩
    · rename_i hc; exact .inr ⟨hc, n, hn, rfl⟩
  unfold Cont.over at h
  split at h
  · rename_i cs xs
    split at h
    · rename_i hb
      cases h
      have hl : off + xs.length ≤ cs.length := by simpa using hb
      refine ⟨by simp [Cont.len]; omega, trivial, hl, fun j y hy => ?_⟩
      have hy' : (cs.take off ++ xs ++ cs.drop (off + xs.length))[j]? = some y := hy
      rw [list_over hl] at hy'
      split at hy'
      · rename_i hc; exact .inl ⟨hc.1, hc.2, hy'⟩
      · rename_i hc; exact .inr ⟨hc, hy'⟩
    · cases h
  · rename_i k l k' m
    split at h
    · rename_i hk
      cases kindEq_ok hk
      cases h
      have hl : off + m.length ≤ l.length := hp
      exact ⟨by simp [Cont.len]; omega, trivial, hl, fun j y hy => key hl hy⟩
    · cases h
  · rename_i k l xs
    split at h
    · rename_i m hm
      cases h
      have hl : off + m.length ≤ l.length := hp
      have e := colInts_len hm
      refine ⟨by simp [Cont.len]; omega, trivial, by simpa [Cont.len, ← e] using hl, fun j y hy => ?_⟩
      rcases key hl hy with ⟨h1, h2, h3⟩ | ⟨h1, h2⟩
      · exact .inl ⟨h1, by simpa [Cont.len, ← e] using h2, colInts_at hm h3⟩
      · exact .inr ⟨by simpa [Cont.len, ← e] using h1, h2⟩
    · cases h
  · cases h

theorem Cont.put_ok {c c' : Cont} {off : Nat} {xs : List Cell} {p : Cd} (h : c.put off xs = some (p, c')) (hp : p) : c'.len = c.len ∧ c'.wf ∧ off + xs.length ≤ c.len ∧
    ∀ j y, c'.At j y → (off ≤ j ∧ j < off + xs.length ∧ xs[j - off]? = some y) ∨ (¬ (off ≤ j ∧ j < off + xs.length) ∧ c.At j y) := by
  unfold Cont.put at h
  try simp only [nth_eq, setL_eq, und_eq, inf_eq] at h
  split at h
  · rename_i cs
    have : (Cont.raw cs).over off (.raw xs) = some (p, c') := h
    exact Cont.over_ok this hp
  · rename_i k l
    split at h
    · rename_i k' n
      split at h
      · rename_i hk
        cases kindEq_ok hk
        cases h
        have hl : off < l.length := hp
        refine ⟨by simp [Cont.len], trivial, hl, ?_⟩
        rintro j y ⟨m, hm, rfl⟩
        rw [List.getElem?_set] at hm
        split at hm
        · rename_i e
          subst e
          cases hm
          exact .inl ⟨Nat.le_refl _, by simp, by simp⟩
        · rename_i e
          refine .inr ⟨by simp; omega, m, hm, rfl⟩
      · cases h
    · cases h
  · cases h

/-! ### Reading a row of real cells -/
theorem read_ok {ρ : Map} {w : World} {L : Loc} {c c' : Cont} (hc : ContAt ρ w L c) {off : Nat} (hw : c'.wf) (hx : ∀ j x, c'.At j x → c.At (off + j) x) :
    ∃ vs : List Value, vs.length = c'.len ∧ (∀ v ∈ vs, v.oneCell' = true) ∧ (∀ j v, vs[j]? = some v → w.cell? ((⟨L.blk, L.sh + off, none⟩ : Addr).add j) = some v) ∧ ∀ j x, c'.At j x → ∃ v, vs[j]? = some v ∧ RC ρ x v := by
  let g : Nat → Value := fun j => (w.cell? ⟨L.blk, L.sh + (off + j), none⟩).getD undef
  have hg : ∀ j x, c'.At j x → w.cell? ⟨L.blk, L.sh + (off + j), none⟩ = some (g j) ∧ RC ρ x (g j) := by
    intro j x hj
    obtain ⟨v, hv, hr⟩ := hc _ x (hx j x hj)
    have : g j = v := by simp only [g, hv]; rfl
    rw [this]; exact ⟨hv, hr⟩
  refine ⟨(List.range c'.len).map g, by simp, ?_, ?_, ?_⟩
  · intro v hv
    obtain ⟨j, hj, rfl⟩ := List.mem_map.1 hv
    obtain ⟨x, hx'⟩ := Cont.at_of_lt hw (List.mem_range.1 hj)
    exact (hg j x hx').2.one
  · intro j v hv
    rw [List.getElem?_map] at hv
    rcases Nat.lt_or_ge j c'.len with hlt | hge
    · rw [List.getElem?_range hlt] at hv
      simp at hv
      obtain ⟨x, hx'⟩ := Cont.at_of_lt hw hlt
      rw [addr_add, Nat.add_assoc, ← hv]
      exact (hg j x hx').1
    · rw [List.getElem?_eq_none (by simpa using hge)] at hv
      simp at hv
  · intro j x hj
    exact ⟨g j, by rw [List.getElem?_map, List.getElem?_range hj.lt]; rfl, (hg j x hj).2⟩

/-- Cells written one behind the other, into a block none of whose cells is frozen. -/
theorem storeCells_ok {P : Program} (g o : Nat) (t : TypeId) (fr : Nat × Nat) : ∀ (vs : List Value) (i : Nat) (cur : Array Value) (w : World), w.heap[g]? = some (.cells cur t fr) → Warm cur.size fr → o + i + vs.length ≤ cur.size →
    (∀ v ∈ vs, v.oneCell' = true) → (storeCells ⟨g, o, none⟩ vs i).run P w = .ok () (w.setRow g (cur.toList.take (o + i) ++ vs ++ cur.toList.drop (o + i + vs.length)).toArray)
  | [], i, cur, w, hg, _, _, _ => by
    simp only [storeCells, List.append_nil, List.length_nil, Nat.add_zero, List.take_append_drop, Array.toArray_toList]
    rw [setRow_self w g cur t fr hg]
    rfl
  | v :: rest, i, cur, w, hg, hf, hl, h1 => by
    have hi : o + i < cur.size := by simp at hl; omega
    have hcell : w.cell? ⟨g, o + i, none⟩ = some cur[o + i] := by simp [World.cell?, hg, hi]
    have hfro : w.frozen? ⟨g, o + i, none⟩ = false := by
      have := hf (o + i) hi
      cases h : w.frozen? ⟨g, o + i, none⟩ with
      | false => rfl
      | true => simp [World.frozen?, hg] at h; exact absurd h this
    have hst : (store ((⟨g, o, none⟩ : Addr).add i) v).run P w = .ok () (w.setRow g (cur.setIfInBounds (o + i) v)) := by
      rw [addr_add, run_store P w _ v _ (h1 v (by simp)), hcell]
      simp [hfro, setCell_eq_setRow w g (o + i) cur t fr v hg]
    have ih := storeCells_ok (P := P) g o t fr rest (i + 1) (cur.setIfInBounds (o + i) v) (w.setRow g (cur.setIfInBounds (o + i) v)) (setRow_heap w g cur _ t _ hg) (by simpa using hf) (by simp at hl ⊢; omega) (fun x hx => h1 x (by simp [hx]))
    simp only [storeCells, Sem.run_bind, hst, Result.andThen_ok, ih, setRow_setRow]
    congr 3
    have e := list_seg_step cur.toList (o + i) v rest (by simp at hl ⊢; omega)
    simpa [Array.toList_setIfInBounds, Nat.add_assoc] using e
end Go.Proofs.Ytnoonoghemgbbaa.Sx

/-
  A symbolic evaluator over the model's code: part 9: stores, new blocks, appends, copies: each does in the model what it does to the abstract heap.
-/
set_option linter.unusedVariables false
set_option linter.unusedSimpArgs false
namespace Go.Proofs.Ytnoonoghemgbbaa.Sx
open Go

section
variable {D : Type}

/-- An operation that turns memory. -/
def MemOk (P : Program) (ρ : Map) (H : Heap D) (w : World) (a : Act) (o : Oper) (v : AV) (H' : Heap D) (low : Nat) : Prop :=
  ∃ r ρ' w', ((execOp a.eval o).run P w = .ok (.value r) w' ∨ ((execOp a.eval o).run P w = .ok .skip w' ∧ r = undef)) ∧ Step ρ H w low ρ' H' w' ∧ RV ρ' v r

def SemOk (P : Program) (ρ : Map) (H : Heap D) (w : World) (s : Sem Value) (v : AV) (H' : Heap D) (low : Nat) : Prop :=
  ∃ r ρ' w', s.run P w = .ok r w' ∧ Step ρ H w low ρ' H' w' ∧ RV ρ' v r

theorem mem_of {P : Program} {ρ : Map} {H H' : Heap D} {w : World} {a : Act} {o : Oper} {v : AV} {low : Nat} {s : Sem Value} (he : execOp a.eval o = (do pure (.value (← s)))) (h : SemOk P ρ H w s v H' low) :
    MemOk P ρ H w a o v H' low := by
  obtain ⟨r, ρ', w', hr, hs, hv⟩ := h
  exact ⟨r, ρ', w', .inl (by rw [he]; simp only [Sem.run_bind, hr, Result.andThen_ok]; rfl), hs, hv⟩

/-- Cells of a block of ours written anew. -/
theorem write_ok {P : Program} {ρ : Map} {H : Heap D} {w : World} (r : Rel ρ H w) {id num : Nat} {cc : Nat → Cont} {F : Nat → Loc} {idx : Nat} (hb : H[id]? = some (some (.cells true num cc))) (hF : ρ[id]? = some F)
    (hi : idx < num) {off : Nat} {vs : List Value} {c' : Cont} (hl : c'.len = (cc idx).len) (hw : c'.wf) (hle : off + vs.length ≤ (cc idx).len) (h1 : ∀ v ∈ vs, v.oneCell' = true)
    (hat : ∀ j y, c'.At j y → (off ≤ j ∧ j < off + vs.length ∧ ∃ v, vs[j - off]? = some v ∧ RC ρ y v) ∨ (¬ (off ≤ j ∧ j < off + vs.length) ∧ (cc idx).At j y)) :
    ∃ w', (storeCells ⟨(F idx).blk, (F idx).sh + off, none⟩ vs).run P w = .ok () w' ∧ Step ρ H w id ρ (H.set id (some (.cells true num (upd num cc idx c')))) w' := by
  have h0 := r.at_ id _ F idx hb hF hi
  obtain ⟨g1, g2, cs, e, fr, g3, g4, g5⟩ := h0.2.2.2.2 rfl
  have hlen : (F idx).sh + off + vs.length ≤ cs.toList.length := by simp; omega
  refine ⟨_, storeCells_ok (P := P) (F idx).blk ((F idx).sh + off) e fr vs 0 cs w g3 g5 (by simp at hlen ⊢; omega) h1, ?_⟩
  refine Step.setRow r hb hF hi g3 _ (by simp at hlen ⊢; omega) c' hw (by omega) ?_
  intro j x hx
  simp only [Nat.add_zero, List.getElem?_toArray]
  rw [list_over hlen]
  rcases hat j x hx with ⟨a1, a2, v, hv, hr⟩ | ⟨a1, a2⟩
  · exact ⟨v, by rw [if_pos (by omega), show (F idx).sh + j - ((F idx).sh + off) = j - off by omega]; exact hv, hr⟩
  · obtain ⟨v, hv, hr⟩ := h0.2.2.2.1 j x a2
    refine ⟨v, ?_, hr⟩
    rw [if_neg (by omega)]
    simpa [World.cell?, g3] using hv

theorem store_ok {P : Program} {ρ : Map} {H : Heap D} {w : World} {t : List AV} {a : Act} (r : Rel ρ H w) (ht : TR ρ t a) {ty : TypeId} {x y : Operand} {nl : Bool} {id idx off num : Nat} {xs : List Cell} {n : Nat} {cc : Nat → Cont} {p : Cd} {c : Cont}
    (hx : cellOf t x = some (.ptr nl id idx off)) (hy : cellsOf t y = some xs) (hn : sizeA P ty = some n) (hb : H[id]? = some (some (.cells true num cc))) (hp : (cc idx).put off xs = some (p, c))
    (h1 : nl = false) (h2 : idx < num) (h3 : xs.length = n) (h4 : p) :
    ∃ w', (Instr.storeAt ty (a.eval x) (a.eval y)).run P w = .ok () w' ∧ Step ρ H w id ρ (H.set id (some (.cells true num (upd num cc idx c)))) w' := by
  obtain ⟨F, hF⟩ := r.mapAt hb
  rcases cellOf_ok ht hx with ⟨h0, _⟩ | ⟨_, F', hF', e⟩
  · rw [h1] at h0; cases h0
  · rw [hF] at hF'; cases hF'
    have hc := cellsOf_ok ht hy
    obtain ⟨q1, q2, q3, q4⟩ := Cont.put_ok hp h4
    have hlen : (a.eval y).cells.toList.length = xs.length := hc.length.symm
    obtain ⟨w', hw', hs⟩ := write_ok (P := P) r hb hF h2 (off := off) (vs := (a.eval y).cells.toList) q1 q2 (by rw [hlen]; exact q3)
      (fun v hv => by
        obtain ⟨j, hj, rfl⟩ := List.getElem_of_mem hv
        have : j < xs.length := by rw [← hlen]; exact hj
        obtain ⟨b, hb', hr⟩ := hc.get (List.getElem?_eq_getElem this)
        rw [List.getElem?_eq_getElem hj] at hb'
        cases hb'
        exact hr.one)
      (fun j z hz => by
        rw [hlen]
        rcases q4 j z hz with ⟨b1, b2, b3⟩ | b
        · obtain ⟨b, hb', hr⟩ := hc.get b3
          exact .inl ⟨b1, b2, b, hb', hr⟩
        · exact .inr b)
    refine ⟨w', ?_, hs⟩
    have hsz : (a.eval y).cells.size = n := by rw [← h3, ← hlen]; simp
    simp only [Instr.storeAt, Sem.run_bind, e, Instr.sureAddr, Sem.run_pure, Result.andThen_ok, storeVar, sizeA_ok (w := w) hn, hsz]
    simpa using hw'

theorem last_map {ρ : Map} {H : Heap D} {w : World} (r : Rel ρ H w) (F : Nat → Loc) : (ρ ++ [F])[H.length]? = some F := by
  rw [← r.len, List.getElem?_append_right (Nat.le_refl _)]; simp

/-- A new block of cells one by one. -/
theorem allocRaw_ok {ρ : Map} {H : Heap D} {w : World} (r : Rel ρ H w) {z : List Cell} {vs : List Value} (hz : All2 (RC ρ) z vs) (e : TypeId) :
    ∃ ρ', Step ρ H w H.length ρ' (H ++ [some (.cells true 1 fun _ => .raw z)]) (w.alloc (.cells vs.toArray e)) ∧
      ∃ F : Nat → Loc, ρ'[H.length]? = some F ∧ F 0 = ⟨w.heap.size, 0, vs.length, fun k => k = w.heap.size, default⟩ := by
  refine ⟨_, Step.alloc r vs.toArray e (.raw z) trivial (by simp [Cont.len, hz.length]) ?_, fun _ => ⟨w.heap.size, 0, vs.toArray.size, fun k => k = w.heap.size, default⟩, ?_, ?_⟩
  · intro j x hx
    obtain ⟨v, hv, hr⟩ := hz.get hx
    exact ⟨v, by simpa using hv, hr⟩
  · rw [← r.len, List.getElem?_append_right (Nat.le_refl _)]; simp
  · simp

theorem alloc_ok {P : Program} {ρ : Map} {H : Heap D} {w : World} (r : Rel ρ H w) {e : TypeId} {z : List Cell} (h : zeroA P e = some z) :
    SemOk P ρ H w (Instr.alloc e true (.tuple #[])) (.cell (.ptr false H.length 0 0)) (H ++ [some (.cells true 1 fun _ => .raw z)]) H.length := by
  obtain ⟨it, v, hit, hv, hz⟩ := zeroA_ok (ρ := ρ) h
  obtain ⟨ρ', hs, F, hF, e0⟩ := allocRaw_ok r hz e
  refine ⟨.pointer (some ⟨w.heap.size, 0, none⟩), ρ', _, ?_, hs, .inr ⟨rfl, F, hF, by rw [e0]⟩⟩
  simp [Instr.alloc, zeroValue, typeInfo, hit, hv, newVar, newRow]

theorem box_ok {P : Program} {ρ : Map} {H : Heap D} {w : World} {t : List AV} {a : Act} (r : Rel ρ H w) (ht : TR ρ t a) {e : TypeId} {x : Operand} {z : List Cell} (h : cellsOf t x = some z) :
    SemOk P ρ H w (Instr.box e (a.eval x)) (.cell (.ptr false H.length 0 0)) (H ++ [some (.cells true 1 fun _ => .raw z)]) H.length := by
  obtain ⟨ρ', hs, F, hF, e0⟩ := allocRaw_ok r (cellsOf_ok ht h) e
  refine ⟨.pointer (some ⟨w.heap.size, 0, none⟩), ρ', _, ?_, hs, .inr ⟨rfl, F, hF, by rw [e0]⟩⟩
  simp [Instr.box, newVar, newRow]

theorem repA_ok {ρ : Map} {z : List Cell} {vs : List Value} (hz : All2 (RC ρ) z vs) (hs : 0 < vs.length) : ∀ n, All2 (RC ρ) (repA z n) ((List.range (n * vs.length)).map fun i => vs.toArray[i % vs.toArray.size]!)
  | 0 => by simp [repA, All2]
  | n + 1 => by
    have ih := repA_ok hz hs n
    rw [Nat.succ_mul, Nat.add_comm (n * vs.length), List.range_add, List.map_append]
    refine All2.app (l := z) (l' := repA z n) ?_ ?_
    · have e : (List.range vs.length).map (fun i => vs.toArray[i % vs.toArray.size]!) = vs := by
        apply List.ext_getElem (by simp)
        intro i h1 h2
        simp [Nat.mod_eq_of_lt h2, h2]
      rw [e]; exact hz
    · rw [List.map_map]
      have e : ((fun i => vs.toArray[i % vs.toArray.size]!) ∘ fun x => vs.length + x) = fun i => vs.toArray[i % vs.toArray.size]! := by
        funext i
        simp
      rw [e]; exact ih

theorem buildSlice_ok {P : Program} {ρ : Map} {H : Heap D} {w : World} {t : List AV} {a : Act} (r : Rel ρ H w) (ht : TR ρ t a) {ty e : TypeId} {len n : Nat} {parts : Array (Nat × Operand)} {z cs : List Cell} {ps : List (Nat × List Cell)}
    (hd : P.underlying ty = some (.slice e)) (hn : sizeA P e = some n) (hz : zeroA P e = some z) (hps : partsA t parts.toList = some ps) (hcs : fillA (fun i => some (i * n, n)) (repA z len) ps = some cs)
    (h1 : len * n ≤ 16777216) (h2 : z.length = n) (h3 : 0 < n) :
    SemOk P ρ H w (Instr.buildSlice ty len (parts.map fun (i, x) => (i, a.eval x))) (.cell (.slice false H.length 0 0 len (some len) n)) (H ++ [some (.cells true 1 fun _ => .raw cs)]) H.length := by
  obtain ⟨it, v, hit, hv, hzr⟩ := zeroA_ok (ρ := ρ) hz
  have hl : v.cells.toList.length = n := by rw [← hzr.length]; exact h2
  have hrep := repA_ok hzr (by omega) len
  rw [hl] at hrep
  obtain ⟨us, hu, hr⟩ := fillA_ok (partsA_ok ht hps) hrep hcs
  obtain ⟨ρ', hs, F, hF, e0⟩ := allocRaw_ok r hr e
  refine ⟨.slice (some ⟨w.heap.size, 0, none⟩) len len, ρ', _, ?_, hs, .inr ⟨rfl, F, len, hF, by rw [e0], Nat.le_refl _, rfl⟩⟩
  have hu' : Instr.fill (fun i => some (i * n, n)) ((List.range (len * n)).map fun i => v.cells.toList.toArray[i % v.cells.toList.toArray.size]!).toArray (parts.map fun (i, x) => (i, a.eval x)).toList = some us.toArray := by
    simpa using hu
  simp only [Instr.buildSlice, Sem.run_bind, equal_run P w _ _ hd, Result.andThen_ok, sizeA_ok (w := w) hn]
  rw [if_neg (by omega)]
  by_cases e0 : len * n = 0
  · have hcells : (Array.range (len * n)).map (fun i => (#[] : Array Value)[i % (#[] : Array Value).size]!) = ((List.range (len * n)).map fun i => v.cells.toList.toArray[i % v.cells.toList.toArray.size]!).toArray := by simp [e0]
    rw [if_pos e0]
    simp only [Sem.run_bind, Sem.run_pure, Result.andThen_ok]
    rw [hcells, hu']
    simp [newRow]
  · have hcells : (Array.range (len * n)).map (fun i => v.cells[i % v.cells.size]!) = ((List.range (len * n)).map fun i => v.cells.toList.toArray[i % v.cells.toList.toArray.size]!).toArray := by
      apply Array.toList_inj.1
      simp
    rw [if_neg e0]
    simp only [Sem.run_bind, Sem.run_pure, Result.andThen_ok, zeroValue, typeInfo, run_program, hit, hv]
    rw [hcells, hu']
    simp [newRow]

/-- Zero cells, n times. -/
theorem zeros_ok {ρ : Map} {z : List Cell} {vs : List Value} (hz : All2 (RC ρ) z vs) (hs : 0 < vs.length) (n : Nat) : (zerosA z n).len = n * vs.length ∧ (zerosA z n).wf ∧
    ∀ j x, (zerosA z n).At j x → ∃ v, ((List.range (n * vs.length)).map fun i => vs.toArray[i % vs.toArray.size]!)[j]? = some v ∧ RC ρ x v := by
  have hl := hz.length
  have key : ∀ j x, j < n * vs.length → z[j % vs.length]? = some x → ∃ v, ((List.range (n * vs.length)).map fun i => vs.toArray[i % vs.toArray.size]!)[j]? = some v ∧ RC ρ x v := by
    intro j x hj hx
    obtain ⟨v, hv, hr⟩ := hz.get hx
    refine ⟨v, ?_, hr⟩
    rw [List.getElem?_map, List.getElem?_range hj]
    have hm : j % vs.length < vs.length := Nat.mod_lt _ hs
    rw [List.getElem?_eq_getElem hm] at hv
    simpa [hm] using hv
  unfold zerosA
  split
  · rename_i k x
    simp at hl
    refine ⟨by simp [Cont.len, ← hl], trivial, ?_⟩
    rintro j y ⟨m, hm, rfl⟩
    have hj : j < n := by have := (List.getElem?_eq_some_iff.1 hm).1; simpa using this
    refine key j _ (by rw [← hl]; omega) ?_
    rw [← hl, Nat.mod_one]
    rw [List.getElem?_replicate, if_pos hj] at hm
    cases hm; rfl
  · refine ⟨by simp [Cont.len, hl], fun _ _ => rfl, ?_⟩
    rintro j y ⟨i, s, hi, hss, rfl, hx⟩
    rw [hl] at hss ⊢
    refine key _ y ?_ ?_
    · have : (i + 1) * vs.length ≤ n * vs.length := Nat.mul_le_mul_right _ hi
      rw [Nat.succ_mul] at this; omega
    · rw [Nat.add_comm, Nat.add_mul_mod_self_right, Nat.mod_eq_of_lt hss]; exact hx

theorem makeSlice_ok {P : Program} {ρ : Map} {H : Heap D} {w : World} (r : Rel ρ H w) {ty e : TypeId} {k k' : IntKind} {ln cp : Int} {n b : Nat} {z : List Cell}
    (hd : P.underlying ty = some (.slice e)) (hn : sizeA P e = some n) (hby : bytesA P e = some b) (hz : zeroA P e = some z) (h0 : 0 ≤ ln) (h1 : ln ≤ cp) (h2 : b * cp ≤ 281474976710656) (h3 : cp ≤ 9223372036854775807) (h4 : z.length = n) (h5 : 0 < n) :
    SemOk P ρ H w (Instr.makeSlice ty (.int k ln) (.int k' cp)) (.cell (.slice false H.length 0 0 ln.toNat (some cp.toNat) n)) (H ++ [some (.cells true 1 fun _ => zerosA z cp.toNat)]) H.length := by
  obtain ⟨it, v, hit, hv, hzr⟩ := zeroA_ok (ρ := ρ) hz
  have hl : v.cells.toList.length = n := by rw [← hzr.length]; exact h4
  obtain ⟨z1, z2, z3⟩ := zeros_ok hzr (by omega) cp.toNat
  rw [hl] at z1 z3
  have hs := Step.alloc r ((List.range (cp.toNat * n)).map fun i => v.cells.toList.toArray[i % v.cells.toList.toArray.size]!).toArray e (zerosA z cp.toNat) z2 (by simp [z1]) (fun j x hx => by
    obtain ⟨u, hu, hr⟩ := z3 j x hx
    exact ⟨u, by rw [List.getElem?_toArray]; exact hu, hr⟩)
  have hsz : ((List.range (cp.toNat * n)).map fun i => v.cells.toList.toArray[i % v.cells.toList.toArray.size]!).toArray.size = cp.toNat * n := by simp
  refine ⟨.slice (some ⟨w.heap.size, 0, none⟩) ln.toNat cp.toNat, _, _, ?_, hs, .inr ⟨rfl, _, cp.toNat, last_map r _, rfl, by omega, rfl⟩⟩
  · have hib : it.bytes = b := by
      unfold bytesA at hby
      try simp only [nth_eq, setL_eq, und_eq, inf_eq] at hby
      rw [hit] at hby
      simpa using hby
    have wl : IntKind.i64.wrap ln = ln := by unfold IntKind.wrap; simp [IntKind.bits, IntKind.signed]; omega
    have wc : IntKind.i64.wrap cp = cp := by unfold IntKind.wrap; simp [IntKind.bits, IntKind.signed]; omega
    have hc : ((decide (cp < 0) || decide ((b : Int) * cp > 2 ^ 48)) || decide (ln < 0) || decide (ln > cp)) = false := by
      simp only [Bool.or_eq_false_iff, decide_eq_false_iff_not]
      refine ⟨⟨⟨?_, ?_⟩, ?_⟩, ?_⟩ <;> omega
    simp only [Instr.makeSlice, Sem.run_bind, equal_run P w _ _ hd, Result.andThen_ok, asInt, asIntOf, Sem.run_pure, typeInfo, run_program, hit, hib, wl, wc]
    rw [hc]
    simp only [Bool.false_eq_true, if_false, Sem.run_bind, run_askRoom, Result.andThen_ok, sizeA_ok (w := w) hn]
    by_cases e0 : cp.toNat * n = 0
    · have hcells : (Array.range (cp.toNat * n)).map (fun i => (#[] : Array Value)[i % (#[] : Array Value).size]!) = ((List.range (cp.toNat * n)).map fun i => v.cells.toList.toArray[i % v.cells.toList.toArray.size]!).toArray := by simp [e0]
      rw [if_pos e0]
      simp only [Sem.run_bind, Sem.run_pure, Result.andThen_ok]
      rw [hcells]
      simp [newRow]
    · have hcells : (Array.range (cp.toNat * n)).map (fun i => v.cells[i % v.cells.size]!) = ((List.range (cp.toNat * n)).map fun i => v.cells.toList.toArray[i % v.cells.toList.toArray.size]!).toArray := by
        apply Array.toList_inj.1
        simp
      rw [if_neg e0]
      simp only [Sem.run_bind, Sem.run_pure, Result.andThen_ok, zeroValue, typeInfo, run_program, hit, hv]
      rw [hcells]
      simp [newRow]
end
end Go.Proofs.Ytnoonoghemgbbaa.Sx

/-
  A symbolic evaluator over the model's code: part 10: append, copy, clear, texts and bytes.
-/
set_option linter.unusedVariables false
set_option linter.unusedSimpArgs false
namespace Go.Proofs.Ytnoonoghemgbbaa.Sx
open Go

section
variable {D : Type}

/-- The elements that an append or a copy takes. -/
structure Src (P : Program) (ρ : Map) (w : World) (size : Nat) (v : Value) (c : Cont) (n : Nat) (vs : List Value) : Prop where
  len : ∀ w', (Builtin.lenOf v).run P w' = .ok n w'
  vlen : vs.length = n * size
  clen : c.len = n * size
  wf : c.wf
  one : ∀ u ∈ vs, u.oneCell' = true
  rel : ∀ j x, c.At j x → ∃ u, vs[j]? = some u ∧ RC ρ x u
  mem : ∀ a l k, v = .slice (some a) l k → ∀ j u, vs[j]? = some u → w.cell? (a.add j) = some u
  first : ∀ (w' : World) m, m ≤ n → w'.heap = w.heap → (Builtin.firstCells size m v).run P w' = .ok (vs.take (m * size)).toArray w'

theorem srcA_ok {P : Program} {ρ : Map} {H : Heap D} {w : World} (r : Rel ρ H w) {size : Nat} {x : Cell} {p : Cd} {c : Cont} {n : Nat} (h : srcA H size x = some (p, c, n)) (hp : p) {v : Value} (hv : RC ρ x v) :
    ∃ vs, Src P ρ w size v c n vs := by
  unfold srcA at h
  try simp only [nth_eq, setL_eq, und_eq, inf_eq] at h
  split at h
  · rename_i nl id idx off len cap sz
    split at h
    · rename_i own live cc hc
      split at h
      · rename_i q c' hs
        cases h
        obtain ⟨h1, h2, h3⟩ := hp
        obtain ⟨num, ccf, F, hb, rfl, hlt, hF, hwf, hat, _⟩ := contAt_ok r hc h2
        obtain ⟨s1, s2, s3, s4⟩ := Cont.sub_ok hs h3 hwf
        obtain ⟨vs, g1, g2, g3, g4⟩ := read_ok hat s2 s4
        refine ⟨vs, ?_, by rw [g1, s1], s1, s2, g2, g4, ?_, ?_⟩
        · rcases hv with ⟨_, rfl, rfl⟩ | ⟨_, F', rr, _, rfl, _⟩ <;> intro w' <;> rfl
        · intro aa l k he
          rcases hv with ⟨_, rfl, rfl⟩ | ⟨_, F', rr, hF', rfl, _⟩
          · simp at he
          · rw [hF] at hF'; cases hF'
            simp only [Value.slice.injEq, Option.some.injEq] at he
            obtain ⟨rfl, _⟩ := he
            exact g3
        · intro w' m hm hw
          rcases hv with ⟨_, rfl, rfl⟩ | ⟨_, F', rr, hF', rfl, _⟩
          · have : m = 0 := by omega
            subst this
            simp [Builtin.firstCells]
          · rw [hF] at hF'; cases hF'
            refine run_firstCells_some (P := P) w' size m _ n rr (vs.take (m * size)) ?_ ?_
            · have : m * size ≤ n * size := Nat.mul_le_mul_right _ hm
              rw [List.length_take, g1, s1]; omega
            · intro j u hu
              rw [List.getElem?_take] at hu
              split at hu
              · rw [← g3 j u hu]; simp [World.cell?, hw]
              · cases hu
      · cases h
    · cases h
      rcases hv with ⟨_, rfl, rfl⟩ | ⟨h0, _⟩
      · refine ⟨[], fun _ => rfl, by simp, by simp [Cont.len], trivial, by simp, fun j x hx => by simp [Cont.At] at hx, fun _ _ _ _ j u h => by simp at h, fun w' m hm _ => ?_⟩
        simp [Builtin.firstCells]
      · have : nl = true := hp
        rw [this] at h0; cases h0
  · cases h
    obtain ⟨a, k, rfl⟩ : ∃ a k, v = .slice a 0 k := by
      rcases hv with rfl | ⟨a, k, rfl⟩
      · exact ⟨_, _, rfl⟩
      · exact ⟨_, _, rfl⟩
    refine ⟨[], fun _ => rfl, by simp, by simp [Cont.len], trivial, by simp, fun j x hx => by simp [Cont.At] at hx, fun _ _ _ _ j u h => by simp at h, fun w' m hm _ => ?_⟩
    have : m = 0 := by omega
    subst this
    cases a <;> simp [Builtin.firstCells, loadCells, loadCellsFrom]
  · rename_i l
    cases h
    cases hv
    have h1 : size = 1 := hp
    subst h1
    have hs : (⟨l.toArray⟩ : ByteArray).size = l.length := List.size_toArray
    refine ⟨l.map fun b => .int .u8 b.toNat, fun w' => by simp [Builtin.lenOf, hs], by simp, by simp [Cont.len], trivial, ?_, ?_, (fun _ _ _ he => by cases he), ?_⟩
    · intro u hu
      obtain ⟨b, _, rfl⟩ := List.mem_map.1 hu
      rfl
    · rintro j x ⟨m, hm, rfl⟩
      rw [List.getElem?_map] at hm ⊢
      cases hl : l[j]? with
      | none => rw [hl] at hm; simp at hm
      | some b => rw [hl] at hm; simp at hm; exact ⟨_, rfl, by rw [← hm]; rfl⟩
    · intro w' m hm _
      have he : (⟨l.toArray⟩ : ByteArray).extract 0 m = ⟨(l.take m).toArray⟩ := by
        apply ByteArray.ext
        simp [ByteArray.data_extract, List.extract_eq_take_drop]
      simp only [Builtin.firstCells, he, Sem.run_pure]
      congr 1
      apply Array.toList_inj.1
      simp [List.map_take]
  · cases h

/-- Nothing that the model calls zeros is appended. -/
def NoZeros (P : Program) (tx : TypeId) : Prop := (∃ e, P.underlying tx = some (.slice e)) ∨ P.underlying tx = some .string

theorem append_in {P : Program} {ρ : Map} {w : World} {ty tx rt e : TypeId} {it : TypeInfo} (hd : P.underlying ty = some (.slice e)) (hz : NoZeros P tx) (hit : P.info? e = some it)
    {base : Option Addr} {sLen sCap : Nat} {v : Value} {c : Cont} {n : Nat} {vs : List Value} (hs : Src P ρ w it.size v c n vs) (hle : sLen + n ≤ sCap) :
    (Builtin.append_ #[ty, tx] rt #[.slice base sLen sCap, v]).run P w =
      (match base with
        | some a => (storeCells (a.add (sLen * it.size)) vs).run P w
        | none => .ok () w).andThen fun _ w' => .ok (.slice base (sLen + n) sCap) w' := by
  have hf := hs.first w n (Nat.le_refl _) rfl
  rw [List.take_of_length_le (Nat.le_of_eq hs.vlen)] at hf
  have hsz : (sizeOf e).run P w = .ok it.size w := by simp [sizeOf, typeInfo, hit]
  have hl := hs.len w
  rcases hz with ⟨e', hdx⟩ | hdx
  all_goals
    simp only [Builtin.append_, List.getElem?_toArray, List.getElem?_cons_zero, List.getElem?_cons_succ, Sem.run_bind, equal_run P w _ _ hd, equal_run P w _ _ hdx, Result.andThen_ok, hsz, Sem.run_pure, hl, Bool.false_eq_true, if_false, if_pos hle, Bool.not_false, if_true, hf]
    cases base <;> simp [Sem.run_bind]

theorem append_grow {P : Program} {ρ : Map} {w : World} {ty tx rt e : TypeId} {it : TypeInfo} {z : Value} (hd : P.underlying ty = some (.slice e)) (hz : NoZeros P tx) (hit : P.info? e = some it) (hzv : it.zero = some z)
    {base : Option Addr} {sLen sCap : Nat} {v : Value} {c cs : Cont} {n : Nat} {vs us : List Value} (hs : Src P ρ w it.size v c n vs) (ho : Src P ρ w it.size (.slice base sLen sCap) cs sLen us)
    (hgt : sCap < sLen + n) (h63 : sLen + n ≤ 9223372036854775807) (hby : (sLen + n) * it.bytes ≤ 140737488355328) :
    ∃ cap, sLen + n ≤ cap ∧ (Builtin.append_ #[ty, tx] rt #[.slice base sLen sCap, v]).run P w =
      .ok (.slice (some ⟨w.heap.size, 0, none⟩) (sLen + n) cap) (w.drew.alloc (.cells (us.toArray ++ vs.toArray ++ Builtin.zeroCells z.cells (cap - (sLen + n))) e)) := by
  have hf := hs.first w.drew n (Nat.le_refl _) rfl
  rw [List.take_of_length_le (Nat.le_of_eq hs.vlen)] at hf
  have hfo := ho.first w.drew sLen (Nat.le_refl _) rfl
  rw [List.take_of_length_le (Nat.le_of_eq ho.vlen)] at hfo
  have hsz : (sizeOf e).run P w = .ok it.size w := by simp [sizeOf, typeInfo, hit]
  have hl := hs.len w
  have hn : ¬ (sLen + n ≤ sCap) := by omega
  have h48 : ¬ (Builtin.nextslicecap (sLen + n) sCap * it.bytes > 2 ^ 48) := by
    have := growslice_fits hgt hby
    have e : (2 : Nat) ^ 48 = 281474976710656 := by decide
    omega
  have h63' : ¬ (9223372036854775807 < ((sLen : Int) + (n : Int))) := by omega
  refine ⟨grownCap w (sLen + n) sCap e, Nat.le_add_right _ _, ?_⟩
  have hti : (typeInfo e).run P w = .ok it w := by simp [typeInfo, hit]
  have hti' : (typeInfo e).run P w.drew = .ok it w.drew := by simp [typeInfo, hit]
  have hzv' : (zeroValue e).run P w.drew = .ok z w.drew := by simp [zeroValue, typeInfo, hit, hzv]
  have hch : (choose (.appendCap (sLen + n) sCap e)).run P w = .ok (grownCap w (sLen + n) sCap e) w.drew := by simp [grownCap, Question.forced]
  rcases hz with ⟨e', hdx⟩ | hdx
  all_goals
    simp only [Builtin.append_, List.getElem?_toArray, List.getElem?_cons_zero, List.getElem?_cons_succ, Sem.run_bind, equal_run P w _ _ hd, equal_run P w _ _ hdx, Result.andThen_ok, hsz, Sem.run_pure, hl, Bool.false_eq_true, if_false, if_neg hn, hti, false_or, Bool.not_false, if_true]
    rw [if_neg (by have e1 : IntKind.i64.max = 9223372036854775807 := by decide
                   rw [e1]; omega)]
    simp only [Sem.run_bind, hti, Result.andThen_ok]
    rw [if_neg h48]
    simp only [Sem.run_bind, hch, hti', run_askRoom, hf, hfo, hzv', Result.andThen_ok]
    simp [newRow, Array.append_assoc]
    rfl

theorem grow_ok {P : Program} {ρ : Map} {H : Heap D} {w : World} (r : Rel ρ H w) {ty tx rt e : TypeId} {it : TypeInfo} {z : Value} (hd : P.underlying ty = some (.slice e)) (hz : NoZeros P tx) (hit : P.info? e = some it) (hzv : it.zero = some z)
    {base : Option Addr} {sLen sCap : Nat} {v : Value} {cx cs c : Cont} {n : Nat} {vs us : List Value} (hs : Src P ρ w it.size v cx n vs) (hu : Src P ρ w it.size (.slice base sLen sCap) cs sLen us) (hc : cs.cat cx = some c)
    (hgt : sCap < sLen + n) (h63 : sLen + n ≤ 9223372036854775807) (hby : (sLen + n) * it.bytes ≤ 140737488355328) (hzl : z.cells.size = it.size) (hpos : 0 < it.size) :
    ∃ rv ρ' w', (Builtin.append_ #[ty, tx] rt #[.slice base sLen sCap, v]).run P w = .ok rv w' ∧ Step ρ H w H.length ρ' (H ++ [some (.cells true 1 fun _ => c)]) w' ∧
      RC ρ' (.slice false H.length 0 0 (sLen + n) none it.size) rv := by
  obtain ⟨c1, c2, c3⟩ := Cont.cat_ok hc hu.wf hs.wf
  obtain ⟨cap', hcap', hrun⟩ := append_grow (rt := rt) hd hz hit hzv hs hu hgt h63 hby
  have hzc : (Builtin.zeroCells z.cells (cap' - (sLen + n))).size = (cap' - (sLen + n)) * it.size := by
    simp [Builtin.zeroCells, hzl]
  have hsize : (us.toArray ++ vs.toArray ++ Builtin.zeroCells z.cells (cap' - (sLen + n))).size = cap' * it.size := by
    rw [Array.size_append, Array.size_append, hzc]
    simp only [List.size_toArray]
    rw [hu.vlen, hs.vlen, ← Nat.add_mul, ← Nat.add_mul]
    congr 1; omega
  have hst := Step.alloc r.drew (us.toArray ++ vs.toArray ++ Builtin.zeroCells z.cells (cap' - (sLen + n))) e c c2 (by
    rw [hsize, c1, hu.clen, hs.clen, ← Nat.add_mul]; exact Nat.mul_le_mul_right _ hcap') (fun j y hy => by
    have key : ∀ u, (us ++ vs)[j]? = some u → (us.toArray ++ vs.toArray ++ Builtin.zeroCells z.cells (cap' - (sLen + n)))[j]? = some u := by
      intro u hu'
      have hj := (List.getElem?_eq_some_iff.1 hu').1
      rw [Array.getElem?_append_left (by simpa using hj)]
      simpa using hu'
    rcases c3 j y hy with ⟨a1, a2⟩ | ⟨a1, a2⟩
    · obtain ⟨u, hu', hr⟩ := hu.rel j y a2
      exact ⟨u, key u (by rw [List.getElem?_append_left (List.getElem?_eq_some_iff.1 hu').1]; exact hu'), hr⟩
    · obtain ⟨u, hu', hr⟩ := hs.rel _ y a2
      refine ⟨u, key u ?_, hr⟩
      rw [List.getElem?_append_right (by rw [hu.vlen, ← hu.clen]; exact a1), hu.vlen, ← hu.clen]; exact hu')
  have hst2 := (Step.drew r H.length).trans r hst
  rw [Nat.min_self] at hst2
  refine ⟨_, _, _, hrun, hst2, .inr ⟨rfl, _, cap', last_map r _, rfl, hcap', ?_⟩⟩
  simp only [hsize, World.size_drew]
  rw [Nat.add_zero, Nat.sub_zero, Nat.mul_div_cancel _ hpos]

theorem appendA_ok {P : Program} {ρ : Map} {H H' : Heap D} {w : World} (r : Rel ρ H w) {ty tx rt : TypeId} {s x : Cell} {dec d : Dec} {p : Cd} {v : AV} {low : Nat} (hz : NoZeros P tx)
    (h : appendA P H ty s x dec = some (p, v, H', low, d)) (hp : p) {sv xv : Value} (hsv : RC ρ s sv) (hxv : RC ρ x xv) : SemOk P ρ H w (Builtin.append_ #[ty, tx] rt #[sv, xv]) v H' low := by
  unfold appendA at h
  try simp only [nth_eq, setL_eq, und_eq, inf_eq] at h
  split at h
  · rename_i e hd
    split at h
    · rename_i size bytes z hsz hby hzz
      obtain ⟨it, zv, hit, hzv, hzr⟩ := zeroA_ok (ρ := ρ) hzz
      have e1 : it.size = size := by unfold sizeA at hsz; try simp only [nth_eq, setL_eq, und_eq, inf_eq] at hsz; rw [hit] at hsz; simpa using hsz
      have e2 : it.bytes = bytes := by unfold bytesA at hby; try simp only [nth_eq, setL_eq, und_eq, inf_eq] at hby; rw [hit] at hby; simpa using hby
      have hzl : zv.cells.toList.length = z.length := hzr.length.symm
      split at h
      · rename_i px cx n hx
        split at h
        · -- a new array for sure
          rename_i d' nl id idx off len cap sz
          split at h
          · rename_i q cs n' ho
            split at h
            · rename_i c hc
              cases h
              obtain ⟨h1, h2, h3, h4, h5, h6, h7⟩ := hp
              obtain ⟨vs, hs⟩ := srcA_ok (P := P) r hx h1 hxv
              obtain ⟨us, hu⟩ := srcA_ok (P := P) r ho h2 hsv
              obtain ⟨c1, c2, c3⟩ := Cont.cat_ok hc hu.wf hs.wf
              have hbase : ∃ base sCap, sv = .slice base len sCap ∧ sCap < len + n ∧ n' = len := by
                rcases hsv with ⟨rfl, rfl, rfl⟩ | ⟨rfl, F, rr, hF, rfl, hr, hcap⟩
                · refine ⟨none, 0, rfl, ?_, ?_⟩
                  · rcases h7 with ⟨_, h7⟩ | ⟨h7, _⟩
                    · omega
                    · cases h7
                  · have := hu.len w; simp [Builtin.lenOf] at this; exact this.symm
                · refine ⟨_, rr, rfl, ?_, ?_⟩
                  · rcases h7 with ⟨h7, _⟩ | ⟨_, h7⟩
                    · cases h7
                    · cases cap with
                      | none => exact h7.elim
                      | some k => simp only at hcap h7; omega
                  · have := hu.len w; simp [Builtin.lenOf] at this; exact this.symm
              obtain ⟨base, sCap, rfl, hgt, rfl⟩ := hbase
              subst e1
              obtain ⟨rv, ρ', w', q1, q2, q3⟩ := grow_ok (rt := rt) r hd hz hit hzv hs hu hc hgt h6 (by rw [e2]; exact h5) (by rw [← h3, ← hzl]; simp) h4
              exact ⟨rv, ρ', w', q1, q2, q3⟩
            · cases h
          · cases h
        · -- nothing is appended
          cases h
          obtain ⟨h1, rfl⟩ := hp
          obtain ⟨vs, hs⟩ := srcA_ok (P := P) r hx h1 hxv
          have hv0 : vs = [] := List.eq_nil_of_length_eq_zero (by rw [hs.vlen]; simp)
          have hbase : ∃ base len sCap, sv = .slice base len sCap ∧ len ≤ sCap := by
            rcases hsv with ⟨_, rfl, rfl⟩ | ⟨_, F, rr, hF, rfl, hr, hcap⟩
            · exact ⟨_, _, _, rfl, Nat.le_refl _⟩
            · exact ⟨_, _, _, rfl, hr⟩
          obtain ⟨base, len, sCap, rfl, hle⟩ := hbase
          have hrun := append_in (rt := rt) hd hz hit (e1 ▸ hs) (base := base) (sLen := len) (sCap := sCap) (by omega)
          subst hv0
          refine ⟨_, ρ, w, ?_, Step.refl r _, hsv⟩
          rw [hrun]
          cases base <;> simp [storeCells]
        · -- nothing is appended to an empty one
          cases h
          obtain ⟨h1, rfl⟩ := hp
          obtain ⟨vs, hs⟩ := srcA_ok (P := P) r hx h1 hxv
          have hv0 : vs = [] := List.eq_nil_of_length_eq_zero (by rw [hs.vlen]; simp)
          obtain ⟨base, kk, rfl⟩ : ∃ base kk, sv = .slice base 0 kk := by
            rcases hsv with rfl | ⟨aa, kk, rfl⟩
            · exact ⟨_, _, rfl⟩
            · exact ⟨_, _, rfl⟩
          have hrun := append_in (rt := rt) hd hz hit (e1 ▸ hs) (base := base) (sLen := 0) (sCap := kk) (by omega)
          subst hv0
          refine ⟨_, ρ, w, ?_, Step.refl r _, hsv⟩
          rw [hrun]
          cases base <;> simp [storeCells]
        · -- taken over
          rename_i d' nl id off len sz
          split at h
          · rename_i cc hb
            split at h
            · rename_i q cs ho
              split at h
              · rename_i c hc
                simp only [Option.some.injEq, Prod.mk.injEq] at h
                obtain ⟨rfl, rfl, rfl, rfl, rfl⟩ := h
                obtain ⟨h1, h2, rfl, rfl, h3, h4, h5, h6⟩ := hp
                obtain ⟨vs, hs⟩ := srcA_ok (P := P) r hx h1 hxv
                obtain ⟨F, hF⟩ := r.mapAt hb
                have hb0 := r.at_ id _ F 0 hb hF (by omega : (0 : Nat) < 1)
                obtain ⟨hwf0, _, _, hat0, hown⟩ := hb0
                obtain ⟨g1, g2, cur, ce, fr, g3, g4, g5⟩ := hown rfl
                have hsrc : srcA H sz (.slice false id 0 off len none sz) = some (cand (cd (false = true ∨ sz = sz)) (cand (cd ((0 : Nat) < 1)) q), cs, len) := by
                  simp only [srcA, contAt, nth_eq, hb, ho]
                obtain ⟨us, hu⟩ := srcA_ok (P := P) r hsrc ⟨.inr rfl, by omega, h2⟩ hsv
                obtain ⟨c1, c2, c3⟩ := Cont.cat_ok hc hu.wf hs.wf
                obtain ⟨s1, s2, s3, s4⟩ := Cont.sub_ok ho h2 hwf0
                rcases hsv with ⟨h0, _⟩ | ⟨_, F', rr, hF', rfl, hr, hcap⟩
                · cases h0
                rw [hF] at hF'; cases hF'
                simp only at hcap
                have hrel : ∀ j y, c.At j y → ∃ u, (us ++ vs)[j]? = some u ∧ RC ρ y u := by
                  intro j y hy
                  rcases c3 j y hy with ⟨a1, a2⟩ | ⟨a1, a2⟩
                  · obtain ⟨u, hu', hr⟩ := hu.rel j y a2
                    exact ⟨u, by rw [List.getElem?_append_left (List.getElem?_eq_some_iff.1 hu').1]; exact hu', hr⟩
                  · obtain ⟨u, hu', hr⟩ := hs.rel _ y a2
                    refine ⟨u, ?_, hr⟩
                    rw [List.getElem?_append_right (by rw [hu.vlen, ← hu.clen]; exact a1), hu.vlen, ← hu.clen]; exact hu'
                by_cases hle : len + n ≤ rr
                · -- there is room
                  have hrun := append_in (rt := rt) hd hz hit (e1 ▸ hs) (base := some ⟨(F 0).blk, (F 0).sh + off, none⟩) (sLen := len) (sCap := rr) hle
                  have hmul : (len + n) * sz ≤ (F 0).fin - ((F 0).sh + off) := by
                    calc (len + n) * sz ≤ rr * sz := Nat.mul_le_mul_right _ hle
                      _ ≤ _ := by rw [hcap]; exact Nat.div_mul_le_self _ _
                  have hadd : (len + n) * sz = len * sz + n * sz := Nat.add_mul _ _ _
                  simp only [e1, addr_add] at hrun
                  have hst := storeCells_ok (P := P) (F 0).blk ((F 0).sh + off + len * sz) ce fr vs 0 cur w g3 g5 (by rw [hs.vlen]; omega) hs.one
                  rw [hst] at hrun
                  simp only [Result.andThen_ok] at hrun
                  have hcl : ∀ j u, us[j]? = some u → cur.toList[(F 0).sh + off + j]? = some u := by
                    intro j u hj
                    have := hu.mem _ _ _ rfl j u hj
                    rw [addr_add] at this
                    simpa [World.cell?, g3] using this
                  have hT := Step.takeOver r hb hF g3 (cur.toList.take ((F 0).sh + off + len * sz + 0) ++ vs ++ cur.toList.drop ((F 0).sh + off + len * sz + 0 + vs.length)).toArray (by
                      have := hs.vlen
                      simp; omega) ((F 0).sh + off) c c2 (by rw [c1, hu.clen, hs.clen]; omega) (by
                    intro j y hy
                    obtain ⟨u, huv, hr⟩ := hrel j y hy
                    refine ⟨u, ?_, hr⟩
                    rw [List.getElem?_toArray, Nat.add_zero, list_over (by have := hs.vlen; simp; omega)]
                    have hul := hu.vlen
                    rcases Nat.lt_or_ge j us.length with hj | hj
                    · rw [List.getElem?_append_left hj] at huv
                      rw [if_neg (by omega)]
                      exact hcl j u huv
                    · rw [List.getElem?_append_right hj] at huv
                      have := (List.getElem?_eq_some_iff.1 huv).1
                      rw [if_pos (by omega)]
                      rw [← huv]; congr 1; omega)
                  exact ⟨_, _, _, hrun, hT, .inr ⟨rfl, _, rr, last_map r _, rfl, hle, by simpa using hcap⟩⟩
                · -- there is none
                  have hk := Step.kill r id id
                  obtain ⟨rv, ρ', w', q1, q2, q3⟩ := grow_ok (rt := rt) hk.rel hd hz hit hzv (e1 ▸ hs) (e1 ▸ hu) hc (by omega) h6 (by rw [e2]; exact h5) (by rw [e1, ← h3, ← hzl]; simp) (e1 ▸ h4)
                  rw [List.length_set] at q2 q3
                  have hid : id < H.length := (List.getElem?_eq_some_iff.1 hb).1
                  have := hk.trans r q2
                  rw [Nat.min_eq_left (by omega)] at this
                  rw [e1] at q3
                  exact ⟨rv, ρ', w', q1, this, q3⟩
              · cases h
            · cases h
          · cases h
        · -- in place
          rename_i d' nl id idx off len cap sz
          split at h
          · rename_i num cc hb
            split at h
            · rename_i q c ho
              simp only [Option.some.injEq, Prod.mk.injEq] at h
              obtain ⟨rfl, rfl, rfl, rfl, rfl⟩ := h
              obtain ⟨h1, h2, rfl, rfl, h3, h4, h5, h6⟩ := hp
              obtain ⟨vs, hs⟩ := srcA_ok (P := P) r hx h1 hxv
              obtain ⟨F, hF⟩ := r.mapAt hb
              obtain ⟨o1, o2, o3, o4⟩ := Cont.over_ok ho h2
              have hb0 := r.at_ id _ F idx hb hF h3
              obtain ⟨g1, g2, cur, ce, fr, g3, g4, g5⟩ := hb0.2.2.2.2 rfl
              rcases hsv with ⟨h0, _⟩ | ⟨_, F', rr, hF', rfl, hr, hcap⟩
              · cases h0
              rw [hF] at hF'; cases hF'
              have hle : len + n ≤ rr := by
                cases cap with
                | some k => simp only at hcap h6; omega
                | none =>
                  simp only at hcap
                  rw [hcap]
                  exact (Nat.le_div_iff_mul_le h4).2 (by omega)
              have hrun := append_in (rt := rt) hd hz hit (e1 ▸ hs) (base := some ⟨(F idx).blk, (F idx).sh + off, none⟩) (sLen := len) (sCap := rr) hle
              simp only [e1, addr_add] at hrun
              have hclx := hs.clen
              have hvl := hs.vlen
              obtain ⟨w', hw', hst⟩ := write_ok (P := P) r hb hF h3 (off := off + len * sz) (vs := vs) o1 o2 (by rw [hvl, ← hclx]; exact o3) hs.one (fun j y hy => by
                rw [hvl, ← hclx]
                rcases o4 j y hy with ⟨b1, b2, b3⟩ | b
                · exact .inl ⟨b1, b2, hs.rel _ y b3⟩
                · exact .inr b)
              rw [← Nat.add_assoc] at hw'
              rw [hw'] at hrun
              refine ⟨_, ρ, w', hrun, hst, .inr ⟨rfl, F, rr, hF, rfl, hle, hcap⟩⟩
            · cases h
          · cases h
        · cases h
      · cases h
    · cases h
  · cases h
end
end Go.Proofs.Ytnoonoghemgbbaa.Sx
