/-
  A symbolic evaluator over the model's code: part 8: operations that turn memory do in the model what they do to the abstract heap.
-/
import Derived.Test.YtnoonoghemgbbaaSx7
set_option linter.unusedVariables false
set_option linter.unusedSimpArgs false
namespace Go.Proofs.Ytnoonoghemgbbaa.Sx
open Go

/-! ### Contents, joined and cut -/
theorem Cont.at_of_lt {c : Cont} (hw : c.wf) {j : Nat} (h : j < c.len) : ∃ x, c.At j x := by
  cases c with
  | raw cs => exact ⟨cs[j], List.getElem?_eq_getElem h⟩
  | ints k l => exact ⟨_, l[j], List.getElem?_eq_getElem h, rfl⟩
  | fam n sz f =>
    have hs : 0 < sz := by
      rcases Nat.eq_zero_or_pos sz with e | e
      · subst e; simp [Cont.len] at h
      · exact e
    have hi : j / sz < n := Nat.div_lt_of_lt_mul (by rw [Nat.mul_comm]; exact h)
    have hm : j % sz < sz := Nat.mod_lt _ hs
    have hl : (f (j / sz)).length = sz := hw _ hi
    exact ⟨_, j / sz, j % sz, hi, hm, by rw [Nat.mul_comm]; exact (Nat.div_add_mod j sz).symm, List.getElem?_eq_getElem (by omega)⟩

theorem colInts_len {k : IntKind} : ∀ {l : List Cell} {ns : List Int}, colInts k l = some ns → ns.length = l.length
  | [], ns, h => by simp [colInts] at h; subst h; rfl
  | x :: l, ns, h => by
    unfold colInts at h
    split at h
    · rename_i heq; cases heq
    · rename_i k' n l' heq
      cases heq
      split at h
      · rename_i ns' hk hr
        cases h
        simp [colInts_len hr]
      · cases h
    · cases h

theorem colInts_at {k : IntKind} {l : List Cell} {ns : List Int} (h : colInts k l = some ns) {j : Nat} {x : Cell} : (Cont.ints k ns).At j x → (Cont.raw l).At j x := by
  rintro ⟨n, hn, rfl⟩
  have hj : j < l.length := by rw [← colInts_len h]; exact (List.getElem?_eq_some_iff.1 hn).1
  have := colInts_get h (List.getElem?_eq_getElem hj)
  show l[j]? = _
  rw [List.getElem?_eq_getElem hj, this]
  simp [List.getD, hn]

theorem Cont.sub_ok {c c' : Cont} {off n : Nat} {p : Cd} (h : c.sub off n = some (p, c')) (hp : p) (hw : c.wf) : c'.len = n ∧ c'.wf ∧ off + n ≤ c.len ∧ ∀ j x, c'.At j x → c.At (off + j) x := by
  cases c with
  | raw cs =>
    simp only [Cont.sub] at h
    split at h
    · rename_i hb
      cases h
      have hb' : off + n ≤ cs.length := by simpa using hb
      refine ⟨by simp [Cont.len]; omega, trivial, hb', fun j x hx => ?_⟩
      have hx' : ((cs.drop off).take n)[j]? = some x := hx
      rw [List.getElem?_take] at hx'
      split at hx'
      · rwa [List.getElem?_drop] at hx'
      · cases hx'
    · cases h
  | ints k l =>
    cases h
    have hb' : off + n ≤ l.length := hp
    refine ⟨by simp [Cont.len]; omega, trivial, hb', ?_⟩
    rintro j x ⟨m, hm, rfl⟩
    rw [List.getElem?_take] at hm
    split at hm
    · rw [List.getElem?_drop] at hm; exact ⟨m, hm, rfl⟩
    · cases hm
  | fam m sz f =>
    cases h
    obtain ⟨h1, h2, h3, h4⟩ := hp
    have e1 : n / sz * sz = n := Nat.div_mul_cancel (Nat.dvd_of_mod_eq_zero h2)
    have e2 : off / sz * sz = off := Nat.div_mul_cancel (Nat.dvd_of_mod_eq_zero h1)
    refine ⟨e1, ?_, h3, ?_⟩
    · intro i hi
      refine hw _ ?_
      have : (off / sz + i) * sz < m * sz := by
        rw [Nat.add_mul, e2]
        have : (i + 1) * sz ≤ n / sz * sz := Nat.mul_le_mul_right _ hi
        rw [e1, Nat.succ_mul] at this; omega
      exact Nat.lt_of_mul_lt_mul_right this
    · rintro j x ⟨i, s, hi, hs, rfl, hx⟩
      refine ⟨off / sz + i, s, ?_, hs, by rw [Nat.add_mul, e2]; omega, hx⟩
      have : (off / sz + i) * sz < m * sz := by
        rw [Nat.add_mul, e2]
        have : (i + 1) * sz ≤ n / sz * sz := Nat.mul_le_mul_right _ hi
        rw [e1, Nat.succ_mul] at this; omega
      exact Nat.lt_of_mul_lt_mul_right this

theorem ints_cat {k : IntKind} {l m : List Int} {j : Nat} {x : Cell} : (Cont.ints k (l ++ m)).At j x → (j < l.length ∧ (Cont.ints k l).At j x) ∨ (l.length ≤ j ∧ (Cont.ints k m).At (j - l.length) x) := by
  rintro ⟨n, hn, rfl⟩
  rcases Nat.lt_or_ge j l.length with h | h
  · rw [List.getElem?_append_left h] at hn; exact .inl ⟨h, n, hn, rfl⟩
  · rw [List.getElem?_append_right h] at hn; exact .inr ⟨h, n, hn, rfl⟩

theorem Cont.cat_ok {a b c : Cont} (h : a.cat b = some c) (ha : a.wf) (hb : b.wf) : c.len = a.len + b.len ∧ c.wf ∧ ∀ j x, c.At j x → (j < a.len ∧ a.At j x) ∨ (a.len ≤ j ∧ b.At (j - a.len) x) := by
  unfold Cont.cat at h
  split at h
  · cases h
    exact ⟨by simp [Cont.len], hb, fun j x hx => .inr ⟨by simp [Cont.len], by simpa [Cont.len] using hx⟩⟩
  · cases h
    exact ⟨by simp [Cont.len], ha, fun j x hx => .inl ⟨hx.lt, hx⟩⟩
  · cases h
    refine ⟨by simp [Cont.len], trivial, fun j x hx => ?_⟩
    rename_i p q _ _
    have hx' : (p ++ q)[j]? = some x := hx
    rcases Nat.lt_or_ge j p.length with h | h
    · rw [List.getElem?_append_left h] at hx'; exact .inl ⟨h, hx'⟩
    · rw [List.getElem?_append_right h] at hx'; exact .inr ⟨h, hx'⟩
  · split at h
    · rename_i hk
      cases kindEq_ok hk
      cases h
      exact ⟨by simp [Cont.len], trivial, fun j x hx => ints_cat hx⟩
    · cases h
  · split at h
    · rename_i m hm
      cases h
      refine ⟨by simp [Cont.len, colInts_len hm], trivial, fun j x hx => ?_⟩
      rcases ints_cat hx with h | ⟨h1, h2⟩
      · exact .inl h
      · exact .inr ⟨h1, colInts_at hm h2⟩
    · cases h
  · split at h
    · rename_i m hm
      cases h
      refine ⟨by simp [Cont.len, colInts_len hm], trivial, fun j x hx => ?_⟩
      have e := colInts_len hm
      rcases ints_cat hx with ⟨h1, h2⟩ | ⟨h1, h2⟩
      · exact .inl ⟨by simpa [Cont.len, e] using h1, colInts_at hm h2⟩
      · exact .inr ⟨by simpa [Cont.len, e] using h1, by simpa [Cont.len, e] using h2⟩
    · cases h
  · cases h

theorem list_over {α : Type} {l m : List α} {off : Nat} (hl : off + m.length ≤ l.length) (j : Nat) :
    (l.take off ++ m ++ l.drop (off + m.length))[j]? = if off ≤ j ∧ j < off + m.length then m[j - off]? else l[j]? := by
  rw [List.append_assoc]
  rcases Nat.lt_or_ge j off with h | h
  · rw [List.getElem?_append_left (by simp; omega), List.getElem?_take, if_pos h, if_neg (by omega)]
  · rw [List.getElem?_append_right (by simp; omega)]
    have e : (l.take off).length = off := by simp; omega
    rw [e]
    rcases Nat.lt_or_ge j (off + m.length) with h2 | h2
    · rw [List.getElem?_append_left (by omega), if_pos ⟨h, h2⟩]
    · rw [List.getElem?_append_right (by omega), List.getElem?_drop, if_neg (by omega)]
      congr 1; omega

theorem Cont.over_ok {c x c' : Cont} {off : Nat} {p : Cd} (h : c.over off x = some (p, c')) (hp : p) : c'.len = c.len ∧ c'.wf ∧ off + x.len ≤ c.len ∧
    ∀ j y, c'.At j y → (off ≤ j ∧ j < off + x.len ∧ x.At (j - off) y) ∨ (¬ (off ≤ j ∧ j < off + x.len) ∧ c.At j y) := by
  have key : ∀ {k : IntKind} {l m : List Int} {j : Nat} {y : Cell}, off + m.length ≤ l.length → (Cont.ints k (l.take off ++ m ++ l.drop (off + m.length))).At j y →
      (off ≤ j ∧ j < off + m.length ∧ (Cont.ints k m).At (j - off) y) ∨ (¬ (off ≤ j ∧ j < off + m.length) ∧ (Cont.ints k l).At j y) := by
    rintro k l m j y hl ⟨n, hn, rfl⟩
    rw [list_over hl] at hn
    split at hn
    · rename_i hc; exact .inl ⟨hc.1, hc.2, n, hn, rfl⟩
    · rename_i hc; exact .inr ⟨hc, n, hn, rfl⟩
  unfold Cont.over at h
  split at h
  · rename_i cs xs
    split at h
    · rename_i hb
      cases h
      have hl : off + xs.length ≤ cs.length := by simpa using hb
      refine ⟨by simp [Cont.len]; omega, trivial, hl, fun j y hy => ?_⟩
      have hy' : (cs.take off ++ xs ++ cs.drop (off + xs.length))[j]? = some y := hy
      rw [list_over hl] at hy'
      split at hy'
      · rename_i hc; exact .inl ⟨hc.1, hc.2, hy'⟩
      · rename_i hc; exact .inr ⟨hc, hy'⟩
    · cases h
  · rename_i k l k' m
    split at h
    · rename_i hk
      cases kindEq_ok hk
      cases h
      have hl : off + m.length ≤ l.length := hp
      exact ⟨by simp [Cont.len]; omega, trivial, hl, fun j y hy => key hl hy⟩
    · cases h
  · rename_i k l xs
    split at h
    · rename_i m hm
      cases h
      have hl : off + m.length ≤ l.length := hp
      have e := colInts_len hm
      refine ⟨by simp [Cont.len]; omega, trivial, by simpa [Cont.len, ← e] using hl, fun j y hy => ?_⟩
      rcases key hl hy with ⟨h1, h2, h3⟩ | ⟨h1, h2⟩
      · exact .inl ⟨h1, by simpa [Cont.len, ← e] using h2, colInts_at hm h3⟩
      · exact .inr ⟨by simpa [Cont.len, ← e] using h1, h2⟩
    · cases h
  · cases h

theorem Cont.put_ok {c c' : Cont} {off : Nat} {xs : List Cell} {p : Cd} (h : c.put off xs = some (p, c')) (hp : p) : c'.len = c.len ∧ c'.wf ∧ off + xs.length ≤ c.len ∧
    ∀ j y, c'.At j y → (off ≤ j ∧ j < off + xs.length ∧ xs[j - off]? = some y) ∨ (¬ (off ≤ j ∧ j < off + xs.length) ∧ c.At j y) := by
  unfold Cont.put at h
  try simp only [nth_eq, setL_eq, und_eq, inf_eq] at h
  split at h
  · rename_i cs
    have : (Cont.raw cs).over off (.raw xs) = some (p, c') := h
    exact Cont.over_ok this hp
  · rename_i k l
    split at h
    · rename_i k' n
      split at h
      · rename_i hk
        cases kindEq_ok hk
        cases h
        have hl : off < l.length := hp
        refine ⟨by simp [Cont.len], trivial, hl, ?_⟩
        rintro j y ⟨m, hm, rfl⟩
        rw [List.getElem?_set] at hm
        split at hm
        · rename_i e
          subst e
          cases hm
          exact .inl ⟨Nat.le_refl _, by simp, by simp⟩
        · rename_i e
          refine .inr ⟨by simp; omega, m, hm, rfl⟩
      · cases h
    · cases h
  · cases h

/-! ### Reading a row of real cells -/
theorem read_ok {ρ : Map} {w : World} {L : Loc} {c c' : Cont} (hc : ContAt ρ w L c) {off : Nat} (hw : c'.wf) (hx : ∀ j x, c'.At j x → c.At (off + j) x) :
    ∃ vs : List Value, vs.length = c'.len ∧ (∀ v ∈ vs, v.oneCell' = true) ∧ (∀ j v, vs[j]? = some v → w.cell? ((⟨L.blk, L.sh + off, none⟩ : Addr).add j) = some v) ∧ ∀ j x, c'.At j x → ∃ v, vs[j]? = some v ∧ RC ρ x v := by
  let g : Nat → Value := fun j => (w.cell? ⟨L.blk, L.sh + (off + j), none⟩).getD undef
  have hg : ∀ j x, c'.At j x → w.cell? ⟨L.blk, L.sh + (off + j), none⟩ = some (g j) ∧ RC ρ x (g j) := by
    intro j x hj
    obtain ⟨v, hv, hr⟩ := hc _ x (hx j x hj)
    have : g j = v := by simp only [g, hv]; rfl
    rw [this]; exact ⟨hv, hr⟩
  refine ⟨(List.range c'.len).map g, by simp, ?_, ?_, ?_⟩
  · intro v hv
    obtain ⟨j, hj, rfl⟩ := List.mem_map.1 hv
    obtain ⟨x, hx'⟩ := Cont.at_of_lt hw (List.mem_range.1 hj)
    exact (hg j x hx').2.one
  · intro j v hv
    rw [List.getElem?_map] at hv
    rcases Nat.lt_or_ge j c'.len with hlt | hge
    · rw [List.getElem?_range hlt] at hv
      simp at hv
      obtain ⟨x, hx'⟩ := Cont.at_of_lt hw hlt
      rw [addr_add, Nat.add_assoc, ← hv]
      exact (hg j x hx').1
    · rw [List.getElem?_eq_none (by simpa using hge)] at hv
      simp at hv
  · intro j x hj
    exact ⟨g j, by rw [List.getElem?_map, List.getElem?_range hj.lt]; rfl, (hg j x hj).2⟩

/-- Cells written one behind the other, into a block none of whose cells is frozen. -/
theorem storeCells_ok {P : Program} (g o : Nat) (t : TypeId) (fr : Nat × Nat) : ∀ (vs : List Value) (i : Nat) (cur : Array Value) (w : World), w.heap[g]? = some (.cells cur t fr) → Warm cur.size fr → o + i + vs.length ≤ cur.size →
    (∀ v ∈ vs, v.oneCell' = true) → (storeCells ⟨g, o, none⟩ vs i).run P w = .ok () (w.setRow g (cur.toList.take (o + i) ++ vs ++ cur.toList.drop (o + i + vs.length)).toArray)
  | [], i, cur, w, hg, _, _, _ => by
    simp only [storeCells, List.append_nil, List.length_nil, Nat.add_zero, List.take_append_drop, Array.toArray_toList]
    rw [setRow_self w g cur t fr hg]
    rfl
  | v :: rest, i, cur, w, hg, hf, hl, h1 => by
    have hi : o + i < cur.size := by simp at hl; omega
    have hcell : w.cell? ⟨g, o + i, none⟩ = some cur[o + i] := by simp [World.cell?, hg, hi]
    have hfro : w.frozen? ⟨g, o + i, none⟩ = false := by
      have := hf (o + i) hi
      cases h : w.frozen? ⟨g, o + i, none⟩ with
      | false => rfl
      | true => simp [World.frozen?, hg] at h; exact absurd h this
    have hst : (store ((⟨g, o, none⟩ : Addr).add i) v).run P w = .ok () (w.setRow g (cur.setIfInBounds (o + i) v)) := by
      rw [addr_add, run_store P w _ v _ (h1 v (by simp)), hcell]
      simp [hfro, setCell_eq_setRow w g (o + i) cur t fr v hg]
    have ih := storeCells_ok (P := P) g o t fr rest (i + 1) (cur.setIfInBounds (o + i) v) (w.setRow g (cur.setIfInBounds (o + i) v)) (setRow_heap w g cur _ t _ hg) (by simpa using hf) (by simp at hl ⊢; omega) (fun x hx => h1 x (by simp [hx]))
    simp only [storeCells, Sem.run_bind, hst, Result.andThen_ok, ih, setRow_setRow]
    congr 3
    have e := list_seg_step cur.toList (o + i) v rest (by simp at hl ⊢; omega)
    simpa [Array.toList_setIfInBounds, Nat.add_assoc] using e
end Go.Proofs.Ytnoonoghemgbbaa.Sx
