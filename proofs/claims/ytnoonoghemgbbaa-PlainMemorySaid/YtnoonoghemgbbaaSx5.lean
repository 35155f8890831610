/-
  A symbolic evaluator over the model's code: part 5: the same for elements, parts, addresses, loads, and aggregates.
-/
import Derived.Test.YtnoonoghemgbbaaSx4
set_option linter.unusedVariables false
set_option linter.unusedSimpArgs false
namespace Go.Proofs.Ytnoonoghemgbbaa.Sx
open Go

theorem All2.get? {α β : Type} {R : α → β → Prop} {l : List α} {m : List β} (h : All2 R l m) (i : Nat) : (l[i]? = none ∧ m[i]? = none) ∨ ∃ a b, l[i]? = some a ∧ m[i]? = some b ∧ R a b := by
  cases hl : l[i]? with
  | none => exact .inl ⟨rfl, by have := h.length; rw [List.getElem?_eq_none_iff] at hl ⊢; omega⟩
  | some a => obtain ⟨b, hb, hr⟩ := h.get hl; exact .inr ⟨a, b, rfl, hb, hr⟩

theorem column_get (sz : Nat) (hs : 0 < sz) : ∀ (n : Nat) (cs : List Cell) (i : Nat), i < n → n * sz ≤ cs.length + (sz - 1) → (column sz n cs)[i]? = cs[i * sz]?
  | 0, cs, i, h, _ => by omega
  | n + 1, [], i, h, hl => by
    have h1 : sz ≤ (n + 1) * sz := by rw [Nat.succ_mul]; omega
    simp at hl
    omega
  | n + 1, c :: cs, 0, h, hl => by simp [column]
  | n + 1, c :: cs, i + 1, h, hl => by
    simp only [column, List.getElem?_cons_succ]
    rw [column_get sz hs n _ i (by omega) (by simp [Nat.succ_mul] at hl ⊢; omega), List.getElem?_drop]
    congr 1
    rw [Nat.succ_mul]; omega

theorem colInts_get {k : IntKind} : ∀ {l : List Cell} {ns : List Int}, colInts k l = some ns → ∀ {i : Nat} {c : Cell}, l[i]? = some c → c = .int k (ns.getD i 0)
  | [], ns, h, i, c, hc => by simp at hc
  | x :: l, ns, h, i, c, hc => by
    unfold colInts at h
    split at h
    · rename_i heq; cases heq
    · rename_i k' n l' heq
      cases heq
      split at h
      · rename_i ns' hk hr
        cases h
        cases kindEq_ok hk
        cases i with
        | zero => simp at hc; subst hc; rfl
        | succ i => simpa using colInts_get hr (by simpa using hc)
      · cases h
    · cases h
theorem colBools_get : ∀ {l : List Cell} {ns : List Bool}, colBools l = some ns → ∀ {i : Nat} {c : Cell}, l[i]? = some c → c = .bool (ns.getD i false)
  | [], ns, h, i, c, hc => by simp at hc
  | x :: l, ns, h, i, c, hc => by
    unfold colBools at h
    split at h
    · rename_i heq; cases heq
    · rename_i n l' heq
      cases heq
      split at h
      · rename_i ns' hr
        cases h
        cases i with
        | zero => simp at hc; subst hc; rfl
        | succ i => simpa using colBools_get hr (by simpa using hc)
      · cases h
    · cases h
theorem colStrs_get : ∀ {l : List Cell} {ns : List (List UInt8)}, colStrs l = some ns → ∀ {i : Nat} {c : Cell}, l[i]? = some c → c = .str (ns.getD i [])
  | [], ns, h, i, c, hc => by simp at hc
  | x :: l, ns, h, i, c, hc => by
    unfold colStrs at h
    split at h
    · rename_i heq; cases heq
    · rename_i n l' heq
      cases heq
      split at h
      · rename_i ns' hr
        cases h
        cases i with
        | zero => simp at hc; subst hc; rfl
        | succ i => simpa using colStrs_get hr (by simpa using hc)
      · cases h
    · cases h

theorem colAt_get {col : List Cell} {i : Nat} {c x : Cell} (h : colAt col i = some c) (hx : col[i]? = some x) : x = c := by
  unfold colAt at h
  split at h
  · split at h
    · rename_i l hl; cases h; exact colInts_get hl hx
    · cases h
  · split at h
    · rename_i l hl; cases h; exact colBools_get hl hx
    · cases h
  · split at h
    · rename_i l hl; cases h; exact colStrs_get hl hx
    · cases h
  · cases h

theorem rowAt_get {sz len : Nat} {cs : List Cell} {i : Nat} (hs : 0 < sz) (hl : cs.length = len * sz) (hi : i < len) : ∀ {m s : Nat} {row : List Cell}, s + m ≤ sz → rowAt sz len cs i s m = some row → row = (cs.drop (i * sz + s)).take m
  | 0, s, row, _, h => by simp [rowAt] at h; simp [h]
  | m + 1, s, row, hm, h => by
    unfold rowAt at h
    split at h
    · rename_i c l h1 h2
      cases h
      have ih := rowAt_get hs hl hi (by omega) h2
      have hlt : i * sz + s < cs.length := by
        rw [hl]
        have : (i + 1) * sz ≤ len * sz := Nat.mul_le_mul_right _ hi
        rw [Nat.succ_mul] at this; omega
      have hc := column_get sz hs len (cs.drop s) i hi (by simp; omega)
      rw [List.getElem?_drop, show s + i * sz = i * sz + s by omega, List.getElem?_eq_getElem hlt] at hc
      have := colAt_get h1 hc
      rw [List.drop_eq_getElem_cons hlt, List.take_succ_cons, this, ih]
      rfl
    · cases h

theorem mkV_ok {ρ : Map} {ag : Bool} {cs : List Cell} {vs : List Value} {v : AV} (h : mkV ag cs = some v) (hc : All2 (RC ρ) cs vs) :
    (ag = true ∧ RV ρ v (.agg vs.toArray)) ∨ (ag = false ∧ ∃ u, vs = [u] ∧ RV ρ v u) := by
  unfold mkV at h
  split at h
  · cases h; exact .inl ⟨rfl, vs, rfl, hc⟩
  · rename_i c
    cases h
    match vs, hc with
    | [u], hc => exact .inr ⟨rfl, u, rfl, hc.1⟩
    | [], hc => exact hc.elim
    | _ :: _ :: _, hc => exact hc.2.elim
  · cases h

theorem indexA_ok {ρ : Map} {P : Program} {w : World} {ty : TypeId} {a : AV} {k : IntKind} {i : Int} {dec d : Dec} {p : Cd} {v : AV} (h : indexA P ty a i dec = some (p, v, d)) (hp : p) {x : Value} (hx : RV ρ a x) :
    ∃ r, (Instr.index ty x (.int k i)).run P w = .ok r w ∧ RV ρ v r := by
  unfold indexA at h
  try simp only [nth_eq, setL_eq, und_eq, inf_eq] at h
  split at h
  · rename_i l hd
    cases h
    cases hx
    obtain ⟨h0, h1⟩ := hp
    have hn : i.toNat < l.length := by omega
    refine ⟨_, ?_, rfl⟩
    have hg : (⟨l.toArray⟩ : ByteArray)[i.toNat]? = some (l.getD i.toNat 0) := by
      have hs : i.toNat < (⟨l.toArray⟩ : ByteArray).size := by simpa [ByteArray.size] using hn
      rw [getElem?_pos (⟨l.toArray⟩ : ByteArray) i.toNat hs]
      simp only [Option.some.injEq]
      show l.toArray[i.toNat] = _
      simp [List.getD, hn]
    simp only [Instr.index, asIntOf, Sem.run_bind, Sem.run_pure, Result.andThen_ok, equal_run P w _ _ hd, if_pos h0, hg]
  · rename_i len elem cs hd
    obtain ⟨vs, rfl, hc⟩ := hx
    split at h
    · rename_i d' sz ag hsz hag
      split at h
      · rename_i row hrow
        split at h
        · rename_i v' hv
          cases h
          obtain ⟨h0, h1, h2, h3⟩ := hp
          have hn : i.toNat < len := by omega
          have hr := rowAt_get h3 h2 hn (by omega) hrow
          have hv2 : All2 (RC ρ) row ((vs.drop (i.toNat * sz)).take sz) := by rw [hr]; exact (hc.drop _).take _
          have hlen : vs.length = len * sz := by rw [← hc.length]; exact h2
          have hle : i.toNat * sz + sz ≤ vs.length := by
            have : (i.toNat + 1) * sz ≤ len * sz := Nat.mul_le_mul_right _ hn
            rw [Nat.succ_mul] at this; omega
          have hif : (0 ≤ i ∧ i < (len : Int)) := ⟨h0, h1⟩
          rcases mkV_ok hv hv2 with ⟨rfl, hr⟩ | ⟨rfl, u, hu, hr⟩
          · refine ⟨_, ?_, hr⟩
            simp only [Instr.index, asIntOf, Sem.run_bind, Sem.run_pure, Result.andThen_ok, equal_run P w _ _ hd, if_pos hif, sizeA_ok (w := w) hsz, part, isAggA_ok (w := w) hag, if_true]
            simp [List.extract_eq_take_drop]
          · refine ⟨u, ?_, hr⟩
            have hu0 : vs[i.toNat * sz]? = some u := by
              have h5 := congrArg (fun l => l[0]?) hu
              simp only [List.getElem?_take, List.getElem?_drop] at h5
              simpa [h3] using h5
            simp only [Instr.index, asIntOf, Sem.run_bind, Sem.run_pure, Result.andThen_ok, equal_run P w _ _ hd, if_pos hif, sizeA_ok (w := w) hsz, part, isAggA_ok (w := w) hag]
            simp [hu0]
        · cases h
      · cases h
    · rename_i j d' sz ag hsz hag
      split at h
      · rename_i v' hv
        cases h
        obtain ⟨rfl, h1⟩ := hp
        obtain ⟨r, hr, hrv⟩ := partA_ok (w := w) hv hc
        refine ⟨r, ?_, hrv⟩
        have hif : (0 ≤ (j : Int) ∧ (j : Int) < (len : Int)) := ⟨by omega, by omega⟩
        simp only [Instr.index, asIntOf, Sem.run_bind, Sem.run_pure, Result.andThen_ok, equal_run P w _ _ hd, if_pos hif, sizeA_ok (w := w) hsz, Int.toNat_natCast, hr]
      · cases h
    · cases h
  · cases h

/-! ### What lies in a block -/
theorem Cont.get_ok {c : Cont} {off : Nat} {dec d : Dec} {p : Cd} {x : Cell} (h : c.get off dec = some (p, x, d)) (hp : p) : c.At off x := by
  unfold Cont.get at h
  try simp only [nth_eq, setL_eq, und_eq, inf_eq] at h
  split at h
  · split at h
    · rename_i hx; cases h; exact hx
    · cases h
  · rename_i k l
    cases h
    have hp' : off < l.length := hp
    exact ⟨l[off], List.getElem?_eq_getElem hp', by simp [List.getD, hp']⟩
  · rename_i n sz f
    split at h
    · rename_i _ s d'
      split at h
      · rename_i y hy
        cases h
        obtain ⟨h1, h2, h3⟩ := hp
        refine ⟨off / sz, s, h1, h3, ?_, hy⟩
        rw [Nat.mul_comm, ← h2, Nat.div_add_mod]
      · cases h
    · cases h

theorem Cont.getNs_ok {c : Cont} : ∀ {n off : Nat} {dec d : Dec} {p : Cd} {xs : List Cell}, c.getNs off n dec = some (p, xs, d) → p → xs.length = n ∧ ∀ j x, xs[j]? = some x → c.At (off + j) x
  | 0, off, dec, d, p, xs, h, hp => by
    simp only [Cont.getNs, Option.some.injEq, Prod.mk.injEq] at h
    obtain ⟨_, rfl, _⟩ := h
    exact ⟨rfl, fun j x hx => by simp at hx⟩
  | n + 1, off, dec, d, p, xs, h, hp => by
    unfold Cont.getNs at h
    split at h
    · rename_i p1 x1 d1 h1
      split at h
      · rename_i q xs' d2 h2
        cases h
        obtain ⟨hp1, hq⟩ := hp
        have g1 := Cont.get_ok h1 hp1
        obtain ⟨g2, g3⟩ := Cont.getNs_ok h2 hq
        refine ⟨by simp [g2], fun j x hx => ?_⟩
        cases j with
        | zero => simp at hx; subst hx; exact g1
        | succ j => have := g3 j x (by simpa using hx); rwa [show off + 1 + j = off + (j + 1) by omega] at this
      · cases h
    · cases h

theorem takeN_ok : ∀ {n : Nat} {l xs : List Cell}, takeN n l = some xs → xs.length = n ∧ ∀ (j : Nat) (x : Cell), xs[j]? = some x → l[j]? = some x
  | 0, l, xs, h => by
    simp only [takeN, Option.some.injEq] at h
    subst h
    exact ⟨rfl, fun j x h => by simp at h⟩
  | n + 1, y :: l, xs, h => by
    simp only [takeN] at h
    split at h
    · rename_i m hm
      cases h
      obtain ⟨h1, h2⟩ := takeN_ok hm
      refine ⟨by simp [h1], fun j x hx => ?_⟩
      cases j with
      | zero => simpa using hx
      | succ j => simpa using h2 j x (by simpa using hx)
    · cases h
  | n + 1, [], xs, h => by cases h

theorem Cont.getN_ok {c : Cont} {n off : Nat} {dec d : Dec} {p : Cd} {xs : List Cell} (h : c.getN off n dec = some (p, xs, d)) (hp : p) : xs.length = n ∧ ∀ j x, xs[j]? = some x → c.At (off + j) x := by
  cases c with
  | ints k l => exact Cont.getNs_ok h hp
  | fam a b f => exact Cont.getNs_ok h hp
  | raw cs =>
    simp only [Cont.getN] at h
    split at h
    · rename_i ys hy
      cases h
      obtain ⟨h1, h2⟩ := takeN_ok hy
      refine ⟨h1, fun j x hx => ?_⟩
      have := h2 j x hx
      rw [List.getElem?_drop] at this
      exact this
    · cases h

section
variable {D : Type}

theorem contAt_ok {ρ : Map} {H : Heap D} {w : World} (r : Rel ρ H w) {id idx : Nat} {own : Bool} {p : Cd} {c : Cont} (h : contAt H id idx = some (own, p, c)) (hp : p) :
    ∃ num cc F, H[id]? = some (some (.cells own num cc)) ∧ c = cc idx ∧ idx < num ∧ ρ[id]? = some F ∧ c.wf ∧ ContAt ρ w (F idx) c ∧ (own = true → OwnAt w (F idx) c) := by
  unfold contAt at h
  try simp only [nth_eq, setL_eq, und_eq, inf_eq] at h
  split at h
  · rename_i own' num cc hb
    cases h
    obtain ⟨F, hF⟩ := r.mapAt hb
    have hlt : idx < num := hp
    have := r.at_ id _ F idx hb hF hlt
    exact ⟨num, cc, F, hb, rfl, hlt, hF, this.1, this.2.2.2.1, this.2.2.2.2⟩
  · cases h

theorem addr_add (b o n : Nat) : (⟨b, o, none⟩ : Addr).add n = ⟨b, o + n, none⟩ := by
  unfold Addr.add; split <;> simp_all

/-- A row of cells reads as told. -/
theorem cells_ok {ρ : Map} {w : World} {L : Loc} {c : Cont} (hc : ContAt ρ w L c) {off : Nat} {xs : List Cell} (hx : ∀ j x, xs[j]? = some x → c.At (off + j) x) :
    ∃ vs : List Value, All2 (RC ρ) xs vs ∧ ∀ j v, vs[j]? = some v → w.cell? ((⟨L.blk, L.sh + off, none⟩ : Addr).add j) = some v := by
  induction xs generalizing off with
  | nil => exact ⟨[], trivial, fun j v h => by simp at h⟩
  | cons x xs ih =>
    obtain ⟨v, hv, hr⟩ := hc off x (hx 0 x rfl)
    obtain ⟨vs, h1, h2⟩ := ih (off := off + 1) fun j y hy => by have := hx (j + 1) y (by simpa using hy); rwa [show off + (j + 1) = off + 1 + j by omega] at this
    refine ⟨v :: vs, ⟨hr, h1⟩, fun j u hu => ?_⟩
    cases j with
    | zero => simp at hu; subst hu; simpa [addr_add] using hv
    | succ j =>
      have := h2 j u (by simpa using hu)
      rw [addr_add] at this ⊢
      rw [← this]; congr 2; omega

theorem loadVar_ok {ρ : Map} {P : Program} {w : World} {L : Loc} {c : Cont} (hc : ContAt ρ w L c) {ty : TypeId} {ag : Bool} {n off : Nat} (hag : isAggA P ty = some ag) (hn : sizeA P ty = some n)
    {dec d : Dec} {p : Cd} {xs : List Cell} (h : c.getN off (cond ag n 1) dec = some (p, xs, d)) (hp : p) {v : AV} (hv : mkV ag xs = some v) :
    ∃ r, (loadVar ty ⟨L.blk, L.sh + off, none⟩).run P w = .ok r w ∧ RV ρ v r := by
  obtain ⟨hl, hx⟩ := Cont.getN_ok h hp
  obtain ⟨vs, h1, h2⟩ := cells_ok hc hx
  rcases mkV_ok hv h1 with ⟨rfl, hr⟩ | ⟨rfl, u, rfl, hr⟩
  · refine ⟨_, ?_, hr⟩
    have hlen : vs.length = n := by rw [← h1.length]; exact hl
    have := run_loadCells_list (P := P) (w := w) ⟨L.blk, L.sh + off, none⟩ vs h2
    rw [hlen] at this
    simp only [loadVar, Sem.run_bind, isAggA_ok (w := w) hag, Result.andThen_ok, if_true, sizeA_ok (w := w) hn, this]
    rfl
  · refine ⟨u, ?_, hr⟩
    have := h2 0 u rfl
    rw [addr_add] at this
    simp only [loadVar, Sem.run_bind, isAggA_ok (w := w) hag, Result.andThen_ok, run_load]
    simp only [Nat.add_zero] at this
    simp [this]
end
end Go.Proofs.Ytnoonoghemgbbaa.Sx
