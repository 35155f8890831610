/-
  A symbolic evaluator over the model's code: part 10: append, copy, clear, texts and bytes.
-/
import Derived.Test.YtnoonoghemgbbaaSx9
set_option linter.unusedVariables false
set_option linter.unusedSimpArgs false
namespace Go.Proofs.Ytnoonoghemgbbaa.Sx
open Go

section
variable {D : Type}

/-- The elements that an append or a copy takes. -/
structure Src (P : Program) (ρ : Map) (w : World) (size : Nat) (v : Value) (c : Cont) (n : Nat) (vs : List Value) : Prop where
  len : ∀ w', (Builtin.lenOf v).run P w' = .ok n w'
  vlen : vs.length = n * size
  clen : c.len = n * size
  wf : c.wf
  one : ∀ u ∈ vs, u.oneCell' = true
  rel : ∀ j x, c.At j x → ∃ u, vs[j]? = some u ∧ RC ρ x u
  mem : ∀ a l k, v = .slice (some a) l k → ∀ j u, vs[j]? = some u → w.cell? (a.add j) = some u
  first : ∀ (w' : World) m, m ≤ n → w'.heap = w.heap → (Builtin.firstCells size m v).run P w' = .ok (vs.take (m * size)).toArray w'

theorem srcA_ok {P : Program} {ρ : Map} {H : Heap D} {w : World} (r : Rel ρ H w) {size : Nat} {x : Cell} {p : Cd} {c : Cont} {n : Nat} (h : srcA H size x = some (p, c, n)) (hp : p) {v : Value} (hv : RC ρ x v) :
    ∃ vs, Src P ρ w size v c n vs := by
  unfold srcA at h
  try simp only [nth_eq, setL_eq, und_eq, inf_eq] at h
  split at h
  · rename_i nl id idx off len cap sz
    split at h
    · rename_i own live cc hc
      split at h
      · rename_i q c' hs
        cases h
        obtain ⟨h1, h2, h3⟩ := hp
        obtain ⟨num, ccf, F, hb, rfl, hlt, hF, hwf, hat, _⟩ := contAt_ok r hc h2
        obtain ⟨s1, s2, s3, s4⟩ := Cont.sub_ok hs h3 hwf
        obtain ⟨vs, g1, g2, g3, g4⟩ := read_ok hat s2 s4
        refine ⟨vs, ?_, by rw [g1, s1], s1, s2, g2, g4, ?_, ?_⟩
        · rcases hv with ⟨_, rfl, rfl⟩ | ⟨_, F', rr, _, rfl, _⟩ <;> intro w' <;> rfl
        · intro aa l k he
          rcases hv with ⟨_, rfl, rfl⟩ | ⟨_, F', rr, hF', rfl, _⟩
          · simp at he
          · rw [hF] at hF'; cases hF'
            simp only [Value.slice.injEq, Option.some.injEq] at he
            obtain ⟨rfl, _⟩ := he
            exact g3
        · intro w' m hm hw
          rcases hv with ⟨_, rfl, rfl⟩ | ⟨_, F', rr, hF', rfl, _⟩
          · have : m = 0 := by omega
            subst this
            simp [Builtin.firstCells]
          · rw [hF] at hF'; cases hF'
            refine run_firstCells_some (P := P) w' size m _ n rr (vs.take (m * size)) ?_ ?_
            · have : m * size ≤ n * size := Nat.mul_le_mul_right _ hm
              rw [List.length_take, g1, s1]; omega
            · intro j u hu
              rw [List.getElem?_take] at hu
              split at hu
              · rw [← g3 j u hu]; simp [World.cell?, hw]
              · cases hu
      · cases h
    · cases h
      rcases hv with ⟨_, rfl, rfl⟩ | ⟨h0, _⟩
      · refine ⟨[], fun _ => rfl, by simp, by simp [Cont.len], trivial, by simp, fun j x hx => by simp [Cont.At] at hx, fun _ _ _ _ j u h => by simp at h, fun w' m hm _ => ?_⟩
        simp [Builtin.firstCells]
      · have : nl = true := hp
        rw [this] at h0; cases h0
  · cases h
    obtain ⟨a, k, rfl⟩ := hv
    refine ⟨[], fun _ => rfl, by simp, by simp [Cont.len], trivial, by simp, fun j x hx => by simp [Cont.At] at hx, fun _ _ _ _ j u h => by simp at h, fun w' m hm _ => ?_⟩
    have : m = 0 := by omega
    subst this
    simp [Builtin.firstCells, loadCells, loadCellsFrom]
  · rename_i l
    cases h
    cases hv
    have h1 : size = 1 := hp
    subst h1
    have hs : (⟨l.toArray⟩ : ByteArray).size = l.length := List.size_toArray
    refine ⟨l.map fun b => .int .u8 b.toNat, fun w' => by simp [Builtin.lenOf, hs], by simp, by simp [Cont.len], trivial, ?_, ?_, (fun _ _ _ he => by cases he), ?_⟩
    · intro u hu
      obtain ⟨b, _, rfl⟩ := List.mem_map.1 hu
      rfl
    · rintro j x ⟨m, hm, rfl⟩
      rw [List.getElem?_map] at hm ⊢
      cases hl : l[j]? with
      | none => rw [hl] at hm; simp at hm
      | some b => rw [hl] at hm; simp at hm; exact ⟨_, rfl, by rw [← hm]; rfl⟩
    · intro w' m hm _
      have he : (⟨l.toArray⟩ : ByteArray).extract 0 m = ⟨(l.take m).toArray⟩ := by
        apply ByteArray.ext
        simp [ByteArray.data_extract, List.extract_eq_take_drop]
      simp only [Builtin.firstCells, he, Sem.run_pure]
      congr 1
      apply Array.toList_inj.1
      simp [List.map_take]
  · cases h

/-- Nothing that the model calls zeros is appended. -/
def NoZeros (P : Program) (tx : TypeId) : Prop := (∃ e, P.underlying tx = some (.slice e)) ∨ P.underlying tx = some .string

theorem append_in {P : Program} {ρ : Map} {w : World} {ty tx rt e : TypeId} {it : TypeInfo} (hd : P.underlying ty = some (.slice e)) (hz : NoZeros P tx) (hit : P.info? e = some it)
    {base : Option Addr} {sLen sCap : Nat} {v : Value} {c : Cont} {n : Nat} {vs : List Value} (hs : Src P ρ w it.size v c n vs) (hle : sLen + n ≤ sCap) :
    (Builtin.append_ #[ty, tx] rt #[.slice base sLen sCap, v]).run P w =
      (match base with
        | some a => (storeCells (a.add (sLen * it.size)) vs).run P w
        | none => .ok () w).andThen fun _ w' => .ok (.slice base (sLen + n) sCap) w' := by
  have hf := hs.first w n (Nat.le_refl _) rfl
  rw [List.take_of_length_le (Nat.le_of_eq hs.vlen)] at hf
  have hsz : (sizeOf e).run P w = .ok it.size w := by simp [sizeOf, typeInfo, hit]
  have hl := hs.len w
  rcases hz with ⟨e', hdx⟩ | hdx
  all_goals
    simp only [Builtin.append_, List.getElem?_toArray, List.getElem?_cons_zero, List.getElem?_cons_succ, Sem.run_bind, equal_run P w _ _ hd, equal_run P w _ _ hdx, Result.andThen_ok, hsz, Sem.run_pure, hl, Bool.false_eq_true, if_false, if_pos hle, Bool.not_false, if_true, hf]
    cases base <;> simp [Sem.run_bind]

theorem append_grow {P : Program} {ρ : Map} {w : World} {ty tx rt e : TypeId} {it : TypeInfo} {z : Value} (hd : P.underlying ty = some (.slice e)) (hz : NoZeros P tx) (hit : P.info? e = some it) (hzv : it.zero = some z)
    {base : Option Addr} {sLen sCap : Nat} {v : Value} {c cs : Cont} {n : Nat} {vs us : List Value} (hs : Src P ρ w it.size v c n vs) (ho : Src P ρ w it.size (.slice base sLen sCap) cs sLen us)
    (hgt : sCap < sLen + n) (h63 : sLen + n ≤ 9223372036854775807) (hby : (sLen + n) * it.bytes ≤ 140737488355328) :
    ∃ cap, sLen + n ≤ cap ∧ (Builtin.append_ #[ty, tx] rt #[.slice base sLen sCap, v]).run P w =
      .ok (.slice (some ⟨w.heap.size, 0, none⟩) (sLen + n) cap) (w.drew.alloc (.cells (us.toArray ++ vs.toArray ++ Builtin.zeroCells z.cells (cap - (sLen + n))) e)) := by
  have hf := hs.first w.drew n (Nat.le_refl _) rfl
  rw [List.take_of_length_le (Nat.le_of_eq hs.vlen)] at hf
  have hfo := ho.first w.drew sLen (Nat.le_refl _) rfl
  rw [List.take_of_length_le (Nat.le_of_eq ho.vlen)] at hfo
  have hsz : (sizeOf e).run P w = .ok it.size w := by simp [sizeOf, typeInfo, hit]
  have hl := hs.len w
  have hn : ¬ (sLen + n ≤ sCap) := by omega
  have h48 : ¬ (Builtin.nextslicecap (sLen + n) sCap * it.bytes > 2 ^ 48) := by
    have := growslice_fits hgt hby
    have e : (2 : Nat) ^ 48 = 281474976710656 := by decide
    omega
  have h63' : ¬ (9223372036854775807 < ((sLen : Int) + (n : Int))) := by omega
  refine ⟨grownCap w (sLen + n) sCap e, Nat.le_add_right _ _, ?_⟩
  have hti : (typeInfo e).run P w = .ok it w := by simp [typeInfo, hit]
  have hti' : (typeInfo e).run P w.drew = .ok it w.drew := by simp [typeInfo, hit]
  have hzv' : (zeroValue e).run P w.drew = .ok z w.drew := by simp [zeroValue, typeInfo, hit, hzv]
  have hch : (choose (.appendCap (sLen + n) sCap e)).run P w = .ok (grownCap w (sLen + n) sCap e) w.drew := by simp [grownCap, Question.forced]
  rcases hz with ⟨e', hdx⟩ | hdx
  all_goals
    simp only [Builtin.append_, List.getElem?_toArray, List.getElem?_cons_zero, List.getElem?_cons_succ, Sem.run_bind, equal_run P w _ _ hd, equal_run P w _ _ hdx, Result.andThen_ok, hsz, Sem.run_pure, hl, Bool.false_eq_true, if_false, if_neg hn, hti, false_or, Bool.not_false, if_true]
    rw [if_neg (by have e1 : IntKind.i64.max = 9223372036854775807 := by decide
                   rw [e1]; omega)]
    simp only [Sem.run_bind, hti, Result.andThen_ok]
    rw [if_neg h48]
    simp only [Sem.run_bind, hch, hti', run_askRoom, hf, hfo, hzv', Result.andThen_ok]
    simp [newRow, Array.append_assoc]
    rfl

theorem grow_ok {P : Program} {ρ : Map} {H : Heap D} {w : World} (r : Rel ρ H w) {ty tx rt e : TypeId} {it : TypeInfo} {z : Value} (hd : P.underlying ty = some (.slice e)) (hz : NoZeros P tx) (hit : P.info? e = some it) (hzv : it.zero = some z)
    {base : Option Addr} {sLen sCap : Nat} {v : Value} {cx cs c : Cont} {n : Nat} {vs us : List Value} (hs : Src P ρ w it.size v cx n vs) (hu : Src P ρ w it.size (.slice base sLen sCap) cs sLen us) (hc : cs.cat cx = some c)
    (hgt : sCap < sLen + n) (h63 : sLen + n ≤ 9223372036854775807) (hby : (sLen + n) * it.bytes ≤ 140737488355328) (hzl : z.cells.size = it.size) (hpos : 0 < it.size) :
    ∃ rv ρ' w', (Builtin.append_ #[ty, tx] rt #[.slice base sLen sCap, v]).run P w = .ok rv w' ∧ Step ρ H w H.length ρ' (H ++ [some (.cells true 1 fun _ => c)]) w' ∧
      RC ρ' (.slice false H.length 0 0 (sLen + n) none it.size) rv := by
  obtain ⟨c1, c2, c3⟩ := Cont.cat_ok hc hu.wf hs.wf
  obtain ⟨cap', hcap', hrun⟩ := append_grow (rt := rt) hd hz hit hzv hs hu hgt h63 hby
  have hzc : (Builtin.zeroCells z.cells (cap' - (sLen + n))).size = (cap' - (sLen + n)) * it.size := by
    simp [Builtin.zeroCells, hzl]
  have hsize : (us.toArray ++ vs.toArray ++ Builtin.zeroCells z.cells (cap' - (sLen + n))).size = cap' * it.size := by
    rw [Array.size_append, Array.size_append, hzc]
    simp only [List.size_toArray]
    rw [hu.vlen, hs.vlen, ← Nat.add_mul, ← Nat.add_mul]
    congr 1; omega
  have hst := Step.alloc r.drew (us.toArray ++ vs.toArray ++ Builtin.zeroCells z.cells (cap' - (sLen + n))) e c c2 (by
    rw [hsize, c1, hu.clen, hs.clen, ← Nat.add_mul]; exact Nat.mul_le_mul_right _ hcap') (fun j y hy => by
    have key : ∀ u, (us ++ vs)[j]? = some u → (us.toArray ++ vs.toArray ++ Builtin.zeroCells z.cells (cap' - (sLen + n)))[j]? = some u := by
      intro u hu'
      have hj := (List.getElem?_eq_some_iff.1 hu').1
      rw [Array.getElem?_append_left (by simpa using hj)]
      simpa using hu'
    rcases c3 j y hy with ⟨a1, a2⟩ | ⟨a1, a2⟩
    · obtain ⟨u, hu', hr⟩ := hu.rel j y a2
      exact ⟨u, key u (by rw [List.getElem?_append_left (List.getElem?_eq_some_iff.1 hu').1]; exact hu'), hr⟩
    · obtain ⟨u, hu', hr⟩ := hs.rel _ y a2
      refine ⟨u, key u ?_, hr⟩
      rw [List.getElem?_append_right (by rw [hu.vlen, ← hu.clen]; exact a1), hu.vlen, ← hu.clen]; exact hu')
  have hst2 := (Step.drew r H.length).trans r hst
  rw [Nat.min_self] at hst2
  refine ⟨_, _, _, hrun, hst2, .inr ⟨rfl, _, cap', last_map r _, rfl, hcap', ?_⟩⟩
  simp only [hsize, World.size_drew]
  rw [Nat.add_zero, Nat.sub_zero, Nat.mul_div_cancel _ hpos]

theorem appendA_ok {P : Program} {ρ : Map} {H H' : Heap D} {w : World} (r : Rel ρ H w) {ty tx rt : TypeId} {s x : Cell} {dec d : Dec} {p : Cd} {v : AV} {low : Nat} (hz : NoZeros P tx)
    (h : appendA P H ty s x dec = some (p, v, H', low, d)) (hp : p) {sv xv : Value} (hsv : RC ρ s sv) (hxv : RC ρ x xv) : SemOk P ρ H w (Builtin.append_ #[ty, tx] rt #[sv, xv]) v H' low := by
  unfold appendA at h
  try simp only [nth_eq, setL_eq, und_eq, inf_eq] at h
  split at h
  · rename_i e hd
    split at h
    · rename_i size bytes z hsz hby hzz
      obtain ⟨it, zv, hit, hzv, hzr⟩ := zeroA_ok (ρ := ρ) hzz
      have e1 : it.size = size := by unfold sizeA at hsz; try simp only [nth_eq, setL_eq, und_eq, inf_eq] at hsz; rw [hit] at hsz; simpa using hsz
      have e2 : it.bytes = bytes := by unfold bytesA at hby; try simp only [nth_eq, setL_eq, und_eq, inf_eq] at hby; rw [hit] at hby; simpa using hby
      have hzl : zv.cells.toList.length = z.length := hzr.length.symm
      split at h
      · rename_i px cx n hx
        split at h
        · -- a new array for sure
          rename_i d' nl id idx off len cap sz
          split at h
          · rename_i q cs n' ho
            split at h
            · rename_i c hc
              cases h
              obtain ⟨h1, h2, h3, h4, h5, h6, h7⟩ := hp
              obtain ⟨vs, hs⟩ := srcA_ok (P := P) r hx h1 hxv
              obtain ⟨us, hu⟩ := srcA_ok (P := P) r ho h2 hsv
              obtain ⟨c1, c2, c3⟩ := Cont.cat_ok hc hu.wf hs.wf
              have hbase : ∃ base sCap, sv = .slice base len sCap ∧ sCap < len + n ∧ n' = len := by
                rcases hsv with ⟨rfl, rfl, rfl⟩ | ⟨rfl, F, rr, hF, rfl, hr, hcap⟩
                · refine ⟨none, 0, rfl, ?_, ?_⟩
                  · rcases h7 with ⟨_, h7⟩ | ⟨h7, _⟩
                    · omega
                    · cases h7
                  · have := hu.len w; simp [Builtin.lenOf] at this; exact this.symm
                · refine ⟨_, rr, rfl, ?_, ?_⟩
                  · rcases h7 with ⟨h7, _⟩ | ⟨_, h7⟩
                    · cases h7
                    · cases cap with
                      | none => exact h7.elim
                      | some k => simp only at hcap h7; omega
                  · have := hu.len w; simp [Builtin.lenOf] at this; exact this.symm
              obtain ⟨base, sCap, rfl, hgt, rfl⟩ := hbase
              subst e1
              obtain ⟨rv, ρ', w', q1, q2, q3⟩ := grow_ok (rt := rt) r hd hz hit hzv hs hu hc hgt h6 (by rw [e2]; exact h5) (by rw [← h3, ← hzl]; simp) h4
              exact ⟨rv, ρ', w', q1, q2, q3⟩
            · cases h
          · cases h
        · -- nothing is appended
          cases h
          obtain ⟨h1, rfl⟩ := hp
          obtain ⟨vs, hs⟩ := srcA_ok (P := P) r hx h1 hxv
          have hv0 : vs = [] := List.eq_nil_of_length_eq_zero (by rw [hs.vlen]; simp)
          have hbase : ∃ base len sCap, sv = .slice base len sCap ∧ len ≤ sCap := by
            rcases hsv with ⟨_, rfl, rfl⟩ | ⟨_, F, rr, hF, rfl, hr, hcap⟩
            · exact ⟨_, _, _, rfl, Nat.le_refl _⟩
            · exact ⟨_, _, _, rfl, hr⟩
          obtain ⟨base, len, sCap, rfl, hle⟩ := hbase
          have hrun := append_in (rt := rt) hd hz hit (e1 ▸ hs) (base := base) (sLen := len) (sCap := sCap) (by omega)
          subst hv0
          refine ⟨_, ρ, w, ?_, Step.refl r _, hsv⟩
          rw [hrun]
          cases base <;> simp [storeCells]
        · -- nothing is appended to an empty one
          cases h
          obtain ⟨h1, rfl⟩ := hp
          obtain ⟨vs, hs⟩ := srcA_ok (P := P) r hx h1 hxv
          have hv0 : vs = [] := List.eq_nil_of_length_eq_zero (by rw [hs.vlen]; simp)
          obtain ⟨aa, kk, rfl⟩ := hsv
          have hrun := append_in (rt := rt) hd hz hit (e1 ▸ hs) (base := some aa) (sLen := 0) (sCap := kk) (by omega)
          subst hv0
          refine ⟨_, ρ, w, ?_, Step.refl r _, ⟨aa, kk, rfl⟩⟩
          rw [hrun]
          simp [storeCells]
        · -- taken over
          rename_i d' nl id off len sz
          split at h
          · rename_i cc hb
            split at h
            · rename_i q cs ho
              split at h
              · rename_i c hc
                simp only [Option.some.injEq, Prod.mk.injEq] at h
                obtain ⟨rfl, rfl, rfl, rfl, rfl⟩ := h
                obtain ⟨h1, h2, rfl, rfl, h3, h4, h5, h6⟩ := hp
                obtain ⟨vs, hs⟩ := srcA_ok (P := P) r hx h1 hxv
                obtain ⟨F, hF⟩ := r.mapAt hb
                have hb0 := r.at_ id _ F 0 hb hF (by omega : (0 : Nat) < 1)
                obtain ⟨hwf0, _, _, hat0, hown⟩ := hb0
                obtain ⟨g1, g2, cur, ce, fr, g3, g4, g5⟩ := hown rfl
                have hsrc : srcA H sz (.slice false id 0 off len none sz) = some (cand (cd (false = true ∨ sz = sz)) (cand (cd ((0 : Nat) < 1)) q), cs, len) := by
                  simp only [srcA, contAt, nth_eq, hb, ho]
                obtain ⟨us, hu⟩ := srcA_ok (P := P) r hsrc ⟨.inr rfl, by omega, h2⟩ hsv
                obtain ⟨c1, c2, c3⟩ := Cont.cat_ok hc hu.wf hs.wf
                obtain ⟨s1, s2, s3, s4⟩ := Cont.sub_ok ho h2 hwf0
                rcases hsv with ⟨h0, _⟩ | ⟨_, F', rr, hF', rfl, hr, hcap⟩
                · cases h0
                rw [hF] at hF'; cases hF'
                simp only at hcap
                have hrel : ∀ j y, c.At j y → ∃ u, (us ++ vs)[j]? = some u ∧ RC ρ y u := by
                  intro j y hy
                  rcases c3 j y hy with ⟨a1, a2⟩ | ⟨a1, a2⟩
                  · obtain ⟨u, hu', hr⟩ := hu.rel j y a2
                    exact ⟨u, by rw [List.getElem?_append_left (List.getElem?_eq_some_iff.1 hu').1]; exact hu', hr⟩
                  · obtain ⟨u, hu', hr⟩ := hs.rel _ y a2
                    refine ⟨u, ?_, hr⟩
                    rw [List.getElem?_append_right (by rw [hu.vlen, ← hu.clen]; exact a1), hu.vlen, ← hu.clen]; exact hu'
                by_cases hle : len + n ≤ rr
                · -- there is room
                  have hrun := append_in (rt := rt) hd hz hit (e1 ▸ hs) (base := some ⟨(F 0).blk, (F 0).sh + off, none⟩) (sLen := len) (sCap := rr) hle
                  have hmul : (len + n) * sz ≤ (F 0).fin - ((F 0).sh + off) := by
                    calc (len + n) * sz ≤ rr * sz := Nat.mul_le_mul_right _ hle
                      _ ≤ _ := by rw [hcap]; exact Nat.div_mul_le_self _ _
                  have hadd : (len + n) * sz = len * sz + n * sz := Nat.add_mul _ _ _
                  simp only [e1, addr_add] at hrun
                  have hst := storeCells_ok (P := P) (F 0).blk ((F 0).sh + off + len * sz) ce fr vs 0 cur w g3 g5 (by rw [hs.vlen]; omega) hs.one
                  rw [hst] at hrun
                  simp only [Result.andThen_ok] at hrun
                  have hcl : ∀ j u, us[j]? = some u → cur.toList[(F 0).sh + off + j]? = some u := by
                    intro j u hj
                    have := hu.mem _ _ _ rfl j u hj
                    rw [addr_add] at this
                    simpa [World.cell?, g3] using this
                  have hT := Step.takeOver r hb hF g3 (cur.toList.take ((F 0).sh + off + len * sz + 0) ++ vs ++ cur.toList.drop ((F 0).sh + off + len * sz + 0 + vs.length)).toArray (by
                      have := hs.vlen
                      simp; omega) ((F 0).sh + off) c c2 (by rw [c1, hu.clen, hs.clen]; omega) (by
                    intro j y hy
                    obtain ⟨u, huv, hr⟩ := hrel j y hy
                    refine ⟨u, ?_, hr⟩
                    rw [List.getElem?_toArray, Nat.add_zero, list_over (by have := hs.vlen; simp; omega)]
                    have hul := hu.vlen
                    rcases Nat.lt_or_ge j us.length with hj | hj
                    · rw [List.getElem?_append_left hj] at huv
                      rw [if_neg (by omega)]
                      exact hcl j u huv
                    · rw [List.getElem?_append_right hj] at huv
                      have := (List.getElem?_eq_some_iff.1 huv).1
                      rw [if_pos (by omega)]
                      rw [← huv]; congr 1; omega)
                  exact ⟨_, _, _, hrun, hT, .inr ⟨rfl, _, rr, last_map r _, rfl, hle, by simpa using hcap⟩⟩
                · -- there is none
                  have hk := Step.kill r id id
                  obtain ⟨rv, ρ', w', q1, q2, q3⟩ := grow_ok (rt := rt) hk.rel hd hz hit hzv (e1 ▸ hs) (e1 ▸ hu) hc (by omega) h6 (by rw [e2]; exact h5) (by rw [e1, ← h3, ← hzl]; simp) (e1 ▸ h4)
                  rw [List.length_set] at q2 q3
                  have hid : id < H.length := (List.getElem?_eq_some_iff.1 hb).1
                  have := hk.trans r q2
                  rw [Nat.min_eq_left (by omega)] at this
                  rw [e1] at q3
                  exact ⟨rv, ρ', w', q1, this, q3⟩
              · cases h
            · cases h
          · cases h
        · -- in place
          rename_i d' nl id idx off len cap sz
          split at h
          · rename_i num cc hb
            split at h
            · rename_i q c ho
              simp only [Option.some.injEq, Prod.mk.injEq] at h
              obtain ⟨rfl, rfl, rfl, rfl, rfl⟩ := h
              obtain ⟨h1, h2, rfl, rfl, h3, h4, h5, h6⟩ := hp
              obtain ⟨vs, hs⟩ := srcA_ok (P := P) r hx h1 hxv
              obtain ⟨F, hF⟩ := r.mapAt hb
              obtain ⟨o1, o2, o3, o4⟩ := Cont.over_ok ho h2
              have hb0 := r.at_ id _ F idx hb hF h3
              obtain ⟨g1, g2, cur, ce, fr, g3, g4, g5⟩ := hb0.2.2.2.2 rfl
              rcases hsv with ⟨h0, _⟩ | ⟨_, F', rr, hF', rfl, hr, hcap⟩
              · cases h0
              rw [hF] at hF'; cases hF'
              have hle : len + n ≤ rr := by
                cases cap with
                | some k => simp only at hcap h6; omega
                | none =>
                  simp only at hcap
                  rw [hcap]
                  exact (Nat.le_div_iff_mul_le h4).2 (by omega)
              have hrun := append_in (rt := rt) hd hz hit (e1 ▸ hs) (base := some ⟨(F idx).blk, (F idx).sh + off, none⟩) (sLen := len) (sCap := rr) hle
              simp only [e1, addr_add] at hrun
              have hclx := hs.clen
              have hvl := hs.vlen
              obtain ⟨w', hw', hst⟩ := write_ok (P := P) r hb hF h3 (off := off + len * sz) (vs := vs) o1 o2 (by rw [hvl, ← hclx]; exact o3) hs.one (fun j y hy => by
                rw [hvl, ← hclx]
                rcases o4 j y hy with ⟨b1, b2, b3⟩ | b
                · exact .inl ⟨b1, b2, hs.rel _ y b3⟩
                · exact .inr b)
              rw [← Nat.add_assoc] at hw'
              rw [hw'] at hrun
              refine ⟨_, ρ, w', hrun, hst, .inr ⟨rfl, F, rr, hF, rfl, hle, hcap⟩⟩
            · cases h
          · cases h
        · cases h
      · cases h
    · cases h
  · cases h
end
end Go.Proofs.Ytnoonoghemgbbaa.Sx
