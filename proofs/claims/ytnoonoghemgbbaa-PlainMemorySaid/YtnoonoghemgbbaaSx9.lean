/-
  A symbolic evaluator over the model's code: part 9: stores, new blocks, appends, copies: each does in the model what it does to the abstract heap.
-/
import Derived.Test.YtnoonoghemgbbaaSx8
set_option linter.unusedVariables false
set_option linter.unusedSimpArgs false
namespace Go.Proofs.Ytnoonoghemgbbaa.Sx
open Go

section
variable {D : Type}

/-- An operation that turns memory. -/
def MemOk (P : Program) (ρ : Map) (H : Heap D) (w : World) (a : Act) (o : Oper) (v : AV) (H' : Heap D) (low : Nat) : Prop :=
  ∃ r ρ' w', ((execOp a.eval o).run P w = .ok (.value r) w' ∨ ((execOp a.eval o).run P w = .ok .skip w' ∧ r = undef)) ∧ Step ρ H w low ρ' H' w' ∧ RV ρ' v r

def SemOk (P : Program) (ρ : Map) (H : Heap D) (w : World) (s : Sem Value) (v : AV) (H' : Heap D) (low : Nat) : Prop :=
  ∃ r ρ' w', s.run P w = .ok r w' ∧ Step ρ H w low ρ' H' w' ∧ RV ρ' v r

theorem mem_of {P : Program} {ρ : Map} {H H' : Heap D} {w : World} {a : Act} {o : Oper} {v : AV} {low : Nat} {s : Sem Value} (he : execOp a.eval o = (do pure (.value (← s)))) (h : SemOk P ρ H w s v H' low) :
    MemOk P ρ H w a o v H' low := by
  obtain ⟨r, ρ', w', hr, hs, hv⟩ := h
  exact ⟨r, ρ', w', .inl (by rw [he]; simp only [Sem.run_bind, hr, Result.andThen_ok]; rfl), hs, hv⟩

/-- Cells of a block of ours written anew. -/
theorem write_ok {P : Program} {ρ : Map} {H : Heap D} {w : World} (r : Rel ρ H w) {id num : Nat} {cc : Nat → Cont} {F : Nat → Loc} {idx : Nat} (hb : H[id]? = some (some (.cells true num cc))) (hF : ρ[id]? = some F)
    (hi : idx < num) {off : Nat} {vs : List Value} {c' : Cont} (hl : c'.len = (cc idx).len) (hw : c'.wf) (hle : off + vs.length ≤ (cc idx).len) (h1 : ∀ v ∈ vs, v.oneCell' = true)
    (hat : ∀ j y, c'.At j y → (off ≤ j ∧ j < off + vs.length ∧ ∃ v, vs[j - off]? = some v ∧ RC ρ y v) ∨ (¬ (off ≤ j ∧ j < off + vs.length) ∧ (cc idx).At j y)) :
    ∃ w', (storeCells ⟨(F idx).blk, (F idx).sh + off, none⟩ vs).run P w = .ok () w' ∧ Step ρ H w id ρ (H.set id (some (.cells true num (upd num cc idx c')))) w' := by
  have h0 := r.at_ id _ F idx hb hF hi
  obtain ⟨g1, g2, cs, e, fr, g3, g4, g5⟩ := h0.2.2.2.2 rfl
  have hlen : (F idx).sh + off + vs.length ≤ cs.toList.length := by simp; omega
  refine ⟨_, storeCells_ok (P := P) (F idx).blk ((F idx).sh + off) e fr vs 0 cs w g3 g5 (by simp at hlen ⊢; omega) h1, ?_⟩
  refine Step.setRow r hb hF hi g3 _ (by simp at hlen ⊢; omega) c' hw (by omega) ?_
  intro j x hx
  simp only [Nat.add_zero, List.getElem?_toArray]
  rw [list_over hlen]
  rcases hat j x hx with ⟨a1, a2, v, hv, hr⟩ | ⟨a1, a2⟩
  · exact ⟨v, by rw [if_pos (by omega), show (F idx).sh + j - ((F idx).sh + off) = j - off by omega]; exact hv, hr⟩
  · obtain ⟨v, hv, hr⟩ := h0.2.2.2.1 j x a2
    refine ⟨v, ?_, hr⟩
    rw [if_neg (by omega)]
    simpa [World.cell?, g3] using hv

theorem store_ok {P : Program} {ρ : Map} {H : Heap D} {w : World} {t : List AV} {a : Act} (r : Rel ρ H w) (ht : TR ρ t a) {ty : TypeId} {x y : Operand} {nl : Bool} {id idx off num : Nat} {xs : List Cell} {n : Nat} {cc : Nat → Cont} {p : Cd} {c : Cont}
    (hx : cellOf t x = some (.ptr nl id idx off)) (hy : cellsOf t y = some xs) (hn : sizeA P ty = some n) (hb : H[id]? = some (some (.cells true num cc))) (hp : (cc idx).put off xs = some (p, c))
    (h1 : nl = false) (h2 : idx < num) (h3 : xs.length = n) (h4 : p) :
    ∃ w', (Instr.storeAt ty (a.eval x) (a.eval y)).run P w = .ok () w' ∧ Step ρ H w id ρ (H.set id (some (.cells true num (upd num cc idx c)))) w' := by
  obtain ⟨F, hF⟩ := r.mapAt hb
  rcases cellOf_ok ht hx with ⟨h0, _⟩ | ⟨_, F', hF', e⟩
  · rw [h1] at h0; cases h0
  · rw [hF] at hF'; cases hF'
    have hc := cellsOf_ok ht hy
    obtain ⟨q1, q2, q3, q4⟩ := Cont.put_ok hp h4
    have hlen : (a.eval y).cells.toList.length = xs.length := hc.length.symm
    obtain ⟨w', hw', hs⟩ := write_ok (P := P) r hb hF h2 (off := off) (vs := (a.eval y).cells.toList) q1 q2 (by rw [hlen]; exact q3)
      (fun v hv => by
        obtain ⟨j, hj, rfl⟩ := List.getElem_of_mem hv
        have : j < xs.length := by rw [← hlen]; exact hj
        obtain ⟨b, hb', hr⟩ := hc.get (List.getElem?_eq_getElem this)
        rw [List.getElem?_eq_getElem hj] at hb'
        cases hb'
        exact hr.one)
      (fun j z hz => by
        rw [hlen]
        rcases q4 j z hz with ⟨b1, b2, b3⟩ | b
        · obtain ⟨b, hb', hr⟩ := hc.get b3
          exact .inl ⟨b1, b2, b, hb', hr⟩
        · exact .inr b)
    refine ⟨w', ?_, hs⟩
    have hsz : (a.eval y).cells.size = n := by rw [← h3, ← hlen]; simp
    simp only [Instr.storeAt, Sem.run_bind, e, Instr.sureAddr, Sem.run_pure, Result.andThen_ok, storeVar, sizeA_ok (w := w) hn, hsz]
    simpa using hw'

theorem last_map {ρ : Map} {H : Heap D} {w : World} (r : Rel ρ H w) (F : Nat → Loc) : (ρ ++ [F])[H.length]? = some F := by
  rw [← r.len, List.getElem?_append_right (Nat.le_refl _)]; simp

/-- A new block of cells one by one. -/
theorem allocRaw_ok {ρ : Map} {H : Heap D} {w : World} (r : Rel ρ H w) {z : List Cell} {vs : List Value} (hz : All2 (RC ρ) z vs) (e : TypeId) :
    ∃ ρ', Step ρ H w H.length ρ' (H ++ [some (.cells true 1 fun _ => .raw z)]) (w.alloc (.cells vs.toArray e)) ∧
      ∃ F : Nat → Loc, ρ'[H.length]? = some F ∧ F 0 = ⟨w.heap.size, 0, vs.length, fun k => k = w.heap.size, default⟩ := by
  refine ⟨_, Step.alloc r vs.toArray e (.raw z) trivial (by simp [Cont.len, hz.length]) ?_, fun _ => ⟨w.heap.size, 0, vs.toArray.size, fun k => k = w.heap.size, default⟩, ?_, ?_⟩
  · intro j x hx
    obtain ⟨v, hv, hr⟩ := hz.get hx
    exact ⟨v, by simpa using hv, hr⟩
  · rw [← r.len, List.getElem?_append_right (Nat.le_refl _)]; simp
  · simp

theorem alloc_ok {P : Program} {ρ : Map} {H : Heap D} {w : World} (r : Rel ρ H w) {e : TypeId} {z : List Cell} (h : zeroA P e = some z) :
    SemOk P ρ H w (Instr.alloc e true (.tuple #[])) (.cell (.ptr false H.length 0 0)) (H ++ [some (.cells true 1 fun _ => .raw z)]) H.length := by
  obtain ⟨it, v, hit, hv, hz⟩ := zeroA_ok (ρ := ρ) h
  obtain ⟨ρ', hs, F, hF, e0⟩ := allocRaw_ok r hz e
  refine ⟨.pointer (some ⟨w.heap.size, 0, none⟩), ρ', _, ?_, hs, .inr ⟨rfl, F, hF, by rw [e0]⟩⟩
  simp [Instr.alloc, zeroValue, typeInfo, hit, hv, newVar, newRow]

theorem box_ok {P : Program} {ρ : Map} {H : Heap D} {w : World} {t : List AV} {a : Act} (r : Rel ρ H w) (ht : TR ρ t a) {e : TypeId} {x : Operand} {z : List Cell} (h : cellsOf t x = some z) :
    SemOk P ρ H w (Instr.box e (a.eval x)) (.cell (.ptr false H.length 0 0)) (H ++ [some (.cells true 1 fun _ => .raw z)]) H.length := by
  obtain ⟨ρ', hs, F, hF, e0⟩ := allocRaw_ok r (cellsOf_ok ht h) e
  refine ⟨.pointer (some ⟨w.heap.size, 0, none⟩), ρ', _, ?_, hs, .inr ⟨rfl, F, hF, by rw [e0]⟩⟩
  simp [Instr.box, newVar, newRow]

theorem repA_ok {ρ : Map} {z : List Cell} {vs : List Value} (hz : All2 (RC ρ) z vs) (hs : 0 < vs.length) : ∀ n, All2 (RC ρ) (repA z n) ((List.range (n * vs.length)).map fun i => vs.toArray[i % vs.toArray.size]!)
  | 0 => by simp [repA, All2]
  | n + 1 => by
    have ih := repA_ok hz hs n
    rw [Nat.succ_mul, Nat.add_comm (n * vs.length), List.range_add, List.map_append]
    refine All2.app (l := z) (l' := repA z n) ?_ ?_
    · have e : (List.range vs.length).map (fun i => vs.toArray[i % vs.toArray.size]!) = vs := by
        apply List.ext_getElem (by simp)
        intro i h1 h2
        simp [Nat.mod_eq_of_lt h2, h2]
      rw [e]; exact hz
    · rw [List.map_map]
      have e : ((fun i => vs.toArray[i % vs.toArray.size]!) ∘ fun x => vs.length + x) = fun i => vs.toArray[i % vs.toArray.size]! := by
        funext i
        simp
      rw [e]; exact ih

theorem buildSlice_ok {P : Program} {ρ : Map} {H : Heap D} {w : World} {t : List AV} {a : Act} (r : Rel ρ H w) (ht : TR ρ t a) {ty e : TypeId} {len n : Nat} {parts : Array (Nat × Operand)} {z cs : List Cell} {ps : List (Nat × List Cell)}
    (hd : P.underlying ty = some (.slice e)) (hn : sizeA P e = some n) (hz : zeroA P e = some z) (hps : partsA t parts.toList = some ps) (hcs : fillA (fun i => some (i * n, n)) (repA z len) ps = some cs)
    (h1 : len * n ≤ 16777216) (h2 : z.length = n) (h3 : 0 < n) :
    SemOk P ρ H w (Instr.buildSlice ty len (parts.map fun (i, x) => (i, a.eval x))) (.cell (.slice false H.length 0 0 len (some len) n)) (H ++ [some (.cells true 1 fun _ => .raw cs)]) H.length := by
  obtain ⟨it, v, hit, hv, hzr⟩ := zeroA_ok (ρ := ρ) hz
  have hl : v.cells.toList.length = n := by rw [← hzr.length]; exact h2
  have hrep := repA_ok hzr (by omega) len
  rw [hl] at hrep
  obtain ⟨us, hu, hr⟩ := fillA_ok (partsA_ok ht hps) hrep hcs
  obtain ⟨ρ', hs, F, hF, e0⟩ := allocRaw_ok r hr e
  refine ⟨.slice (some ⟨w.heap.size, 0, none⟩) len len, ρ', _, ?_, hs, .inr ⟨rfl, F, len, hF, by rw [e0], Nat.le_refl _, rfl⟩⟩
  have hu' : Instr.fill (fun i => some (i * n, n)) ((List.range (len * n)).map fun i => v.cells.toList.toArray[i % v.cells.toList.toArray.size]!).toArray (parts.map fun (i, x) => (i, a.eval x)).toList = some us.toArray := by
    simpa using hu
  simp only [Instr.buildSlice, Sem.run_bind, equal_run P w _ _ hd, Result.andThen_ok, sizeA_ok (w := w) hn]
  rw [if_neg (by omega)]
  by_cases e0 : len * n = 0
  · have hcells : (Array.range (len * n)).map (fun i => (#[] : Array Value)[i % (#[] : Array Value).size]!) = ((List.range (len * n)).map fun i => v.cells.toList.toArray[i % v.cells.toList.toArray.size]!).toArray := by simp [e0]
    rw [if_pos e0]
    simp only [Sem.run_bind, Sem.run_pure, Result.andThen_ok]
    rw [hcells, hu']
    simp [newRow]
  · have hcells : (Array.range (len * n)).map (fun i => v.cells[i % v.cells.size]!) = ((List.range (len * n)).map fun i => v.cells.toList.toArray[i % v.cells.toList.toArray.size]!).toArray := by
      apply Array.toList_inj.1
      simp
    rw [if_neg e0]
    simp only [Sem.run_bind, Sem.run_pure, Result.andThen_ok, zeroValue, typeInfo, run_program, hit, hv]
    rw [hcells, hu']
    simp [newRow]

/-- Zero cells, n times. -/
theorem zeros_ok {ρ : Map} {z : List Cell} {vs : List Value} (hz : All2 (RC ρ) z vs) (hs : 0 < vs.length) (n : Nat) : (zerosA z n).len = n * vs.length ∧ (zerosA z n).wf ∧
    ∀ j x, (zerosA z n).At j x → ∃ v, ((List.range (n * vs.length)).map fun i => vs.toArray[i % vs.toArray.size]!)[j]? = some v ∧ RC ρ x v := by
  have hl := hz.length
  have key : ∀ j x, j < n * vs.length → z[j % vs.length]? = some x → ∃ v, ((List.range (n * vs.length)).map fun i => vs.toArray[i % vs.toArray.size]!)[j]? = some v ∧ RC ρ x v := by
    intro j x hj hx
    obtain ⟨v, hv, hr⟩ := hz.get hx
    refine ⟨v, ?_, hr⟩
    rw [List.getElem?_map, List.getElem?_range hj]
    have hm : j % vs.length < vs.length := Nat.mod_lt _ hs
    rw [List.getElem?_eq_getElem hm] at hv
    simpa [hm] using hv
  unfold zerosA
  split
  · rename_i k x
    simp at hl
    refine ⟨by simp [Cont.len, ← hl], trivial, ?_⟩
    rintro j y ⟨m, hm, rfl⟩
    have hj : j < n := by have := (List.getElem?_eq_some_iff.1 hm).1; simpa using this
    refine key j _ (by rw [← hl]; omega) ?_
    rw [← hl, Nat.mod_one]
    rw [List.getElem?_replicate, if_pos hj] at hm
    cases hm; rfl
  · refine ⟨by simp [Cont.len, hl], fun _ _ => rfl, ?_⟩
    rintro j y ⟨i, s, hi, hss, rfl, hx⟩
    rw [hl] at hss ⊢
    refine key _ y ?_ ?_
    · have : (i + 1) * vs.length ≤ n * vs.length := Nat.mul_le_mul_right _ hi
      rw [Nat.succ_mul] at this; omega
    · rw [Nat.add_comm, Nat.add_mul_mod_self_right, Nat.mod_eq_of_lt hss]; exact hx

theorem makeSlice_ok {P : Program} {ρ : Map} {H : Heap D} {w : World} (r : Rel ρ H w) {ty e : TypeId} {k k' : IntKind} {ln cp : Int} {n b : Nat} {z : List Cell}
    (hd : P.underlying ty = some (.slice e)) (hn : sizeA P e = some n) (hby : bytesA P e = some b) (hz : zeroA P e = some z) (h0 : 0 ≤ ln) (h1 : ln ≤ cp) (h2 : b * cp ≤ 281474976710656) (h3 : cp ≤ 9223372036854775807) (h4 : z.length = n) (h5 : 0 < n) :
    SemOk P ρ H w (Instr.makeSlice ty (.int k ln) (.int k' cp)) (.cell (.slice false H.length 0 0 ln.toNat (some cp.toNat) n)) (H ++ [some (.cells true 1 fun _ => zerosA z cp.toNat)]) H.length := by
  obtain ⟨it, v, hit, hv, hzr⟩ := zeroA_ok (ρ := ρ) hz
  have hl : v.cells.toList.length = n := by rw [← hzr.length]; exact h4
  obtain ⟨z1, z2, z3⟩ := zeros_ok hzr (by omega) cp.toNat
  rw [hl] at z1 z3
  have hs := Step.alloc r ((List.range (cp.toNat * n)).map fun i => v.cells.toList.toArray[i % v.cells.toList.toArray.size]!).toArray e (zerosA z cp.toNat) z2 (by simp [z1]) (fun j x hx => by
    obtain ⟨u, hu, hr⟩ := z3 j x hx
    exact ⟨u, by rw [List.getElem?_toArray]; exact hu, hr⟩)
  have hsz : ((List.range (cp.toNat * n)).map fun i => v.cells.toList.toArray[i % v.cells.toList.toArray.size]!).toArray.size = cp.toNat * n := by simp
  refine ⟨.slice (some ⟨w.heap.size, 0, none⟩) ln.toNat cp.toNat, _, _, ?_, hs, .inr ⟨rfl, _, cp.toNat, last_map r _, rfl, by omega, rfl⟩⟩
  · have hib : it.bytes = b := by
      unfold bytesA at hby
      try simp only [nth_eq, setL_eq, und_eq, inf_eq] at hby
      rw [hit] at hby
      simpa using hby
    have wl : IntKind.i64.wrap ln = ln := by unfold IntKind.wrap; simp [IntKind.bits, IntKind.signed]; omega
    have wc : IntKind.i64.wrap cp = cp := by unfold IntKind.wrap; simp [IntKind.bits, IntKind.signed]; omega
    have hc : ((decide (cp < 0) || decide ((b : Int) * cp > 2 ^ 48)) || decide (ln < 0) || decide (ln > cp)) = false := by
      simp only [Bool.or_eq_false_iff, decide_eq_false_iff_not]
      refine ⟨⟨⟨?_, ?_⟩, ?_⟩, ?_⟩ <;> omega
    simp only [Instr.makeSlice, Sem.run_bind, equal_run P w _ _ hd, Result.andThen_ok, asInt, asIntOf, Sem.run_pure, typeInfo, run_program, hit, hib, wl, wc]
    rw [hc]
    simp only [Bool.false_eq_true, if_false, Sem.run_bind, run_askRoom, Result.andThen_ok, sizeA_ok (w := w) hn]
    by_cases e0 : cp.toNat * n = 0
    · have hcells : (Array.range (cp.toNat * n)).map (fun i => (#[] : Array Value)[i % (#[] : Array Value).size]!) = ((List.range (cp.toNat * n)).map fun i => v.cells.toList.toArray[i % v.cells.toList.toArray.size]!).toArray := by simp [e0]
      rw [if_pos e0]
      simp only [Sem.run_bind, Sem.run_pure, Result.andThen_ok]
      rw [hcells]
      simp [newRow]
    · have hcells : (Array.range (cp.toNat * n)).map (fun i => v.cells[i % v.cells.size]!) = ((List.range (cp.toNat * n)).map fun i => v.cells.toList.toArray[i % v.cells.toList.toArray.size]!).toArray := by
        apply Array.toList_inj.1
        simp
      rw [if_neg e0]
      simp only [Sem.run_bind, Sem.run_pure, Result.andThen_ok, zeroValue, typeInfo, run_program, hit, hv]
      rw [hcells]
      simp [newRow]
end
end Go.Proofs.Ytnoonoghemgbbaa.Sx
