/-
  A symbolic evaluator over the model's code: part 6: parts of slices, addresses, aggregates, lengths; then all operations that turn no memory.
-/
import Derived.Test.YtnoonoghemgbbaaSx5
set_option linter.unusedVariables false
set_option linter.unusedSimpArgs false
namespace Go.Proofs.Ytnoonoghemgbbaa.Sx
open Go

/-- A bound that is told, or not. -/
def Bnd (x : Option Value) (d i : Nat) : Prop := (x = none ∧ i = d) ∨ ∃ k n, x = some (.int k n) ∧ 0 ≤ n ∧ i = n.toNat

theorem natOf_ok {ρ : Map} {t : List AV} {a : Act} (ht : TR ρ t a) {x : Option Operand} {d i : Nat} {p : Cd} (h : natOf t x d = some (p, i)) (hp : p) : Bnd (x.map a.eval) d i := by
  cases x with
  | none => cases h; exact .inl ⟨rfl, rfl⟩
  | some x =>
    unfold natOf at h
    simp only at h
    split at h
    · rename_i k n hc
      cases h
      have := cellOf_ok ht hc
      have e : a.eval x = .int k n := this
      exact .inr ⟨k, n, by simp [e], hp, rfl⟩
    · cases h

theorem run_sliceBound {P : Program} (w : World) (k : IntKind) (i : Int) (y : Nat) (code : BoundsCode) (h0 : 0 ≤ i) (h1 : i ≤ y) :
    (Instr.sliceBound (.int k i) y code).run P w = .ok i.toNat w := by
  simp [Instr.sliceBound, asIntOf, h0, h1]

theorem bounds_ok {P : Program} {w : World} {b : Bool} {len cap : Nat} {lo hi mx : Option Value} {i j m : Nat} (hl : Bnd lo 0 i) (hh : Bnd hi len j) (hm : Bnd mx cap m)
    (h1 : i ≤ j) (h2 : j ≤ m) (h3 : m ≤ cap) (hs : mx.isSome = true → hi.isSome = true) : (Instr.sliceBounds b len cap lo hi mx).run P w = .ok (i, j, m) w := by
  unfold Instr.sliceBounds
  rcases hm with ⟨rfl, rfl⟩ | ⟨km, nm, rfl, hm0, rfl⟩
  · rcases hh with ⟨rfl, rfl⟩ | ⟨kh, nh, rfl, hh0, rfl⟩
    · rcases hl with ⟨rfl, rfl⟩ | ⟨kl, nl, rfl, hl0, rfl⟩
      · simp
      · simp [run_sliceBound w kl nl j _ hl0 (by omega)]
    · rcases hl with ⟨rfl, rfl⟩ | ⟨kl, nl, rfl, hl0, rfl⟩
      · simp [run_sliceBound w kh nh m _ hh0 (by omega)]
      · simp [run_sliceBound w kh nh m _ hh0 (by omega), run_sliceBound w kl nl nh.toNat _ hl0 (by omega)]
  · rcases hh with ⟨rfl, rfl⟩ | ⟨kh, nh, rfl, hh0, rfl⟩
    · simp at hs
    · rcases hl with ⟨rfl, rfl⟩ | ⟨kl, nl, rfl, hl0, rfl⟩
      · simp [run_sliceBound w km nm cap _ hm0 (by omega), run_sliceBound w kh nh nm.toNat _ hh0 (by omega)]
      · simp [run_sliceBound w km nm cap _ hm0 (by omega), run_sliceBound w kh nh nm.toNat _ hh0 (by omega), run_sliceBound w kl nl nh.toNat _ hl0 (by omega)]

theorem sliceAt_slice {P : Program} {w : World} {ty e : TypeId} {size : Nat} (hd : P.underlying ty = some (.slice e)) (hsz : sizeA P e = some size) {base : Option Addr} {len cap : Nat} {lo hi mx : Option Value} {i j m : Nat}
    (hl : Bnd lo 0 i) (hh : Bnd hi len j) (hm : Bnd mx cap m) (h1 : i ≤ j) (h2 : j ≤ m) (h3 : m ≤ cap) (hs : mx.isSome = true → hi.isSome = true) :
    (Instr.sliceAt ty (.slice base len cap) lo hi mx).run P w = .ok (.slice (if m = i then base else base.map (·.add (i * size))) (j - i) (m - i)) w := by
  have hb := bounds_ok (P := P) (w := w) (b := true) hl hh hm h1 h2 h3 hs
  simp only [Instr.sliceAt, Sem.run_bind, equal_run P w _ _ hd, Result.andThen_ok, Instr.slice, hb, sizeA_ok (w := w) hsz]
  rfl

theorem sliceA_ok {ρ : Map} {P : Program} {w : World} {ty e : TypeId} {size : Nat} (hd : P.underlying ty = some (.slice e)) (hsz : sizeA P e = some size)
    {nl : Bool} {id idx off len : Nat} {cap : Option Nat} {sz : Nat} {x : Value} (hx : RC ρ (.slice nl id idx off len cap sz) x) {lo hi mx : Option Value} {i j : Nat} {mode : Nat} {p : Cd} {c : Cell} {xm : Option Nat}
    (hl : Bnd lo 0 i) (hh : Bnd hi len j) (hm : (mx = none ∧ xm = none) ∨ (∃ k n, mx = some (.int k n) ∧ 0 ≤ n ∧ xm = some n.toNat ∧ hi.isSome = true))
    (h : sliceA nl id idx off len cap sz size i j xm mode = some (p, c)) (hp : p) :
    ∃ r, (Instr.sliceAt ty x lo hi mx).run P w = .ok r w ∧ RC ρ c r := by
  unfold sliceA at h
  split at h
  · -- as it stands
    rcases hx with ⟨rfl, rfl, rfl⟩ | ⟨rfl, F, r, hF, rfl, hr, hcap⟩
    · -- nil
      have key : ∀ mm, Bnd mx 0 mm → mm = 0 → i = 0 → j = 0 → (mx.isSome = true → hi.isSome = true) → (Instr.sliceAt ty (.slice none 0 0) lo hi mx).run P w = .ok (.slice none 0 0) w := by
        intro mm hb e1 e2 e3 hs
        subst e1 e2 e3
        rw [sliceAt_slice hd hsz hl hh hb (Nat.le_refl _) (Nat.le_refl _) (Nat.le_refl _) hs]
        simp
      split at h
      · rcases hm with ⟨rfl, hm⟩ | ⟨_, _, _, _, hm, _⟩
        · cases h
          obtain ⟨h1, h2, h3, h4⟩ := hp
          exact ⟨_, key 0 (.inl ⟨rfl, rfl⟩) rfl (by omega) (by omega) (by simp), .inl ⟨rfl, by omega, rfl⟩⟩
        · cases hm
      · rename_i m'
        rcases hm with ⟨_, hm⟩ | ⟨k, n, rfl, hn, hm, hs⟩
        · cases hm
        · cases h; cases hm
          obtain ⟨h1, h2, h3, h4, h5⟩ := hp
          exact ⟨_, key n.toNat (.inr ⟨k, n, rfl, hn, rfl⟩) (by omega) (by omega) (by omega) (fun _ => hs), .inl ⟨rfl, by omega, rfl⟩⟩
      · rcases hm with ⟨rfl, hm⟩ | ⟨_, _, _, _, hm, _⟩
        · cases h
          obtain ⟨h1, h2, h3, h4, h5⟩ := hp
          have := h4 rfl
          exact ⟨_, key 0 (.inl ⟨rfl, rfl⟩) rfl (by omega) (by omega) (by simp), .inl ⟨rfl, by omega, rfl⟩⟩
        · cases hm
      · rename_i m'
        rcases hm with ⟨_, hm⟩ | ⟨k, n, rfl, hn, hm, hs⟩
        · cases hm
        · cases h; cases hm
          obtain ⟨h1, h2, h3, h4, h5, h6⟩ := hp
          have := h5 rfl
          exact ⟨_, key n.toNat (.inr ⟨k, n, rfl, hn, rfl⟩) (by omega) (by omega) (by omega) (fun _ => hs), .inl ⟨rfl, by omega, rfl⟩⟩
    · -- not nil
      have key : ∀ mm, Bnd mx r mm → i ≤ j → j ≤ mm → mm ≤ r → (i = 0 ∨ i < mm) → (mx.isSome = true → hi.isSome = true) →
          (Instr.sliceAt ty (.slice (some ⟨(F idx).blk, (F idx).sh + off, none⟩) len r) lo hi mx).run P w = .ok (.slice (some ⟨(F idx).blk, (F idx).sh + (off + i * size), none⟩) (j - i) (mm - i)) w := by
        intro mm hb e1 e2 e3 e4 hs
        rw [sliceAt_slice hd hsz hl hh hb e1 e2 e3 hs]
        by_cases e : mm = i
        · rw [if_pos e]
          have : i = 0 := by omega
          simp [this]
        · rw [if_neg e]
          simp [addr_add, Nat.add_assoc]
      split at h
      · rcases hm with ⟨rfl, hm⟩ | ⟨_, _, _, _, hm, _⟩
        · cases h
          obtain ⟨h1, h2, h3, h4⟩ := hp
          subst h1
          refine ⟨_, key r (.inl ⟨rfl, rfl⟩) h2 (by omega) (Nat.le_refl _) (by omega) (by simp), .inr ⟨rfl, F, r - i, hF, rfl, by omega, ?_⟩⟩
          simp only at hcap ⊢
          have e : ∀ n, (n - i * sz) / sz = n / sz - i := fun n => by rw [Nat.mul_comm, Nat.sub_mul_div]
          rw [hcap, ← e, Nat.sub_sub, Nat.add_assoc]
        · cases hm
      · rename_i m'
        rcases hm with ⟨_, hm⟩ | ⟨k, n, rfl, hn, hm, hs⟩
        · cases hm
        · cases h; cases hm
          obtain ⟨h1, h2, h3, h4, h5⟩ := hp
          exact ⟨_, key n.toNat (.inr ⟨k, n, rfl, hn, rfl⟩) h2 h3 (by omega) h5 (fun _ => hs), .inr ⟨rfl, F, _, hF, rfl, by omega, rfl⟩⟩
      · rcases hm with ⟨rfl, hm⟩ | ⟨_, _, _, _, hm, _⟩
        · cases h
          obtain ⟨h1, h2, h3, h4, h5⟩ := hp
          simp only at hcap
          subst hcap
          exact ⟨_, key r (.inl ⟨rfl, rfl⟩) h2 h3 (Nat.le_refl _) h5 (by simp), .inr ⟨rfl, F, _, hF, rfl, by omega, rfl⟩⟩
        · cases hm
      · rename_i m'
        rcases hm with ⟨_, hm⟩ | ⟨k, n, rfl, hn, hm, hs⟩
        · cases hm
        · cases h; cases hm
          obtain ⟨h1, h2, h3, h4, h5, h6⟩ := hp
          simp only at hcap
          subst hcap
          exact ⟨_, key n.toNat (.inr ⟨k, n, rfl, hn, rfl⟩) h2 h3 h4 h6 (fun _ => hs), .inr ⟨rfl, F, _, hF, rfl, by omega, rfl⟩⟩
  · -- an empty one
    cases h
    obtain ⟨rfl, rfl, h2, rfl⟩ := hp
    rcases hm with ⟨rfl, _⟩ | ⟨_, _, _, _, hm, _⟩
    · rcases hx with ⟨h0, _⟩ | ⟨_, F, r, hF, rfl, hr, hcap⟩
      · cases h0
      · rw [sliceAt_slice hd hsz hl hh (.inl ⟨rfl, rfl⟩) (Nat.le_refl _) (by omega) (Nat.le_refl _) (by simp)]
        refine ⟨_, rfl, ?_⟩
        by_cases e : r = i
        · rw [if_pos e, Nat.sub_self]; exact ⟨_, _, rfl⟩
        · rw [if_neg e, Nat.sub_self]; exact ⟨_, _, rfl⟩
    · cases hm

theorem sliceB_ok {D : Type} {ρ : Map} {H : Heap D} {P : Program} {w : World} (rl : Rel ρ H w) {ty e : TypeId} {size : Nat} (hd : P.underlying ty = some (.slice e)) (hsz : sizeA P e = some size)
    {nl : Bool} {id idx off len : Nat} {sz : Nat} {x : Value} (hx : RC ρ (.slice nl id idx off len none sz) x) {lo hi : Option Value} {i j : Nat} {p : Cd} {c : Cell}
    (hl : Bnd lo 0 i) (hh : Bnd hi len j) (h : sliceB H nl id idx off sz size i j = some (p, c)) (hp : p) :
    ∃ r, (Instr.sliceAt ty x lo hi none).run P w = .ok r w ∧ RC ρ c r := by
  unfold sliceB at h
  split at h
  · rename_i live cc hc
    cases h
    obtain ⟨hlive, h1, h2, h3, h4, h5, h6⟩ := hp
    obtain ⟨num, ccf, F', hb, rfl, hlt, hF', hwf, hat, hown⟩ := contAt_ok rl hc hlive
    obtain ⟨g1, g2, g3⟩ := hown rfl
    rcases hx with ⟨h0, _⟩ | ⟨_, F, r, hF, rfl, hr, hcap⟩
    · rw [h1] at h0; cases h0
    · rw [hF] at hF'; cases hF'
      subst h2
      simp only at hcap
      have hjr : j ≤ r := by
        rw [hcap]
        refine (Nat.le_div_iff_mul_le h3).2 ?_
        omega
      rw [sliceAt_slice hd hsz hl hh (.inl ⟨rfl, rfl⟩) h4 hjr (Nat.le_refl _) (by simp)]
      refine ⟨_, rfl, .inr ⟨rfl, _, r - i, hF, ?_, by omega, ?_⟩⟩
      · by_cases e : r = i
        · rw [if_pos e]
          have : i = 0 := by omega
          simp [this]
        · rw [if_neg e]
          simp [addr_add, Nat.add_assoc]
      · simp only
        have e : ∀ n, (n - i * sz) / sz = n / sz - i := fun n => by rw [Nat.mul_comm, Nat.sub_mul_div]
        rw [hcap, ← e, Nat.sub_sub, Nat.add_assoc]
  · cases h

theorem allPtr_ok {ρ : Map} {t : List AV} {a : Act} (ht : TR ρ t a) : ∀ {l : List Operand} {m : List (Nat × Nat × Nat)}, allPtr t l = some m → All2 (RCap ρ) m (l.map a.eval)
  | [], m, h => by simp [allPtr] at h; subst h; trivial
  | x :: l, m, h => by
    unfold allPtr at h
    split at h
    · rename_i id idx off m' hc hm
      cases h
      rcases cellOf_ok ht hc with ⟨h0, _⟩ | ⟨_, F, hF, he⟩
      · cases h0
      · exact ⟨⟨F, hF, he⟩, allPtr_ok ht hm⟩
    · cases h

theorem cellsOf_ok {ρ : Map} {t : List AV} {a : Act} (ht : TR ρ t a) {x : Operand} {cs : List Cell} (h : cellsOf t x = some cs) : All2 (RC ρ) cs (a.eval x).cells.toList := by
  unfold cellsOf at h
  split at h
  · rename_i c hc
    cases h
    have hr : RC ρ c (a.eval x) := opnd_ok ht hc
    rw [hr.cells]
    exact ⟨hr, trivial⟩
  · rename_i cs' hc
    cases h
    obtain ⟨vs, e, hr⟩ : RV ρ (.agg cs) (a.eval x) := opnd_ok ht hc
    rw [e]
    exact hr
  · cases h

theorem partsA_ok {ρ : Map} {t : List AV} {a : Act} (ht : TR ρ t a) : ∀ {l : List (Nat × Operand)} {m : List (Nat × List Cell)}, partsA t l = some m →
    All2 (fun (p : Nat × List Cell) (q : Nat × Value) => p.1 = q.1 ∧ All2 (RC ρ) p.2 q.2.cells.toList) m (l.map fun (i, x) => (i, a.eval x))
  | [], m, h => by simp [partsA] at h; subst h; trivial
  | (i, x) :: l, m, h => by
    unfold partsA at h
    split at h
    · rename_i c m' hc hm
      cases h
      exact ⟨⟨rfl, cellsOf_ok ht hc⟩, partsA_ok ht hm⟩
    · cases h

/-- Laying one part over cells, one cell after the other. -/
theorem lay_eq (off : Nat) : ∀ (l : List Value) (s : Nat) (cs : Array Value), off + s + l.length ≤ cs.size →
    (l.zipIdx s).foldl (fun cs (c, j) => cs.setIfInBounds (off + j) c) cs = (cs.toList.take (off + s) ++ l ++ cs.toList.drop (off + s + l.length)).toArray
  | [], s, cs, h => by simp
  | v :: l, s, cs, h => by
    simp only [List.zipIdx_cons, List.foldl_cons]
    rw [lay_eq off l (s + 1) _ (by simp at h ⊢; omega)]
    have := list_seg_step cs.toList (off + s) v l (by simp at h ⊢; omega)
    congr 1
    simpa [Array.toList_setIfInBounds, Nat.add_assoc] using this

theorem fillA_ok {ρ : Map} {pl : Nat → Option (Nat × Nat)} : ∀ {ps : List (Nat × List Cell)} {qs : List (Nat × Value)} {cells out : List Cell} {vs : List Value},
    All2 (fun (p : Nat × List Cell) (q : Nat × Value) => p.1 = q.1 ∧ All2 (RC ρ) p.2 q.2.cells.toList) ps qs → All2 (RC ρ) cells vs → fillA pl cells ps = some out →
    ∃ us : List Value, Instr.fill pl vs.toArray qs = some us.toArray ∧ All2 (RC ρ) out us
  | [], [], cells, out, vs, _, hc, h => by simp [fillA] at h; subst h; exact ⟨vs, rfl, hc⟩
  | [], _ :: _, _, _, _, h0, _, _ => h0.elim
  | _ :: _, [], _, _, _, h0, _, _ => h0.elim
  | (i, c) :: ps, (i', v) :: qs, cells, out, vs, ⟨⟨hi, hv⟩, hrest⟩, hc, h => by
    simp only at hi hv
    subst hi
    unfold fillA at h
    split at h
    · cases h
    · rename_i off size hpl
      split at h
      · rename_i hb
        simp only [Bool.and_eq_true, beq_iff_eq, Nat.ble_eq] at hb
        obtain ⟨hb1, hb2⟩ := hb
        have hlv : v.cells.size = size := by rw [← hb1, hv.length]; simp
        have hlc : cells.length = vs.length := hc.length
        have hlen : off + v.cells.size ≤ vs.length := by rw [hlv, ← hb1, ← hlc]; exact hb2
        have hnew : All2 (RC ρ) (cells.take off ++ c ++ cells.drop (off + c.length)) (vs.take off ++ v.cells.toList ++ vs.drop (off + v.cells.size)) := by
          refine ((hc.take off).app hv).app ?_
          have := hc.drop (off + c.length)
          rwa [show off + c.length = off + v.cells.size by rw [hlv, hb1]] at this ⊢
        obtain ⟨us, hu, hr⟩ := fillA_ok hrest hnew h
        refine ⟨us, ?_, hr⟩
        rw [← hu]
        conv => lhs; unfold Instr.fill
        simp only [hpl]
        rw [if_neg (by simp [hlv]; omega)]
        congr 1
        have := lay_eq off v.cells.toList 0 vs.toArray (by simpa using hlen)
        simp only [Nat.add_zero, Array.length_toList] at this
        rw [← this, ← Array.foldl_toList, Array.toList_zipIdx]
      · cases h

theorem inRow_ok {place : Nat → Option (Nat × Nat)} : ∀ {ps : List (Nat × List Cell)} {off : Nat} {m : List Cell} {n : Nat} {cells : List Cell}, inRow place off ps = some (m, n) → n ≤ cells.length →
    n = off + m.length ∧ fillA place cells ps = some (cells.take off ++ m ++ cells.drop n)
  | [], off, m, n, cells, h, hn => by
    simp only [inRow, Option.some.injEq, Prod.mk.injEq] at h
    obtain ⟨rfl, rfl⟩ := h
    exact ⟨rfl, by simp [fillA]⟩
  | (i, v) :: ps, off, m, n, cells, h, hn => by
    unfold inRow at h
    split at h
    · cases h
    · rename_i o size hp
      split at h
      · rename_i hb
        rw [Bool.and_eq_true] at hb
        have e1 := Nat.eq_of_beq_eq_true hb.1
        have e2 := Nat.eq_of_beq_eq_true hb.2
        subst e1 e2
        split at h
        · rename_i m' n' hr
          simp only [Option.some.injEq, Prod.mk.injEq] at h
          obtain ⟨rfl, rfl⟩ := h
          have hle : ∀ {cells' : List Cell}, cells'.length = cells.length → n' ≤ cells'.length := fun e => by rw [e]; exact hn
          have h0 := (inRow_ok hr hn).1
          have hlen : (cells.take o ++ v ++ cells.drop (o + v.length)).length = cells.length := by simp; omega
          obtain ⟨h1, h2⟩ := inRow_ok hr (hle hlen)
          refine ⟨by rw [h1]; simp; omega, ?_⟩
          unfold fillA
          have hb2 : (v.length == v.length && Nat.ble (o + v.length) cells.length) = true := by
            simp only [Bool.and_eq_true, beq_self_eq_true, Nat.ble_eq, true_and]; omega
          simp only [hp, hb2, h2]
          congr 1
          have ht : (cells.take o ++ v ++ cells.drop (o + v.length)).take (o + v.length) = cells.take o ++ v := by
            rw [List.take_append_of_le_length (by simp; omega), List.take_of_length_le (by simp; omega)]
          have hd : (cells.take o ++ v ++ cells.drop (o + v.length)).drop n' = cells.drop n' := by
            rw [List.drop_append, List.drop_eq_nil_of_le (by simp; omega), List.nil_append, List.drop_drop]
            congr 1
            simp
            omega
          rw [ht, hd]
          simp
        · cases h
      · cases h

theorem fillQ_ok {place : Nat → Option (Nat × Nat)} {cells out : List Cell} {ps : List (Nat × List Cell)} (h : fillQ place cells ps = some out) : fillA place cells ps = some out := by
  unfold fillQ at h
  split at h
  · rename_i m n hr
    split at h
    · rename_i hb
      cases h
      have e := Nat.eq_of_beq_eq_true hb
      rw [(inRow_ok hr (by omega)).2, e]
      simp
    · exact h
  · exact h

theorem places_ok {P : Program} : ∀ {l : List Field}, sizesOk P l = true → ∃ places : List (Nat × Nat), l.mapM (fun f => (P.info? f.type).map fun i => (f.offset, i.size)) = some places ∧ ∀ i, places[i]? = fieldsA P l i
  | [], _ => ⟨[], by simp, fun i => by simp [fieldsA, nth_eq]⟩
  | f :: l, h => by
    unfold sizesOk at h
    split at h
    · rename_i n hn
      obtain ⟨pl, h1, h2⟩ := places_ok h
      have hi : ∃ it, P.info? f.type = some it ∧ it.size = n := by
        unfold sizeA at hn
        try simp only [nth_eq, setL_eq, und_eq, inf_eq] at hn
        split at hn
        · rename_i it hit; cases hn; exact ⟨it, hit, rfl⟩
        · cases hn
      obtain ⟨it, hit, hsz⟩ := hi
      refine ⟨(f.offset, n) :: pl, by simp [List.mapM_cons, hit, h1, hsz], fun i => ?_⟩
      cases i with
      | zero => simp [fieldsA, nth_eq, hn]
      | succ i => simpa [fieldsA, nth_eq] using h2 i
    · cases h

theorem zeroA_ok {ρ : Map} {P : Program} {t : TypeId} {z : List Cell} (h : zeroA P t = some z) : ∃ it v, P.info? t = some it ∧ it.zero = some v ∧ All2 (RC ρ) z v.cells.toList := by
  unfold zeroA at h
  try simp only [nth_eq, setL_eq, und_eq, inf_eq] at h
  split at h
  · rename_i it hit
    split at h
    · rename_i v hv
      exact ⟨it, v, hit, hv, ofVs_ok h⟩
    · cases h
  · cases h

theorem buildA_ok {ρ : Map} {P : Program} {w : World} {t : List AV} {a : Act} (ht : TR ρ t a) {ty : TypeId} {parts : Array (Nat × Operand)} {v : AV} (h : buildA P t ty parts.toList = some v) :
    ∃ r, (Instr.build ty (parts.map fun (i, x) => (i, a.eval x))).run P w = .ok r w ∧ RV ρ v r := by
  unfold buildA at h
  try simp only [nth_eq, setL_eq, und_eq, inf_eq] at h
  split at h
  · rename_i z fs ps hz hd hps
    obtain ⟨it, zv, hit, hzv, hzr⟩ := zeroA_ok (ρ := ρ) hz
    split at h
    · rename_i hok
      split at h
      · rename_i cs hcs
        cases h
        obtain ⟨pl, h1, h2⟩ := places_ok hok
        obtain ⟨us, hu, hr⟩ := fillA_ok (partsA_ok ht hps) hzr (fillQ_ok hcs)
        refine ⟨.agg us.toArray, ?_, us, rfl, hr⟩
        apply run_build
        have e : (fun i => pl.toArray[i]?) = fieldsA P fs.toList := by funext i; simpa using h2 i
        unfold Program.built
        simp only [hit, hd, hzv, h1, e]
        simpa using hu
      · cases h
    · cases h
  · rename_i z len elem ps hz hd hps
    obtain ⟨it, zv, hit, hzv, hzr⟩ := zeroA_ok (ρ := ρ) hz
    split at h
    · rename_i n hn
      split at h
      · rename_i cs hcs
        cases h
        obtain ⟨us, hu, hr⟩ := fillA_ok (partsA_ok ht hps) hzr (fillQ_ok hcs)
        refine ⟨.agg us.toArray, ?_, us, rfl, hr⟩
        apply run_build
        have hie : ∃ ie, P.info? elem = some ie ∧ ie.size = n := by
          unfold sizeA at hn
          try simp only [nth_eq, setL_eq, und_eq, inf_eq] at hn
          split at hn
          · rename_i it hit; cases hn; exact ⟨it, hit, rfl⟩
          · cases hn
        obtain ⟨ie, hie, hsz⟩ := hie
        unfold Program.built
        simp only [hit, hd, hzv, hie, hsz]
        simpa using hu
      · cases h
    · cases h
  · cases h

theorem lenA_ok {ρ : Map} {P : Program} {w : World} {ty rt : TypeId} {a : AV} {n : Int} (h : lenA P ty a = some n) {x : Value} (hx : RV ρ a x) : (Builtin.len_ #[ty] rt #[x]).run P w = .ok (.int .i64 n) w := by
  unfold lenA at h
  try simp only [nth_eq, setL_eq, und_eq, inf_eq] at h
  split at h
  · rename_i l hd
    cases h; cases hx
    have hs : (⟨l.toArray⟩ : ByteArray).size = l.length := List.size_toArray
    simp [Builtin.len_, equal_run P w _ _ hd, goInt, hs]
  · rename_i e nl id idx off len cap sz hd
    cases h
    rcases hx with ⟨_, rfl, rfl⟩ | ⟨_, F, r, _, rfl, _⟩ <;> simp [Builtin.len_, equal_run P w _ _ hd, goInt]
  · rename_i e hd
    cases h
    obtain ⟨b, c, rfl⟩ := hx
    simp [Builtin.len_, equal_run P w _ _ hd, goInt]
  · rename_i k e hd
    cases h
    simp [Builtin.len_, equal_run P w _ _ hd, goInt]
  · cases h

theorem listA_ok {ρ : Map} {t : List AV} {a : Act} (ht : TR ρ t a) : ∀ {l : List Operand} {m : List Cell}, listA t l = some m → All2 (RC ρ) m (l.map a.eval)
  | [], m, h => by simp [listA] at h; subst h; trivial
  | x :: l, m, h => by
    unfold listA at h
    split at h
    · rename_i c m' hc hm
      cases h
      exact ⟨cellOf_ok ht hc, listA_ok ht hm⟩
    · cases h

theorem foldA_ok {ρ : Map} {P : Program} {w : World} {f : Cell → Cell → Option Cell} {g : Value → Value → Sem Value}
    (hfg : ∀ c d e v u, f c d = some e → RC ρ c v → RC ρ d u → ∃ r, (g v u).run P w = .ok r w ∧ RC ρ e r) :
    ∀ {l : List Cell} {vs : List Value} {c e : Cell} {v : Value}, All2 (RC ρ) l vs → RC ρ c v → foldA f c l = some e → ∃ r, (vs.foldlM g v).run P w = .ok r w ∧ RC ρ e r
  | [], [], c, e, v, _, hc, h => by simp [foldA] at h; subst h; exact ⟨v, rfl, hc⟩
  | [], _ :: _, _, _, _, h0, _, _ => h0.elim
  | _ :: _, [], _, _, _, h0, _, _ => h0.elim
  | x :: l, u :: vs, c, e, v, ⟨h1, h2⟩, hc, h => by
    unfold foldA at h
    split at h
    · rename_i y hy
      obtain ⟨r, hr, hrc⟩ := hfg c x y v u hy hc h1
      obtain ⟨r', hr', hrc'⟩ := foldA_ok hfg h2 hrc h
      exact ⟨r', by simp only [List.foldlM_cons, Sem.run_bind, hr, Result.andThen_ok, hr'], hrc'⟩
    · cases h

theorem minA_ok {ρ : Map} {P : Program} {w : World} (c d e : Cell) (v u : Value) (h : minA c d = some e) (hv : RC ρ c v) (hu : RC ρ d u) : ∃ r, (Builtin.min2 v u).run P w = .ok r w ∧ RC ρ e r := by
  unfold minA at h
  split at h
  · cases h; cases hv; cases hu; exact ⟨_, rfl, rfl⟩
  · cases h
theorem maxA_ok {ρ : Map} {P : Program} {w : World} (c d e : Cell) (v u : Value) (h : maxA c d = some e) (hv : RC ρ c v) (hu : RC ρ d u) : ∃ r, (Builtin.max2 v u).run P w = .ok r w ∧ RC ρ e r := by
  unfold maxA at h
  split at h
  · cases h; cases hv; cases hu; exact ⟨_, rfl, rfl⟩
  · cases h

/-- What a pure operation answers is what the model answers. -/
def PureOk (P : Program) (ρ : Map) (w : World) (a : Act) (o : Oper) (v : AV) : Prop := ∃ r, (execOp a.eval o).run P w = .ok (.value r) w ∧ RV ρ v r

theorem pure_of {P : Program} {ρ : Map} {w : World} {a : Act} {o : Oper} {v : AV} {s : Sem Value} (he : execOp a.eval o = (do pure (.value (← s)))) (h : ∃ r, s.run P w = .ok r w ∧ RV ρ v r) : PureOk P ρ w a o v := by
  obtain ⟨r, hr, hv⟩ := h
  exact ⟨r, by rw [he]; simp only [Sem.run_bind, hr, Result.andThen_ok]; rfl, hv⟩

section
variable {D : Type}

theorem pureA_ok {P : Program} {ρ : Map} {H : Heap D} {w : World} {t : List AV} {a : Act} (r : Rel ρ H w) (ht : TR ρ t a) {dec d : Dec} {o : Oper} {p : Cd} {v : AV}
    (h : pureA P H t dec o.op = some (p, v, d)) (hp : p) : PureOk P ρ w a o v := by
  obtain ⟨dst, op, type, pos, after, guard⟩ := o
  simp only at h
  cases op <;> simp only [pureA, nth_eq, und_eq, inf_eq, reduceCtorEq] at h
  case move x =>
    split at h
    · rename_i u hu; cases h; exact ⟨_, rfl, opnd_ok ht hu⟩
    · cases h
  case assign x =>
    split at h
    · rename_i u hu; cases h; exact ⟨_, rfl, opnd_ok ht hu⟩
    · cases h
  case pick c x y =>
    split at h
    · rename_i b d' hc
      split at h
      · rename_i u hu
        cases h
        have e : a.eval c = .bool b := cellOf_ok ht hc
        have hb : b = false := hp
        subst hb
        exact ⟨_, by simp [execOp, e, asBool], opnd_ok ht hu⟩
      · cases h
    · rename_i b n d' hc
      split at h
      · rename_i u hu
        cases h
        have e : a.eval c = .bool b := cellOf_ok ht hc
        have hb : b = true := hp
        subst hb
        exact ⟨_, by simp [execOp, e, asBool], opnd_ok ht hu⟩
      · cases h
    · cases h
  case nilCheck x =>
    split at h
    · rename_i nl id idx off hc
      cases h
      rcases cellOf_ok ht hc with ⟨h0, _⟩ | ⟨h1, F, hF, e⟩
      · have : nl = false := hp
        rw [h0] at this; cases this
      · exact ⟨_, by simp only [execOp, e]; rfl, .inr ⟨h1, F, hF, rfl⟩⟩
    · rename_i f caps hc
      cases h
      obtain ⟨vs, e, hvs⟩ := cellOf_ok ht hc
      exact ⟨_, by simp only [execOp, e]; rfl, vs, rfl, hvs⟩
    · cases h
  case binOp bop ty x y yt =>
    split at h
    · rename_i c1 c2 h1 h2
      split at h
      · rename_i q c3 h3
        cases h
        have e1 := cellOf_ok ht h1
        have e2 := cellOf_ok ht h2
        obtain ⟨u, hu, hru⟩ := binA_ok (w := w) h3 hp e1 e2
        refine pure_of (s := do eqGuard bop ty x y (a.eval x) (a.eval y); binOp bop ty (a.eval x) (a.eval y)) rfl ⟨u, ?_, hru⟩
        simp only [Sem.run_bind, eqGuard_ok P w bop ty x y e1.flat e2.flat, Result.andThen_ok, hu]
      · cases h
    · cases h
  case unOp uop ty x =>
    split at h
    · rename_i c1 h1
      split at h
      · rename_i c3 h3
        cases h
        exact pure_of rfl (unA_ok h3 (cellOf_ok ht h1))
      · cases h
    · cases h
  case convert s d x =>
    split at h
    · rename_i c1 h1
      split at h
      · rename_i c3 h3
        cases h
        exact pure_of rfl (convA_ok h3 (cellOf_ok ht h1))
      · cases h
    · cases h
  case extract x i =>
    split at h
    · rename_i l hl
      split at h
      · rename_i u hu
        cases h
        obtain ⟨vs, e, hvs⟩ : RV ρ (.tup l) (a.eval x) := opnd_ok ht hl
        obtain ⟨y, hy, hr⟩ := hvs.get hu
        refine pure_of (s := Instr.extract (a.eval x) i) rfl ⟨y, ?_, ?_⟩
        · simp [e, Instr.extract, hy]
        · cases u with
          | cell c => exact hr
          | agg cs => exact hr
      · cases h
    · cases h
  case field ty x f =>
    split at h
    · rename_i fs cs hd hx
      split at h
      · rename_i fd hfd
        split at h
        · rename_i u hu
          cases h
          obtain ⟨vs, e, hvs⟩ : RV ρ (.agg cs) (a.eval x) := opnd_ok ht hx
          obtain ⟨y, hy, hr⟩ := partA_ok (w := w) hu hvs
          refine pure_of (s := Instr.field ty (a.eval x) f) rfl ⟨y, ?_, hr⟩
          have hfd' : fs[f]? = some fd := by simpa using hfd
          simp only [Instr.field, Sem.run_bind, equal_run P w _ _ hd, Result.andThen_ok, hfd', e, asAgg, Sem.run_pure, hy]
        · cases h
      · cases h
    · cases h
  case index ty x i =>
    split at h
    · rename_i u k n hx hi
      have e : a.eval i = .int k n := cellOf_ok ht hi
      obtain ⟨y, hy, hr⟩ := indexA_ok (w := w) (k := k) h hp (opnd_ok ht hx)
      exact pure_of (s := Instr.index ty (a.eval x) (a.eval i)) rfl ⟨y, by rw [e]; exact hy, hr⟩
    · cases h
  case makeFunc fn first caps =>
    cases fn <;> simp only [pureA, nth_eq, und_eq, inf_eq, reduceCtorEq] at h
    rename_i f
    split at h
    · rename_i l h1 h2
      cases h
      have hf : first = #[] := by simpa using congrArg List.toArray h1
      subst hf
      refine ⟨_, rfl, (caps.toList.map a.eval), ?_, allPtr_ok ht h2⟩
      have e : Array.map a.eval caps = (List.map a.eval caps.toList).toArray := by apply Array.toList_inj.1; simp
      rw [e, Array.map_empty]
    · cases h
  case slice ty x lo hi mx =>
    split at h
    · rename_i l hd hx
      split at h
      · rename_i q i q' j h1 h2
        cases h
        obtain ⟨hq, hq', h3, h4⟩ := hp
        have e : a.eval x = .string ⟨l.toArray⟩ := cellOf_ok ht hx
        have b1 := natOf_ok ht h1 hq
        have b2 := natOf_ok ht h2 hq'
        refine pure_of (s := Instr.sliceAt ty (a.eval x) (lo.map a.eval) (hi.map a.eval) none) rfl ⟨_, ?_, rfl⟩
        have hsz : (⟨l.toArray⟩ : ByteArray).size = l.length := by simp [ByteArray.size]
        have hb := bounds_ok (P := P) (w := w) (b := false) (cap := l.length) (mx := none) b1 b2 (.inl ⟨rfl, rfl⟩) h3 h4 (Nat.le_refl _) (by simp)
        have hex : (⟨l.toArray⟩ : ByteArray).extract i j = ⟨((l.drop i).take (j - i)).toArray⟩ := by
          apply ByteArray.ext
          simp [ByteArray.data_extract, List.extract_eq_take_drop]
        simp only [Instr.sliceAt, Sem.run_bind, equal_run P w _ _ hd, Result.andThen_ok, Instr.slice, e, hsz, Option.isSome_none]
        simp [hb, hex]
      · cases h
    · rename_i el nl id idx off len cap sz hd hx
      split at h
      · rename_i size q i q' j q2 d' hsz h1 h2 h3
        split at h
        · rename_i s c hs
          cases h
          obtain ⟨hq, hq', hsp⟩ := hp
          have b1 := natOf_ok ht h1 hq
          have b2 := natOf_ok ht h2 hq'
          have e := cellOf_ok ht hx
          refine pure_of (s := Instr.sliceAt ty (a.eval x) (lo.map a.eval) (hi.map a.eval) ((none : Option Operand).map a.eval)) rfl ?_
          exact sliceB_ok r hd hsz e b1 b2 hs hsp
        · cases h
      · rename_i size q i q' j q'' m mode d' hsz h1 h2 h3
        split at h
        · rename_i s c hs
          cases h
          obtain ⟨hq, hq', hq'', hmx, hsp⟩ := hp
          have b1 := natOf_ok ht h1 hq
          have b2 := natOf_ok ht h2 hq'
          have e := cellOf_ok ht hx
          refine pure_of (s := Instr.sliceAt ty (a.eval x) (lo.map a.eval) (hi.map a.eval) (mx.map a.eval)) rfl ?_
          refine sliceA_ok hd hsz e b1 b2 ?_ hs hsp
          cases mx with
          | none => exact .inl ⟨rfl, rfl⟩
          | some y =>
            rcases natOf_ok ht h3 hq'' with ⟨hh, _⟩ | ⟨k, n, hh, hn, rfl⟩
            · simp at hh
            · exact .inr ⟨k, n, hh, hn, rfl, by simpa using hmx rfl⟩
        · cases h
      · cases h
    · rename_i n el nl id idx off hd hx
      split at h
      · rename_i size hsz
        cases h
        obtain ⟨h0, h1⟩ := hp
        rcases cellOf_ok ht hx with ⟨h2, _⟩ | ⟨_, F, hF, e⟩
        · rw [h0] at h2; cases h2
        · refine pure_of (s := Instr.sliceAt ty (a.eval x) none none none) rfl ⟨_, ?_, .inr ⟨rfl, F, n, hF, rfl, Nat.le_refl _, rfl⟩⟩
          have hb := bounds_ok (P := P) (w := w) (b := false) (len := n) (cap := n) (lo := none) (hi := none) (mx := none) (.inl ⟨rfl, rfl⟩) (.inl ⟨rfl, rfl⟩) (.inl ⟨rfl, rfl⟩) (Nat.zero_le _) (Nat.le_refl _) (Nat.le_refl _) (by simp)
          simp only [Instr.sliceAt, Sem.run_bind, equal_run P w _ _ hd, Result.andThen_ok, e, Instr.sureAddr, Sem.run_pure, hb, sizeA_ok (w := w) hsz]
          rw [if_neg (by omega)]
          simp [addr_add]
      · cases h
    · cases h
  case fieldAddr s x f =>
    split at h
    · rename_i fs nl id idx off hd hx
      split at h
      · rename_i fd hfd
        split at h
        · rename_i n hsz
          cases h
          rcases cellOf_ok ht hx with ⟨h2, _⟩ | ⟨_, F, hF, e⟩
          · have : nl = false := hp
            rw [h2] at this; cases this
          · refine pure_of (s := Instr.fieldAt s (a.eval x) f) rfl ⟨_, ?_, .inr ⟨rfl, F, hF, rfl⟩⟩
            have hfd' : fs[f]? = some fd := by simpa using hfd
            simp only [Instr.fieldAt, Sem.run_bind, equal_run P w _ _ hd, Result.andThen_ok, hfd', e, Instr.sureAddr, Sem.run_pure, fieldPlace, sizeA_ok (w := w) hsz]
            simp [addr_add, Nat.add_assoc]
        · cases h
      · cases h
    · cases h
  case indexAddr ty x i =>
    split at h
    · rename_i el nl id idx off len cap sz k n hd hx hi
      split at h
      · rename_i size hsz
        cases h
        obtain ⟨h0, h1, h2⟩ := hp
        have ei : a.eval i = .int k n := cellOf_ok ht hi
        rcases cellOf_ok ht hx with ⟨h3, _⟩ | ⟨_, F, rr, hF, e, hrr, hcap⟩
        · rw [h0] at h3; cases h3
        · refine pure_of (s := Instr.indexAt ty (a.eval x) (a.eval i)) rfl ⟨_, ?_, .inr ⟨rfl, F, hF, rfl⟩⟩
          simp only [Instr.indexAt, Sem.run_bind, equal_run P w _ _ hd, Result.andThen_ok, e, ei, asIntOf, Sem.run_pure]
          simp [h1, h2, sizeA_ok (w := w) hsz, addr_add, Nat.add_assoc]
      · cases h
    · rename_i len el nl id idx off k n hd hx hi
      split at h
      · rename_i size hsz
        cases h
        obtain ⟨h0, h1, h2⟩ := hp
        have ei : a.eval i = .int k n := cellOf_ok ht hi
        rcases cellOf_ok ht hx with ⟨h3, _⟩ | ⟨_, F, hF, e⟩
        · rw [h0] at h3; cases h3
        · refine pure_of (s := Instr.indexAt ty (a.eval x) (a.eval i)) rfl ⟨_, ?_, .inr ⟨rfl, F, hF, rfl⟩⟩
          simp only [Instr.indexAt, Sem.run_bind, equal_run P w _ _ hd, Result.andThen_ok, e, ei, asIntOf, Sem.run_pure, Instr.sureAddr]
          simp [h1, h2, sizeA_ok (w := w) hsz, addr_add, Nat.add_assoc]
      · cases h
    · cases h
  case load ty x =>
    split at h
    · rename_i nl id idx off ag n hx hag hsz
      split at h
      · rename_i own live c hc
        split at h
        · rename_i q cs d' hg
          split at h
          · rename_i u hu
            cases h
            obtain ⟨h0, h1, h2⟩ := hp
            obtain ⟨num, cc, F, hb, rfl, hlt, hF, hwf, hat, _⟩ := contAt_ok r hc h1
            rcases cellOf_ok ht hx with ⟨h3, _⟩ | ⟨_, F', hF', e⟩
            · rw [h0] at h3; cases h3
            · rw [hF] at hF'
              cases hF'
              obtain ⟨y, hy, hr⟩ := loadVar_ok (P := P) hat hag hsz hg h2 hu
              refine pure_of (s := Instr.loadAt ty (a.eval x)) rfl ⟨y, ?_, hr⟩
              simp only [Instr.loadAt, Sem.run_bind, e, Instr.sureAddr, Sem.run_pure, Result.andThen_ok, hy]
          · cases h
        · cases h
      · cases h
    · cases h
  case build ty parts =>
    split at h
    · rename_i u hu
      cases h
      exact pure_of rfl (buildA_ok ht hu)
    · cases h
  case call c =>
    obtain ⟨callee, args, argTypes⟩ := c
    simp only at h
    split at h
    · split at h
      · rename_i x ty h1 h2
        split at h
        · rename_i u hu
          split at h
          · rename_i n hn
            cases h
            have e1 : args = #[x] := by simpa using congrArg List.toArray h1
            have e2 : argTypes = #[ty] := by simpa using congrArg List.toArray h2
            subst e1 e2
            refine ⟨_, ?_, rfl⟩
            have := lenA_ok (w := w) (rt := type) hn (opnd_ok ht hu)
            simp [execOp, resolve, invoke, builtin, this]
          · cases h
        · cases h
      · cases h
    · split at h
      · rename_i x l hl
        split at h
        · rename_i y hy
          cases h
          have hc := listA_ok ht hl
          cases ha : args.toList with
          | nil => rw [ha] at hc; exact hc.elim
          | cons z zs =>
            rw [ha] at hc
            obtain ⟨u, hu, hr⟩ := foldA_ok (P := P) (w := w) minA_ok hc.2 hc.1 hy
            refine ⟨u, ?_, hr⟩
            have e : args = (z :: zs).toArray := by simpa using congrArg List.toArray ha
            subst e
            simp [execOp, resolve, invoke, builtin, Builtin.min_, hu]
        · cases h
      · cases h
    · split at h
      · rename_i x l hl
        split at h
        · rename_i y hy
          cases h
          have hc := listA_ok ht hl
          cases ha : args.toList with
          | nil => rw [ha] at hc; exact hc.elim
          | cons z zs =>
            rw [ha] at hc
            obtain ⟨u, hu, hr⟩ := foldA_ok (P := P) (w := w) maxA_ok hc.2 hc.1 hy
            refine ⟨u, ?_, hr⟩
            have e : args = (z :: zs).toArray := by simpa using congrArg List.toArray ha
            subst e
            simp [execOp, resolve, invoke, builtin, Builtin.max_, hu]
        · cases h
      · cases h
    · cases h
end
end Go.Proofs.Ytnoonoghemgbbaa.Sx
