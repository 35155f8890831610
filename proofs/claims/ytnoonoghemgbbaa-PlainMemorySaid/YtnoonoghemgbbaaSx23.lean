/-
  A symbolic evaluator over the model's code: part 23: summaries by canonical form: the blocks that are reached, numbered as they are met.
-/
import Derived.Test.YtnoonoghemgbbaaSx22
set_option linter.unusedVariables false
set_option linter.unusedSimpArgs false
namespace Go.Proofs.Ytnoonoghemgbbaa.Sx
open Go
noncomputable section

/-- Back from the great heap to the small one. -/
def bk (θ : List Nat) (i : Nat) : Nat := match Nat.ble 1000000000 i with
  | true => i
  | false => posOf i θ 0

def knows (θ : List Nat) (i : Nat) : Bool := Nat.ble 1000000000 i || Nat.blt (posOf i θ 0) θ.length

def idsCont : Cont → List Nat
  | .raw cs => cs.flatMap idsC
  | .ints _ _ => []
  | .fam _ _ _ => []

def plainCont : Cont → Bool
  | .fam _ _ _ => false
  | _ => true

def normCont : Cont → Cont
  | .raw (.int k n :: cs) => match colInts k (.int k n :: cs) with
    | some l => .ints k l
    | none => .raw (.int k n :: cs)
  | c => c

section
variable {D : Type}

def reachA (H : Heap D) : Nat → List Nat → List Nat → List Nat
  | 0, _, seen => seen
  | _ + 1, [], seen => seen
  | n + 1, id :: todo, seen => match seen.any (Nat.beq id) with
    | true => reachA H n todo seen
    | false => match H[id]? with
      | some (some (.cells _ 1 c)) => reachA H n (todo ++ idsCont (c 0)) (seen ++ [id])
      | some (some (.obj _)) => reachA H n todo (seen ++ [id])
      | _ => reachA H n todo seen

/-- A small heap, as it is looked at. -/
abbrev View := List (Bool × Cont)
def ofView (D : Type) : View → Heap D
  | [] => []
  | (own, c) :: l => some (.cells own 1 fun _ => c) :: ofView D l

def smallH (θ : List Nat) (H : Heap D) : List Nat → Option View
  | [] => some []
  | id :: l => match H[id]? with
    | some (some (.cells own 1 c)) => match plainCont (c 0) && (idsCont (c 0)).all (knows θ) with
      | true => match smallH θ H l with
        | some m => some ((own, normCont (renCont (bk θ) (c 0))) :: m)
        | none => none
      | false => none
    | _ => none

def distinctL : List Nat → Bool
  | [] => true
  | x :: l => !(l.any (Nat.beq x)) && distinctL l

def canonA (args : List AV) (H : Heap D) : Option (List Nat × (List AV × View)) :=
  let θ := reachA H 64 (args.flatMap idsV) []
  match distinctL θ && (Nat.ble θ.length 1000000000 && (args.flatMap idsV).all (knows θ)) with
  | true => match smallH θ H θ with
    | some Hc => some (θ, (args.map (renV (bk θ)), Hc))
    | none => none
  | false => none

def canonFind (g : List AV → View → Option (List (Way D))) (args : List AV) (H : Heap D) : Option (List Nat × (List AV × View)) :=
  match canonA args H with
  | some (θ, x) => match g x.1 x.2 with
    | some _ => some (θ, x)
    | none => none
  | none => none

def canonWays (g : List AV → View → Option (List (Way D))) (x : List AV × View) : List (Way D) := match g x.1 x.2 with
  | some l => l
  | none => []

/-- A summary by canonical form. -/
def canonSum (g : List AV → View → Option (List (Way D))) : Sum D := mkSum (canonFind g) (canonWays g)

theorem posOf_spec (j : Nat) : ∀ (l : List Nat) (k : Nat), posOf j l k < k + l.length → k ≤ posOf j l k ∧ l[posOf j l k - k]? = some j
  | [], k, h => by simp [posOf] at h
  | x :: l, k, h => by
    unfold posOf at h ⊢
    cases hb : Nat.beq x j with
    | true => simp only [hb] at h ⊢; exact ⟨Nat.le_refl _, by simp [Nat.eq_of_beq_eq_true hb]⟩
    | false =>
      simp only [hb] at h ⊢
      obtain ⟨h1, h2⟩ := posOf_spec j l (k + 1) (by simp only [List.length_cons] at h; omega)
      refine ⟨by omega, ?_⟩
      rw [show posOf j l (k + 1) - k = (posOf j l (k + 1) - (k + 1)) + 1 by omega, List.getElem?_cons_succ]
      exact h2

theorem rid_bk {θ : List Nat} {n i : Nat} (hθ : θ.length ≤ 1000000000) (h : knows θ i = true) : rid θ n (bk θ i) = i := by
  unfold bk
  unfold knows at h
  cases hb : Nat.ble 1000000000 i with
  | true =>
    simp only
    have := Nat.le_of_ble_eq_true hb
    unfold rid
    rw [List.getElem?_eq_none (by omega)]
    simp only [hb]
  | false =>
    simp only [hb, Bool.false_or, Nat.blt_eq] at h ⊢
    obtain ⟨_, h2⟩ := posOf_spec i θ 0 (by omega)
    rw [Nat.sub_zero] at h2
    unfold rid
    rw [h2]

theorem renC_back {f g : Nat → Nat} {q : Nat → Bool} (hfg : ∀ i, q i = true → f (g i) = i) {c : Cell} (h : (idsC c).all q = true) : renC f (renC g c) = c := by
  cases c with
  | ptr nl id idx off => simp only [idsC, List.all_cons, List.all_nil, Bool.and_true] at h; simp only [renC, hfg _ h]
  | slice nl id idx off len cap sz => simp only [idsC, List.all_cons, List.all_nil, Bool.and_true] at h; simp only [renC, hfg _ h]
  | map nl id idx => simp only [idsC, List.all_cons, List.all_nil, Bool.and_true] at h; simp only [renC, hfg _ h]
  | yld id => simp only [idsC, List.all_cons, List.all_nil, Bool.and_true] at h; simp only [renC, hfg _ h]
  | func k caps =>
    simp only [renC, Cell.func.injEq, true_and]
    simp only [idsC] at h
    induction caps with
    | nil => rfl
    | cons p l ih =>
      simp only [List.map_cons, List.all_cons, Bool.and_eq_true] at h
      simp only [List.map_cons]
      rw [ih h.2, hfg _ h.1]
  | bool b => rfl
  | int k n => rfl
  | str l => rfl
  | empty => rfl
  | nilFunc => rfl
  | anyp => rfl

theorem map_back {α : Type} {f g : α → α} {ids : α → List Nat} {q : Nat → Bool} (hg : ∀ a, (ids a).all q = true → f (g a) = a) : ∀ {l : List α}, (l.flatMap ids).all q = true → (l.map g).map f = l
  | [], _ => rfl
  | a :: l, h => by
    simp only [List.flatMap_cons, List.all_append, Bool.and_eq_true] at h
    rw [List.map_cons, List.map_cons, hg a h.1, map_back hg h.2]

theorem ren1_back {f g : Nat → Nat} {q : Nat → Bool} (hfg : ∀ i, q i = true → f (g i) = i) {c : AV1} (h : (ids1 c).all q = true) : ren1 f (ren1 g c) = c := by
  cases c with
  | cell c => simp only [ren1, renC_back hfg h]
  | agg cs => simp only [ren1, map_back (fun _ => renC_back hfg) h]

theorem renV_back {f g : Nat → Nat} {q : Nat → Bool} (hfg : ∀ i, q i = true → f (g i) = i) {c : AV} (h : (idsV c).all q = true) : renV f (renV g c) = c := by
  cases c with
  | cell c => simp only [renV, renC_back hfg h]
  | agg cs => simp only [renV, map_back (fun _ => renC_back hfg) h]
  | tup l => simp only [renV, map_back (fun _ => ren1_back hfg) h]
  | junk => rfl

theorem colInts_ren {f : Nat → Nat} {k : IntKind} : ∀ {cs : List Cell} {l : List Int}, colInts k cs = some l → cs.map (renC f) = cs
  | [], _, _ => rfl
  | .int k' n :: cs, l, h => by
    simp only [colInts] at h
    split at h
    · rename_i ns _ h2
      rw [List.map_cons, colInts_ren h2]; rfl
    · cases h
  | .bool _ :: _, _, h => by cases h
  | .str _ :: _, _, h => by cases h
  | .ptr .. :: _, _, h => by cases h
  | .slice .. :: _, _, h => by cases h
  | .empty :: _, _, h => by cases h
  | .func .. :: _, _, h => by cases h
  | .nilFunc :: _, _, h => by cases h
  | .anyp :: _, _, h => by cases h
  | .map .. :: _, _, h => by cases h
  | .yld .. :: _, _, h => by cases h

end

section
variable {D : Type}

theorem distinctL_ok : ∀ {l : List Nat}, distinctL l = true → l.Nodup
  | [], _ => List.nodup_nil
  | x :: l, h => by
    simp only [distinctL, Bool.and_eq_true] at h
    refine List.nodup_cons.2 ⟨fun hm => ?_, distinctL_ok h.2⟩
    have h1 : l.any (Nat.beq x) = false := by simpa using h.1
    rw [List.any_eq_false] at h1
    exact h1 x hm (Nat.beq_refl x)

theorem Weak.norm {own : Bool} {c : Nat → Cont} {θ : List Nat} {n : Nat} (hθ : θ.length ≤ 1000000000) (hp : plainCont (c 0) = true) (h : (idsCont (c 0)).all (knows θ) = true) :
    Weak (D := D) (.cells own 1 c) (renB (rid θ n) (.cells own 1 fun _ => normCont (renCont (bk θ) (c 0)))) := by
  have hback : renCont (rid θ n) (renCont (bk θ) (c 0)) = c 0 := by
    cases hc : c 0 with
    | raw cs =>
      rw [hc] at h
      simp only [renCont, map_back (fun _ => renC_back fun i => rid_bk (n := n) hθ) h]
    | ints k l => rfl
    | fam a b g => rw [hc] at hp; cases hp
  have stay : normCont (renCont (bk θ) (c 0)) = renCont (bk θ) (c 0) → Weak (D := D) (.cells own 1 c) (renB (rid θ n) (.cells own 1 fun _ => normCont (renCont (bk θ) (c 0)))) := by
    intro e
    refine ⟨rfl, fun _ => Iff.rfl, ?_⟩
    intro ρ w L idx hb hi
    have h0 : idx = 0 := by omega
    subst h0
    have := hb hi
    rw [e]
    simp only [hback]
    exact this
  cases hc : renCont (bk θ) (c 0) with
  | fam a b g =>
    rw [hc] at stay
    exact stay rfl
  | ints k l =>
    rw [hc] at stay
    exact stay rfl
  | raw cs =>
    match cs, hc with
    | [], hc => rw [hc] at stay; exact stay rfl
    | .int k x :: cs, hc =>
      cases hci : colInts k (.int k x :: cs) with
      | none =>
        rw [hc] at stay
        have e : normCont (.raw (.int k x :: cs)) = .raw (.int k x :: cs) := by simp only [normCont, hci]
        exact stay e
      | some l =>
        have e : normCont (.raw (.int k x :: cs)) = .ints k l := by simp only [normCont, hci]
        rw [e]
        have hc0 : c 0 = .raw (.int k x :: cs) := by
          rw [← hback, hc]
          have := colInts_ren (f := rid θ n) hci
          simp only [renCont, this]
        exact Weak.ints (k := k) (l := l) (fun i hi => by rw [show i = 0 by omega]; exact hc0) hci
    | .bool _ :: cs, hc => rw [hc] at stay; exact stay rfl
    | .str _ :: cs, hc => rw [hc] at stay; exact stay rfl
    | .ptr .. :: cs, hc => rw [hc] at stay; exact stay rfl
    | .slice .. :: cs, hc => rw [hc] at stay; exact stay rfl
    | .empty :: cs, hc => rw [hc] at stay; exact stay rfl
    | .func .. :: cs, hc => rw [hc] at stay; exact stay rfl
    | .nilFunc :: cs, hc => rw [hc] at stay; exact stay rfl
    | .anyp :: cs, hc => rw [hc] at stay; exact stay rfl
    | .map .. :: cs, hc => rw [hc] at stay; exact stay rfl
    | .yld .. :: cs, hc => rw [hc] at stay; exact stay rfl

theorem smallH_ok {θ : List Nat} {H : Heap D} (hθ : θ.length ≤ 1000000000) : ∀ {l : List Nat} {Hc : View}, smallH θ H l = some Hc → l.length = (ofView D Hc).length ∧
    ∀ (i j : Nat) (b : Option (Blk D)), l[i]? = some j → (ofView D Hc)[i]? = some b → j < H.length ∧ ∀ b0, b = some b0 → ∃ b', H[j]? = some (some b') ∧ Weak b' (renB (rid θ H.length) b0)
  | [], Hc, h => by
    simp only [smallH, Option.some.injEq] at h
    subst h
    exact ⟨rfl, fun i j b h => by simp at h⟩
  | id :: l, Hc, h => by
    unfold smallH at h
    split at h
    · rename_i own c hid
      split at h
      · rename_i hok
        rw [Bool.and_eq_true] at hok
        split at h
        · rename_i m hm
          cases h
          obtain ⟨h1, h2⟩ := smallH_ok hθ hm
          refine ⟨by simp [h1, ofView], fun i j b hj hb => ?_⟩
          cases i with
          | zero =>
            simp only [ofView, List.getElem?_cons_zero, Option.some.injEq] at hj hb
            subst hj hb
            exact ⟨(List.getElem?_eq_some_iff.1 hid).1, fun b0 e => by cases e; exact ⟨_, hid, Weak.norm hθ hok.1 hok.2⟩⟩
          | succ i => exact h2 i j b (by simpa using hj) (by simpa [ofView] using hb)
        · cases h
      · cases h
    · cases h

/-- A summary by canonical form is valid, if each of its ways is what the function does over the canonical heap. -/
theorem canonSum_valid {P : Program} {f : FuncId} {g : List AV → View → Option (List (Way D))}
    (h : ∀ args Hc l, g args Hc = some l → ∀ (k : Nat) (y : Way D), l[k]? = some y → VC.ok y.cond → CanOk P f (ofView D Hc) args y.v y.H y.low) : Valid P f (canonSum g) := by
  refine mkSum_valid (π := List AV × View) (fun x => ofView D x.2) (fun x => x.1) ?_ ?_
  · intro args H θ x hfew hf
    unfold canonFind at hf
    split at hf
    · rename_i θ' x' hc
      split at hf
      · rename_i l hg
        cases hf
        unfold canonA at hc
        simp only at hc
        split at hc
        · rename_i hb
          rw [Bool.and_eq_true, Bool.and_eq_true] at hb
          split at hc
          · rename_i Hc hs
            simp only [Option.some.injEq, Prod.mk.injEq] at hc
            obtain ⟨rfl, rfl⟩ := hc
            have hθ := Nat.le_of_ble_eq_true hb.2.1
            obtain ⟨h1, h2⟩ := smallH_ok hθ hs
            refine ⟨Part.of h1 hfew (distinctL_ok hb.1) h2, fun ρ as ha => ?_⟩
            simp only
            rw [map_back (ids := idsV) (q := knows _) (fun _ => renV_back fun i => rid_bk hθ) hb.2.2]
            exact ha
          · cases hc
        · cases hc
      · cases hf
    · cases hf
  · intro x k y hy hc
    unfold canonWays at hy
    split at hy
    · rename_i l hg
      exact h x.1 x.2 l hg k y hy hc
    · simp at hy
end
end
end Go.Proofs.Ytnoonoghemgbbaa.Sx
