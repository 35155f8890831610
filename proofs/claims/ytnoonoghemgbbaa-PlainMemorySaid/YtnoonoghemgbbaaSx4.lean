/-
  A symbolic evaluator over the model's code: part 4: what an operation answers that turns no memory is what the model answers.
-/
import Derived.Test.YtnoonoghemgbbaaSx3
set_option linter.unusedVariables false
set_option linter.unusedSimpArgs false
namespace Go.Proofs.Ytnoonoghemgbbaa.Sx
open Go

def TR (ρ : Map) (t : List AV) (a : Act) : Prop := All2 (RV ρ) t a.tmps.toList

theorem ofV1_ok {ρ : Map} {v : Value} {c : Cell} (h : ofV1 v = some c) : RC ρ c v := by
  unfold ofV1 at h
  split at h <;> first
    | (cases h; done)
    | (cases h; first | rfl | exact .inl ⟨rfl, rfl⟩ | exact .inl ⟨rfl, rfl, rfl⟩)

theorem ofVs_ok {ρ : Map} : ∀ {l : List Value} {cs : List Cell}, ofVs l = some cs → All2 (RC ρ) cs l
  | [], cs, h => by simp [ofVs] at h; subst h; trivial
  | v :: l, cs, h => by
    unfold ofVs at h
    split at h
    · rename_i c cs' h1 h2
      cases h
      exact ⟨ofV1_ok h1, ofVs_ok h2⟩
    · cases h

theorem ofV_ok {ρ : Map} {v : Value} {x : AV} (h : ofV v = some x) : RV ρ x v := by
  unfold ofV at h
  split at h
  · rename_i cs
    split at h
    · rename_i l hl
      cases h
      exact ⟨cs.toList, by simp, ofVs_ok hl⟩
    · cases h
  · rename_i vs
    split at h
    · rename_i hl
      cases h
      exact ⟨[], by simpa using congrArg List.toArray hl, trivial⟩
    · cases h
  · split at h
    · rename_i c hc
      cases h
      exact ofV1_ok hc
    · cases h

theorem opnd_ok {ρ : Map} {t : List AV} {a : Act} (ht : TR ρ t a) {x : Operand} {v : AV} (h : opnd t x = some v) : RV ρ v (a.eval x) := by
  cases x with
  | tmp i =>
    obtain ⟨b, hb, hr⟩ := All2.get ht ((nth_eq t i).symm.trans h)
    have : a.eval (.tmp i) = b := by
      simp only [Act.eval]
      rw [Array.getD_eq_getD_getElem?, ← Array.getElem?_toList, hb]; rfl
    rw [this]; exact hr
  | const v => exact ofV_ok h
  | func f => cases h; exact ⟨[], rfl, trivial⟩
  | global g => cases h

theorem cellOf_ok {ρ : Map} {t : List AV} {a : Act} (ht : TR ρ t a) {x : Operand} {c : Cell} (h : cellOf t x = some c) : RC ρ c (a.eval x) := by
  unfold cellOf at h
  split at h
  · rename_i c' hc
    cases h
    exact opnd_ok ht hc
  · cases h

theorem kindEq_ok {a b : IntKind} (h : kindEq a b = true) : a = b := by cases a <;> cases b <;> first | rfl | cases h

theorem intBin_ok (op : BinOp) (k : IntKind) (x y : Int) (p : Cd) (c : Cell) (h : intBin op k x y = some (p, c)) (hp : p) {ρ : Map} (P : Program) (w : World) (ty : TypeId) :
    ∃ v, (binOp op ty (.int k x) (.int k y)).run P w = .ok v w ∧ RC ρ c v := by
  cases op <;> simp only [intBin, Option.some.injEq, Prod.mk.injEq, reduceCtorEq] at h
  all_goals
    obtain ⟨rfl, rfl⟩ := h
    refine ⟨_, ?_, rfl⟩
    simp only [cd] at hp
    simp [binOp, Op.intArith, Op.intDiv, Op.intBits, Op.intCmp, hp]

theorem shiftBin_ok (op : BinOp) (k k' : IntKind) (x y : Int) (p : Cd) (c : Cell) (h : shiftBin op k x y = some (p, c)) (hp : p) {ρ : Map} (P : Program) (w : World) (ty : TypeId) :
    ∃ v, (binOp op ty (.int k x) (.int k' y)).run P w = .ok v w ∧ RC ρ c v := by
  cases op <;> simp only [shiftBin, Option.some.injEq, Prod.mk.injEq, reduceCtorEq] at h
  all_goals
    obtain ⟨rfl, rfl⟩ := h
    refine ⟨_, ?_, rfl⟩
    simp [binOp, Op.shift, show ¬ y < 0 by omega]

theorem bytes_list (l : List UInt8) : (⟨l.toArray⟩ : ByteArray).toList = l := by
  have h : ∀ (b : ByteArray) (n i : Nat) (acc : List UInt8), b.size - i = n → ByteArray.toList.loop b i acc = acc.reverse ++ b.data.toList.drop i := by
    intro b n
    have hs : b.size = b.data.toList.length := (Array.length_toList).symm
    induction n with
    | zero =>
      intro i acc h
      unfold ByteArray.toList.loop
      rw [if_neg (by omega), List.drop_eq_nil_of_le (by omega)]
      simp
    | succ n ih =>
      intro i acc h
      unfold ByteArray.toList.loop
      rw [if_pos (by omega), ih (i + 1) _ (by omega)]
      have hi : i < b.data.toList.length := by omega
      rw [List.drop_eq_getElem_cons hi]
      have e : b.get! i = b.data.toList[i] := by
        simp only [ByteArray.get!]
        rw [getElem!_pos b.data i (by simpa using hi)]
        simp
      simp [e]
  unfold ByteArray.toList
  rw [h _ _ 0 [] rfl]; simp

theorem strBin_ok (op : BinOp) (x y : List UInt8) (p : Cd) (c : Cell) (h : strBin op x y = some (p, c)) (hp : p) {ρ : Map} (P : Program) (w : World) (ty : TypeId) :
    ∃ v, (binOp op ty (.string ⟨x.toArray⟩) (.string ⟨y.toArray⟩)).run P w = .ok v w ∧ RC ρ c v := by
  cases op <;> simp only [strBin, Option.some.injEq, Prod.mk.injEq, reduceCtorEq] at h
  all_goals
    obtain ⟨rfl, rfl⟩ := h
    refine ⟨_, ?_, rfl⟩
  · have e1 : (⟨x.toArray⟩ : ByteArray) ++ ⟨y.toArray⟩ = ⟨(x ++ y).toArray⟩ := by
      apply ByteArray.ext
      simp
    have e2 : IntKind.i64.max = 9223372036854775807 := by decide
    have e3 : ByteArray.size ⟨x.toArray⟩ = x.length := by simp [ByteArray.size]
    have e4 : ByteArray.size ⟨y.toArray⟩ = y.length := by simp [ByteArray.size]
    have hn : ¬ (((x.length + y.length : Nat) : Int) > 9223372036854775807) := by omega
    simp only [binOp, Op.stringOp, e1, e2, e3, e4, if_neg hn]
    rfl
  · simp [binOp, Op.stringOp, bytes_list]
  · simp [binOp, Op.stringOp, bytes_list]

/-- What a cell may stand for, as far as '==' asks. -/
def flat : Value → Bool
  | .nilIface => false
  | .agg _ => false
  | _ => true

theorem RC.flat {ρ : Map} {c : Cell} {v : Value} (h : RC ρ c v) : flat v = true := by
  cases c with
  | ptr nl id idx off => rcases h with ⟨_, rfl⟩ | ⟨_, F, _, rfl⟩ <;> rfl
  | slice nl id idx off len cap sz => rcases h with ⟨_, _, rfl⟩ | ⟨_, F, r, _, rfl, _⟩ <;> rfl
  | func f caps => obtain ⟨vs, rfl, _⟩ := h; rfl
  | map nl id idx => rcases h with ⟨_, rfl⟩ | ⟨_, F, _, rfl⟩ <;> rfl
  | yld id => obtain ⟨F, _, rfl⟩ := h; rfl
  | bool b => cases h; rfl
  | int k n => cases h; rfl
  | str l => cases h; rfl
  | empty => obtain ⟨a, c, rfl⟩ := h; rfl
  | nilFunc => cases h; rfl
  | anyp => obtain ⟨p, rfl⟩ := h; rfl

theorem eqGuard_ok (P : Program) (w : World) (op : BinOp) (t : TypeId) (x y : Operand) {v u : Value} (hv : flat v = true) (hu : flat u = true) :
    (eqGuard op t x y v u).run P w = .ok () w := by
  unfold eqGuard
  simp only [bind, Sem.bind]
  split
  · cases v <;> first
      | (cases hv; done)
      | rfl
      | (cases u <;> rfl)
  · cases v <;> first
      | (cases hv; done)
      | rfl
      | (cases u <;> rfl)
  · rfl

theorem equal_run (P : Program) (w : World) (t : TypeId) (d : TypeDesc) (hd : P.underlying t = some d) : (underlying t).run P w = .ok d w := by
  simp [underlying, hd]

theorem eq_of (P : Program) (w : World) (ty : TypeId) (d : TypeDesc) (hd : P.underlying ty = some d) (x y : Value) (b : Bool)
    (h : ∀ n, (Op.equalIn (n + 1) ty x y).run P w = .ok b w) (he : ∀ op, (op = .eql ∨ op = .neq) → binOp op ty x y = (if op = .eql then (do pure (.bool (← Op.equal ty x y))) else (do pure (.bool (!(← Op.equal ty x y)))))) :
    (binOp .eql ty x y).run P w = .ok (.bool b) w ∧ (binOp .neq ty x y).run P w = .ok (.bool !b) w := by
  have h1 : (Op.equal ty x y).run P w = .ok b w := h 9999
  constructor
  · rw [he _ (.inl rfl), if_pos rfl]; simp only [Sem.run_bind, h1, Result.andThen_ok]; rfl
  · rw [he _ (.inr rfl), if_neg (by decide)]; simp only [Sem.run_bind, h1, Result.andThen_ok]; rfl

theorem eqlNil_ok {ρ : Map} {P : Program} {w : World} {op : BinOp} {ty : TypeId} {b : Bool} {c : Cell} {p : Cd} {x y : Value} (h : eqlNil op b = some (p, c))
    (hh : (binOp .eql ty x y).run P w = .ok (.bool b) w ∧ (binOp .neq ty x y).run P w = .ok (.bool !b) w) : ∃ r, (binOp op ty x y).run P w = .ok r w ∧ RC ρ c r := by
  cases op <;> simp only [eqlNil, Option.some.injEq, Prod.mk.injEq, reduceCtorEq] at h
  · obtain ⟨_, rfl⟩ := h; exact ⟨_, hh.1, rfl⟩
  · obtain ⟨_, rfl⟩ := h; exact ⟨_, hh.2, rfl⟩

theorem binA_ok {ρ : Map} {P : Program} {w : World} {op : BinOp} {ty : TypeId} {a b c : Cell} {p : Cd} (h : binA P op ty a b = some (p, c)) (hp : p) {v u : Value} (hv : RC ρ a v) (hu : RC ρ b u) :
    ∃ r, (binOp op ty v u).run P w = .ok r w ∧ RC ρ c r := by
  unfold binA at h
  try simp only [nth_eq, setL_eq, und_eq, inf_eq] at h
  split at h
  · cases hv; cases hu
    split at h
    · exact shiftBin_ok _ _ _ _ _ _ _ h hp P w ty
    · split at h
      · rename_i hk
        cases kindEq_ok hk
        exact intBin_ok _ _ _ _ _ _ h hp P w ty
      · cases h
  · cases hv; cases hu
    exact strBin_ok _ _ _ _ _ h hp P w ty
  · cases hv; cases hu
    rename_i x y
    split at h
    · rename_i hd
      have hh := eq_of P w ty _ hd (.bool x) (.bool y) (x == y) (fun n => by unfold Op.equalIn; simp only [Sem.run_bind, equal_run P w _ _ hd, Result.andThen_ok]; rfl) (fun op ho => by rcases ho with rfl | rfl <;> rfl)
      split at h
      · cases h; exact ⟨_, hh.1, rfl⟩
      · cases h; exact ⟨_, hh.2, rfl⟩
      · cases h
    · cases h
  · rename_i nl id idx off len cap sz id' idx' off' len' cap' sz'
    rcases hu with ⟨_, _, rfl⟩ | ⟨h0, _⟩
    · split at h
      · rename_i e hd
        have hn : ∃ bs n m, v = .slice bs n m ∧ bs.isNone = nl := by
          rcases hv with ⟨rfl, _, rfl⟩ | ⟨rfl, F, r, _, rfl, _⟩
          · exact ⟨_, _, _, rfl, rfl⟩
          · exact ⟨_, _, _, rfl, rfl⟩
        obtain ⟨bs, n, m, rfl, rfl⟩ := hn
        refine eqlNil_ok h (eq_of P w ty _ hd _ _ _ (fun n => ?_) (fun op ho => by rcases ho with rfl | rfl <;> rfl))
        unfold Op.equalIn
        simp only [Sem.run_bind, equal_run P w _ _ hd, Result.andThen_ok]
        cases bs <;> rfl
      · cases h
    · cases h0
  · rename_i id' idx' off' len' cap' sz'
    rcases hu with ⟨_, _, rfl⟩ | ⟨h0, _⟩
    · split at h
      · rename_i e hd
        obtain ⟨x, y, rfl⟩ := hv
        refine eqlNil_ok h (eq_of P w ty _ hd _ _ _ (fun n => ?_) (fun op ho => by rcases ho with rfl | rfl <;> rfl))
        unfold Op.equalIn
        simp only [Sem.run_bind, equal_run P w _ _ hd, Result.andThen_ok]
        rfl
      · cases h
    · cases h0
  · rename_i nl id idx off id' idx' off'
    rcases hu with ⟨_, rfl⟩ | ⟨h0, _⟩
    · split at h
      · rename_i e hd
        have hn : ∃ bs, v = .pointer bs ∧ bs.isNone = nl := by
          rcases hv with ⟨rfl, rfl⟩ | ⟨rfl, F, _, rfl⟩
          · exact ⟨_, rfl, rfl⟩
          · exact ⟨_, rfl, rfl⟩
        obtain ⟨bs, rfl, rfl⟩ := hn
        refine eqlNil_ok h (eq_of P w ty _ hd _ _ _ (fun n => ?_) (fun op ho => by rcases ho with rfl | rfl <;> rfl))
        unfold Op.equalIn
        simp only [Sem.run_bind, equal_run P w _ _ hd, Result.andThen_ok]
        cases bs <;> rfl
      · cases h
    · cases h0
  · cases hu
    obtain ⟨vs, rfl, _⟩ := hv
    split at h
    · rename_i hd
      refine eqlNil_ok h (eq_of P w ty _ hd _ _ _ (fun n => ?_) (fun op ho => by rcases ho with rfl | rfl <;> rfl))
      unfold Op.equalIn
      simp only [Sem.run_bind, equal_run P w _ _ hd, Result.andThen_ok]
      rfl
    · cases h
  · cases hu; cases hv
    split at h
    · rename_i hd
      refine eqlNil_ok h (eq_of P w ty _ hd _ _ _ (fun n => ?_) (fun op ho => by rcases ho with rfl | rfl <;> rfl))
      unfold Op.equalIn
      simp only [Sem.run_bind, equal_run P w _ _ hd, Result.andThen_ok]
      rfl
    · cases h
  · cases h

theorem unA_ok {ρ : Map} {P : Program} {w : World} {op : UnOp} {a c : Cell} (h : unA op a = some c) {v : Value} (hv : RC ρ a v) : ∃ r, (Op.unary op v).run P w = .ok r w ∧ RC ρ c r := by
  unfold unA at h
  split at h <;> first
    | (cases h; cases hv; exact ⟨_, by simp [Op.unary, Op.intArith, Op.intBits], rfl⟩)
    | cases h

theorem convA_ok {ρ : Map} {P : Program} {w : World} {s d : TypeId} {a c : Cell} (h : convA P s d a = some c) {v : Value} (hv : RC ρ a v) : ∃ r, (convert s d v).run P w = .ok r w ∧ RC ρ c r := by
  unfold convA at h
  try simp only [nth_eq, setL_eq, und_eq, inf_eq] at h
  split at h
  · rename_i x k n hs hd
    cases h; cases hv
    refine ⟨_, ?_, rfl⟩
    simp [convert, equal_run P w _ _ hs, equal_run P w _ _ hd, Conv.intToInt]
  · rename_i x l hs hd
    cases h; cases hv
    refine ⟨_, ?_, rfl⟩
    simp [convert, equal_run P w _ _ hs, equal_run P w _ _ hd]
  · cases h

theorem isAggA_ok {P : Program} {w : World} {t : TypeId} {b : Bool} (h : isAggA P t = some b) : (isAgg t).run P w = .ok b w := by
  unfold isAggA at h
  try simp only [nth_eq, setL_eq, und_eq, inf_eq] at h
  cases hd : P.underlying t with
  | none => rw [hd] at h; cases h
  | some d =>
    rw [hd] at h
    simp only [isAgg, Sem.run_bind, equal_run P w _ _ hd, Result.andThen_ok]
    cases d <;> (cases h; rfl)

theorem sizeA_ok {P : Program} {w : World} {t : TypeId} {n : Nat} (h : sizeA P t = some n) : (sizeOf t).run P w = .ok n w := by
  unfold sizeA at h
  try simp only [nth_eq, setL_eq, und_eq, inf_eq] at h
  split at h
  · rename_i i hi; cases h; simp [sizeOf, typeInfo, hi]
  · cases h

theorem partA_ok {ρ : Map} {P : Program} {w : World} {t : TypeId} {cs : List Cell} {vs : List Value} {off : Nat} {v : AV} (h : partA P t cs off = some v) (hc : All2 (RC ρ) cs vs) :
    ∃ r, (part t vs.toArray off).run P w = .ok r w ∧ RV ρ v r := by
  unfold partA at h
  try simp only [nth_eq, setL_eq, und_eq, inf_eq] at h
  split at h
  · rename_i n h1 h2
    cases h
    refine ⟨.agg ((vs.drop off).take n).toArray, ?_, _, rfl, (hc.drop off).take n⟩
    simp only [part, Sem.run_bind, isAggA_ok (w := w) h1, sizeA_ok (w := w) h2, Result.andThen_ok, if_true]
    simp [List.extract_eq_take_drop]
  · rename_i h1 h2
    split at h
    · rename_i c hc'
      cases h
      obtain ⟨b, hb, hr⟩ := hc.get hc'
      exact ⟨b, by simp [part, isAggA_ok (w := w) h1, hb], hr⟩
    · cases h
  · cases h
end Go.Proofs.Ytnoonoghemgbbaa.Sx
