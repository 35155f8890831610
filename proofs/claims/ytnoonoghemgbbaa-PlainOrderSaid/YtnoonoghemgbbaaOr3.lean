import Derived.Test.YtnoonoghemgbbaaOr2
import Derived.Laws.BytesArg
/-
  A symbolic evaluator over the model's code: part 11: copy, clear, texts and bytes; then all operations that turn memory.
-/
set_option linter.unusedVariables false
set_option linter.unusedSimpArgs false
namespace Go.Proofs.Ytnoonoghemgbbaa.Sx
open Go

section
variable {D : Type}

theorem copyA_ok {P : Program} {ρ : Map} {H H' : Heap D} {w : World} (r : Rel ρ H w) {ty tx rt : TypeId} {s x : Cell} {dec d : Dec} {p : Cd} {v : AV} {low : Nat}
    (h : copyA P H ty s x dec = some (p, v, H', low, d)) (hp : p) {sv xv : Value} (hsv : RC ρ s sv) (hxv : RC ρ x xv) : SemOk P ρ H w (Builtin.copy_ #[ty, tx] rt #[sv, xv]) v H' low := by
  unfold copyA at h
  try simp only [nth_eq, setL_eq, und_eq, inf_eq] at h
  split at h
  · rename_i e hd
    split at h
    · rename_i size hsz
      split at h
      · rename_i px cx n hx
        split at h
        · -- nothing
          rename_i d' nl id idx off len cap sz
          simp only [Option.some.injEq, Prod.mk.injEq] at h
          obtain ⟨rfl, rfl, rfl, rfl, rfl⟩ := h
          obtain ⟨h1, h2⟩ := hp
          simp only [cd] at h2
          obtain ⟨vs, hs⟩ := srcA_ok (P := P) r hx h1 hxv
          have hbase : ∃ base sCap, sv = .slice base len sCap := by
            rcases hsv with ⟨_, rfl, rfl⟩ | ⟨_, F, rr, hF, rfl, hr, hcap⟩
            · exact ⟨_, _, rfl⟩
            · exact ⟨_, _, rfl⟩
          obtain ⟨base, sCap, rfl⟩ := hbase
          have hf := hs.first w 0 (Nat.zero_le _) rfl
          refine ⟨.int .i64 0, ρ, w, ?_, Step.refl r _, rfl⟩
          simp only [Builtin.copy_, List.getElem?_toArray, List.getElem?_cons_zero, List.getElem?_cons_succ, Sem.run_bind, equal_run P w _ _ hd, Result.andThen_ok, hs.len w, sizeA_ok (w := w) hsz, h2, hf]
          cases base <;> simp [storeCells, goInt]
        · -- some
          rename_i d' nl id idx off len cap sz
          split at h
          · rename_i num cc hb
            split at h
            · rename_i q2 cy hcy
              split at h
              · rename_i q c ho
                simp only [Option.some.injEq, Prod.mk.injEq] at h
                obtain ⟨rfl, rfl, rfl, rfl, rfl⟩ := h
                obtain ⟨h1, h2, h3, rfl, rfl, h4⟩ := hp
                obtain ⟨vs, hs⟩ := srcA_ok (P := P) r hx h1 hxv
                obtain ⟨F, hF⟩ := r.mapAt hb
                obtain ⟨o1, o2, o3, o4⟩ := Cont.over_ok ho h2
                obtain ⟨s1, s2, s3, s4⟩ := Cont.sub_ok hcy h3 hs.wf
                rcases hsv with ⟨h0, _⟩ | ⟨_, F', rr, hF', rfl, hr, hcap⟩
                · cases h0
                rw [hF] at hF'; cases hF'
                have hmn : Nat.min n len ≤ n := Nat.min_le_left _ _
                have hf := hs.first w (Nat.min n len) hmn rfl
                have hvl : (vs.take (Nat.min n len * sz)).length = Nat.min n len * sz := by
                  rw [List.length_take, hs.vlen]
                  exact Nat.min_eq_left (Nat.mul_le_mul_right _ hmn)
                obtain ⟨w', hw', hst⟩ := write_ok (P := P) r hb hF h4 (off := off) (vs := vs.take (Nat.min n len * sz)) o1 o2 (by rw [hvl, ← s1]; exact o3) (fun u hu => hs.one u (List.mem_of_mem_take hu)) (fun j y hy => by
                  rw [hvl, ← s1]
                  rcases o4 j y hy with ⟨b1, b2, b3⟩ | b
                  · obtain ⟨u, hu, hr⟩ := hs.rel _ y (s4 _ y b3)
                    rw [Nat.zero_add] at hu
                    refine .inl ⟨b1, b2, u, ?_, hr⟩
                    rw [List.getElem?_take, if_pos (by omega)]; exact hu
                  · exact .inr b)
                refine ⟨.int .i64 (Nat.min n len), ρ, w', ?_, hst, rfl⟩
                simp only [Builtin.copy_, List.getElem?_toArray, List.getElem?_cons_zero, List.getElem?_cons_succ, Sem.run_bind, equal_run P w _ _ hd, Result.andThen_ok, hs.len w, sizeA_ok (w := w) hsz, hf, hw', Sem.run_pure]
                rfl
              · cases h
            · cases h
          · cases h
        · cases h
      · cases h
    · cases h
  · cases h

theorem clearA_ok {P : Program} {ρ : Map} {H H' : Heap D} {w : World} (r : Rel ρ H w) {ty rt : TypeId} {s : Cell} {dec d : Dec} {p : Cd} {v : AV} {low : Nat}
    (h : clearA P H ty s dec = some (p, v, H', low, d)) (hp : p) {sv : Value} (hsv : RC ρ s sv) : SemOk P ρ H w (Builtin.clear_ #[ty] rt #[sv]) v H' low := by
  unfold clearA at h
  try simp only [nth_eq, setL_eq, und_eq, inf_eq] at h
  split at h
  · rename_i e hd
    split at h
    · rename_i z hzz
      obtain ⟨it, zv, hit, hzv, hzr⟩ := zeroA_ok (ρ := ρ) hzz
      split at h
      · rename_i d' nl id idx off len cap sz
        simp only [Option.some.injEq, Prod.mk.injEq] at h
        obtain ⟨rfl, rfl, rfl, rfl, rfl⟩ := h
        subst hp
        refine ⟨.tuple #[], ρ, w, ?_, Step.refl r _, ⟨[], rfl, trivial⟩⟩
        rcases hsv with ⟨_, _, rfl⟩ | ⟨_, F, rr, hF, rfl, hr, hcap⟩ <;> simp [Builtin.clear_, equal_run P w _ _ hd]
      · rename_i d' nl id idx off len cap sz
        split at h
        · rename_i num cc k x hb
          split at h
          · rename_i q c ho
            simp only [Option.some.injEq, Prod.mk.injEq] at h
            obtain ⟨rfl, rfl, rfl, rfl, rfl⟩ := h
            obtain ⟨h1, rfl, h2, h3⟩ := hp
            obtain ⟨F, hF⟩ := r.mapAt hb
            obtain ⟨o1, o2, o3, o4⟩ := Cont.over_ok ho h1
            rcases hsv with ⟨h0, _⟩ | ⟨_, F', rr, hF', rfl, hr, hcap⟩
            · cases h0
            rw [hF] at hF'; cases hF'
            have hzl : zv.cells.toList = [.int k x] := by
              cases hq : zv.cells.toList with
              | nil => rw [hq] at hzr; exact hzr.elim
              | cons a l =>
                rw [hq] at hzr
                obtain ⟨ha, hl⟩ := hzr
                cases l with
                | nil => have : a = .int k x := ha
                         rw [this]
                | cons b m => exact hl.elim
            have hzc : Builtin.zeroCells zv.cells len = (List.replicate len (Value.int k x)).toArray := by
              have e1 : zv.cells = #[.int k x] := by simpa using congrArg List.toArray hzl
              rw [e1]
              simp only [Builtin.zeroCells]
              apply Array.toList_inj.1
              apply List.ext_getElem (by simp)
              intro i h1 h2
              simp [Nat.mod_one]
            obtain ⟨w', hw', hst⟩ := write_ok (P := P) r hb hF h2 (off := off) (vs := List.replicate len (Value.int k x)) o1 o2 (by simpa [Cont.len] using o3) (fun u hu => by rw [(List.mem_replicate.1 hu).2]; rfl) (fun j y hy => by
              rw [List.length_replicate]
              rcases o4 j y hy with ⟨b1, b2, m, hm, rfl⟩ | ⟨b1, b2⟩
              · rw [List.getElem?_replicate] at hm
                split at hm
                · cases hm
                  refine .inl ⟨b1, by simpa [Cont.len] using b2, _, ?_, rfl⟩
                  rw [List.getElem?_replicate, if_pos (by assumption)]
                · cases hm
              · exact .inr ⟨by simpa [Cont.len] using b1, b2⟩)
            refine ⟨.tuple #[], ρ, w', ?_, hst, ⟨[], rfl, trivial⟩⟩
            cases len with
            | zero => omega
            | succ len =>
              simp only [Builtin.clear_, List.getElem?_toArray, List.getElem?_cons_zero, Sem.run_bind, equal_run P w _ _ hd, Result.andThen_ok, zeroValue, typeInfo, run_program, hit, hzv, Sem.run_pure, hzc]
              rw [hw']
              rfl
          · cases h
        · cases h
      · cases h
    · cases h
  · cases h

theorem Src.ints {P : Program} {ρ : Map} {w : World} {v : Value} {l : List Int} {n : Nat} {vs : List Value} {k : IntKind} (h : Src P ρ w 1 v (.ints k l) n vs) : vs = l.map (Value.int k) := by
  have h1 := h.vlen
  have h2 : l.length = n * 1 := h.clen
  apply List.ext_getElem (by simp; omega)
  intro i a b
  have hi : i < l.length := by simpa using b
  obtain ⟨u, hu, hr⟩ := h.rel i (.int k l[i]) ⟨l[i], List.getElem?_eq_getElem hi, rfl⟩
  rw [List.getElem?_eq_getElem a] at hu
  cases hu
  have e : vs[i] = .int k l[i] := hr
  simp [e]

theorem foldl_push (l : List Int) (s : List UInt8) : l.foldl (fun r n => r.push (UInt8.ofNat n.toNat)) (⟨s.toArray⟩ : ByteArray) = ⟨(s ++ l.map fun n => UInt8.ofNat n.toNat).toArray⟩ := by
  induction l generalizing s with
  | nil => simp
  | cons n l ih =>
    simp only [List.foldl_cons, List.map_cons]
    have : (⟨s.toArray⟩ : ByteArray).push (UInt8.ofNat n.toNat) = ⟨(s ++ [UInt8.ofNat n.toNat]).toArray⟩ := by
      apply ByteArray.ext
      simp [ByteArray.push]
    rw [this, ih]
    simp

theorem toStr_ok {P : Program} {ρ : Map} {H : Heap D} {w : World} (r : Rel ρ H w) {s d e : TypeId} {c : Cell} {p : Cd} {cx : Cont} {l : List Int} {n : Nat} (hs : P.underlying s = some (.slice e)) (hd : P.underlying d = some .string) (he : P.underlying e = some (.int .u8))
    (hx : srcA H 1 c = some (p, cx, n)) (hsl : isSl c = true) (hc : ∀ j x, (Cont.ints .u8 l).At j x → cx.At j x) (hl : l.length = cx.len) (hp : p) (hn : l.length = n) {v : Value} (hv : RC ρ c v) :
    (convert s d v).run P w = .ok (.string ⟨(l.map fun n => UInt8.ofNat n.toNat).toArray⟩) w := by
  obtain ⟨vs, hsrc⟩ := srcA_ok (P := P) r hx hp hv
  have hsrc' : Src P ρ w 1 v (.ints .u8 l) n vs := ⟨hsrc.len, hsrc.vlen, by rw [← hsrc.clen, ← hl]; rfl, trivial, hsrc.one, fun j x hx => hsrc.rel j x (hc j x hx), hsrc.mem, hsrc.first⟩
  have hvs := hsrc'.ints
  have hlen := hsrc.len w
  have hfirst := hsrc.first w n (Nat.le_refl _) rfl
  rw [List.take_of_length_le (by rw [hsrc.vlen]; exact Nat.le_refl _)] at hfirst
  have key : ∀ a len cap, v = .slice (some a) len cap → (convert s d v).run P w = .ok (.string ⟨(l.map fun n => UInt8.ofNat n.toNat).toArray⟩) w := by
    rintro a len cap rfl
    have : len = n := by simpa [Builtin.lenOf] using hlen
    subst this
    rw [run_convert_bytes_string w s d e _ _ _ hs he hd, run_bytesToString w a len cap l (by
      rw [← hvs, ← hfirst]; simp [Builtin.firstCells])]
    have := foldl_push l []
    simp only [List.nil_append] at this
    rw [← this]; rfl
  unfold isSl at hsl
  split at hsl
  · rcases hv with ⟨_, rfl, rfl⟩ | ⟨_, F, rr, hF, rfl, _⟩
    · have : n = 0 := by simpa [Builtin.lenOf] using hlen.symm
      have hl0 : l = [] := List.eq_nil_of_length_eq_zero (by omega)
      subst hl0
      rw [run_convert_bytes_string w s d e _ _ _ hs he hd]
      simp [Conv.bytesToString]
      rfl
    · exact key _ _ _ rfl
  · rcases hv with rfl | ⟨a, k, rfl⟩
    · have : n = 0 := by simpa [Builtin.lenOf] using hlen.symm
      have hl0 : l = [] := List.eq_nil_of_length_eq_zero (by omega)
      subst hl0
      rw [run_convert_bytes_string w s d e _ _ _ hs he hd]
      simp [Conv.bytesToString]
      rfl
    · exact key _ _ _ rfl
  · cases hsl

theorem freeze_heap (w : World) (cs : Array Value) (e : TypeId) (k : Nat) (hk : k < w.heap.size) :
    ((w.alloc (.cells cs e)).freeze ⟨w.heap.size, cs.size, none⟩ 1).heap[k]? = w.heap[k]? ∧
    ((w.alloc (.cells cs e)).freeze ⟨w.heap.size, cs.size, none⟩ 1).heap[w.heap.size]? = some (.cells cs e (cs.size, cs.size + 1)) := by
  constructor
  · simp only [World.freeze, Nat.one_ne_zero, if_false, Array.getElem?_modify]
    rw [if_neg (by omega)]
    exact heap_alloc_old w _ k hk
  · simp only [World.freeze, Nat.one_ne_zero, if_false, Array.getElem?_modify, if_true]
    rw [heap_alloc_new w]
    rfl

theorem toBytes_ok {P : Program} {ρ : Map} {H : Heap D} {w : World} (r : Rel ρ H w) {e : TypeId} {l : List UInt8} (hl : (l.length : Int) ≤ 9223372036854775807) :
    SemOk P ρ H w (Conv.stringToBytes e ⟨l.toArray⟩) (.cell (.slice false H.length 0 0 l.length none 1)) (H ++ [some (.cells true 1 fun _ => .ints .u8 (l.map fun b => (b.toNat : Int)))]) H.length := by
  have hs : (⟨l.toArray⟩ : ByteArray).size = l.length := List.size_toArray
  let cap := grownCap w l.length 0 e
  have hcap : l.length ≤ cap := Nat.le_add_right _ _
  let arr : Array Value := l.toArray.map (fun b => Value.int .u8 b.toNat) ++ Array.replicate (cap - l.length) (.int .u8 0)
  have hsz : arr.size = cap := by simp [arr]; omega
  let w1 := w.drew
  let w2 := (w1.alloc (.cells arr e)).freeze ⟨w1.heap.size, arr.size, none⟩ 1
  have hrun : (Conv.stringToBytes e ⟨l.toArray⟩).run P w = .ok (.slice (some ⟨w1.heap.size, 0, none⟩) l.length cap) w2 := by
    have hch : (choose (.appendCap l.length 0 e)).run P w = .ok cap w1 := by simp [cap, w1, grownCap, Question.forced]
    have hsh : (w1.alloc (.cells arr e)).shape? w1.heap.size = some (e, arr.size) := by
      simp only [World.shape?]
      rw [heap_alloc_new w1]
    simp only [Conv.stringToBytes, Sem.run_bind, hs, hch, Result.andThen_ok, newRow, run_newObj, Sem.run_pure, markStringish, run_shape]
    have e1 : ({ w1 with heap := w1.heap.push (Obj.cells arr e) } : World) = w1.alloc (.cells arr e) := rfl
    show ((match (w1.alloc (.cells arr e)).shape? w1.heap.size with
      | some (_, n) => (freeze ⟨w1.heap.size, n, none⟩ 1 : Sem Unit)
      | _ => pure ()).run P (w1.alloc (.cells arr e))).andThen (fun _ w' => .ok (Value.slice (some ⟨w1.heap.size, 0, none⟩) l.length cap) w') = _
    rw [hsh]
    rfl
  have hnew := (freeze_heap w1 arr e)
  have hst : Step ρ H w1 H.length (ρ ++ [fun _ => ⟨w1.heap.size, 0, cap, fun k => k = w1.heap.size, default⟩]) (H ++ [some (.cells true 1 fun _ => .ints .u8 (l.map fun b => (b.toNat : Int)))]) w2 := by
    have hat : w2.heap[w1.heap.size]? = some (.cells arr e (arr.size, arr.size + 1)) := by
      simp only [w2, World.freeze, Nat.one_ne_zero, if_false, Array.getElem?_modify, if_true]
      rw [heap_alloc_new w1]
      rfl
    have hw2 : w2.heap.size = w1.heap.size + 1 := by
      simp only [w2, World.freeze, Nat.one_ne_zero, if_false, Array.size_modify, World.size_alloc]
    have hw1 : w.drew.heap.size = w1.heap.size := rfl
    refine Step.push r.drew _ _ rfl rfl rfl rfl (by omega) (fun k hk => (freeze_heap w1 arr e k hk).1) ?_ ?_ ?_
    · intro i hi
      refine ⟨trivial, fun _ => rfl, fun k hk => ?_, ?_, fun _ => ⟨fun k => Iff.rfl, by simpa [Cont.len] using hcap, arr, e, _, hat, by rw [hsz]; exact Nat.le_refl _, fun o ho h => by omega⟩⟩
      · have : k = w1.heap.size := hk
        omega
      · rintro j x ⟨m, hm, rfl⟩
        refine ⟨.int .u8 m, ?_, rfl⟩
        have hj : j < l.length := by have := (List.getElem?_eq_some_iff.1 hm).1; simpa using this
        simp only [World.cell?, hat, Nat.zero_add]
        simp only [arr]
        rw [List.getElem?_map, List.getElem?_eq_getElem hj] at hm
        simp at hm
        rw [Array.getElem?_append_left (by simpa using hj)]
        simp [hj, hm]
    · intro i k _ hk
      exact Nat.le_of_eq hk.symm
    · intro i j k hi hj hne
      have h1 : i < 1 := hi
      have h2 : j < 1 := hj
      omega
  have hst2 := (Step.drew r H.length).trans r hst
  rw [Nat.min_self] at hst2
  refine ⟨_, _, _, hrun, hst2, .inr ⟨rfl, _, cap, last_map r _, rfl, hcap, ?_⟩⟩
  simp

theorem sem_call {P : Program} {w w' : World} {a : Act} {b : Builtin} {args : Array Operand} {argTypes : Array TypeId} {dst : Option Tmp} {type : TypeId} {pos : String} {after : Array Edge} {guard : Option (Nat × Bool)} {s : Sem Value} {v : Value}
    (hb : ∀ c, builtin b argTypes type c (args.map a.eval) = (do pure (.value (← s)))) (hs : s.run P w = .ok v w') :
    (execOp a.eval ⟨dst, .call ⟨.builtin b, args, argTypes⟩, type, pos, after, guard⟩).run P w = .ok (.value v) w' := by
  simp only [execOp, resolve, Sem.run_bind, Sem.run_pure, Result.andThen_ok, invoke, hb, hs]

theorem memA_ok {P : Program} {ρ : Map} {H H' : Heap D} {w : World} {t : List AV} {a : Act} (r : Rel ρ H w) (ht : TR ρ t a) {dec d : Dec} {o : Oper} {p : Cd} {v : AV} {low : Nat}
    (h : memA P H t dec o.op = some (p, v, H', low, d)) (hp : p) : MemOk P ρ H w a o v H' low := by
  obtain ⟨dst, op, type, pos, after, guard⟩ := o
  simp only at h
  cases op <;> simp only [memA, nth_eq, setL_eq, und_eq, inf_eq, reduceCtorEq] at h
  case alloc e =>
    split at h
    · rename_i z hz
      simp only [Option.some.injEq, Prod.mk.injEq] at h
      obtain ⟨rfl, rfl, rfl, rfl, rfl⟩ := h
      exact mem_of rfl (alloc_ok r hz)
    · cases h
  case box e x =>
    split at h
    · rename_i z hz
      simp only [Option.some.injEq, Prod.mk.injEq] at h
      obtain ⟨rfl, rfl, rfl, rfl, rfl⟩ := h
      exact mem_of rfl (box_ok r ht hz)
    · cases h
  case buildSlice ty len parts =>
    split at h
    · rename_i e hd
      split at h
      · rename_i n z ps hn hz hps
        split at h
        · rename_i cs hcs
          simp only [Option.some.injEq, Prod.mk.injEq] at h
          obtain ⟨rfl, rfl, rfl, rfl, rfl⟩ := h
          obtain ⟨h1, h2, h3⟩ := hp
          exact mem_of rfl (buildSlice_ok r ht hd hn hz hps hcs h1 h2 h3)
        · cases h
      · cases h
    · cases h
  case makeSlice ty l c =>
    split at h
    · rename_i e k ln k' cp hd hl hc
      split at h
      · rename_i n b z hn hb hz
        simp only [Option.some.injEq, Prod.mk.injEq] at h
        obtain ⟨rfl, rfl, rfl, rfl, rfl⟩ := h
        obtain ⟨h1, h2, h3, h4, h5, h6⟩ := hp
        have e1 : a.eval l = .int k ln := cellOf_ok ht hl
        have e2 : a.eval c = .int k' cp := cellOf_ok ht hc
        refine mem_of (s := Instr.makeSlice ty (a.eval l) (a.eval c)) rfl ?_
        rw [e1, e2]
        exact makeSlice_ok r hd hn hb hz h1 h2 h3 h4 h5 h6
      · cases h
    · cases h
  case store ty x y =>
    split at h
    · rename_i nl id idx off xs n hx hy hn
      split at h
      · rename_i num cc hb
        split at h
        · rename_i q c hq
          simp only [Option.some.injEq, Prod.mk.injEq] at h
          obtain ⟨rfl, rfl, rfl, rfl, rfl⟩ := h
          obtain ⟨⟨h1, h2, h3⟩, h4⟩ := hp
          obtain ⟨w', hw', hs⟩ := store_ok (P := P) r ht hx hy hn hb hq h1 h2 h3 h4
          refine ⟨undef, ρ, w', .inr ⟨?_, rfl⟩, hs, ⟨[], rfl, trivial⟩⟩
          simp only [execOp, Sem.run_bind, hw', Result.andThen_ok, Sem.run_pure]
        · cases h
      · cases h
    · cases h
  case convert s d x =>
    split at h
    · rename_i e l hs hd hx
      split at h
      · rename_i he
        simp only [Option.some.injEq, Prod.mk.injEq] at h
        obtain ⟨rfl, rfl, rfl, rfl, rfl⟩ := h
        have e1 : a.eval x = .string ⟨l.toArray⟩ := cellOf_ok ht hx
        obtain ⟨rv, ρ', w', q1, q2, q3⟩ := toBytes_ok (P := P) r (e := e) hp
        refine mem_of (s := convert s d (a.eval x)) rfl ⟨rv, ρ', w', ?_, q2, q3⟩
        simp only [convert, Sem.run_bind, equal_run P w _ _ hs, equal_run P w _ _ hd, Result.andThen_ok, e1, equal_run P w _ _ he, q1]
      · cases h
    · rename_i e c hs hd hx
      split at h
      · rename_i q l n he hsrc hsl
        simp only [Option.some.injEq, Prod.mk.injEq] at h
        obtain ⟨rfl, rfl, rfl, rfl, rfl⟩ := h
        have := toStr_ok (P := P) (d := d) r hs hd he hsrc hsl (fun _ _ h => h) rfl hp.1 hp.2 (cellOf_ok ht hx)
        exact mem_of rfl ⟨_, ρ, w, this, Step.refl r _, rfl⟩
      · rename_i q cs n he hsrc hsl
        split at h
        · rename_i l hl
          simp only [Option.some.injEq, Prod.mk.injEq] at h
          obtain ⟨rfl, rfl, rfl, rfl, rfl⟩ := h
          have := toStr_ok (P := P) (d := d) r hs hd he hsrc hsl (fun _ _ h => colInts_at hl h) (by simp [Cont.len, colInts_len hl]) hp.1 hp.2 (cellOf_ok ht hx)
          exact mem_of rfl ⟨_, ρ, w, this, Step.refl r _, rfl⟩
        · cases h
      · cases h
    · cases h
  case call c =>
    obtain ⟨callee, args, argTypes⟩ := c
    simp only at h
    split at h
    · rename_i s x ty tx hargs htys
      have e1 : args = #[s, x] := by simpa using congrArg List.toArray hargs
      have e2 : argTypes = #[ty, tx] := by simpa using congrArg List.toArray htys
      subst e1 e2
      split at h
      · rename_i sc xc e' hs hx hd
        obtain ⟨rv, ρ', w', q1, q2, q3⟩ := appendA_ok (rt := type) r (.inl ⟨_, hd⟩) h hp (cellOf_ok ht hs) (cellOf_ok ht hx)
        exact ⟨rv, ρ', w', .inl (sem_call (fun c => by simp [builtin]) q1), q2, q3⟩
      · rename_i sc l hs hx hd
        obtain ⟨rv, ρ', w', q1, q2, q3⟩ := appendA_ok (rt := type) r (.inr hd) h hp (cellOf_ok ht hs) (cellOf_ok ht hx)
        exact ⟨rv, ρ', w', .inl (sem_call (fun c => by simp [builtin]) q1), q2, q3⟩
      · cases h
    · rename_i s x ty tx hargs htys
      have e1 : args = #[s, x] := by simpa using congrArg List.toArray hargs
      have e2 : argTypes = #[ty, tx] := by simpa using congrArg List.toArray htys
      subst e1 e2
      split at h
      · rename_i sc xc hs hx
        obtain ⟨rv, ρ', w', q1, q2, q3⟩ := copyA_ok (tx := tx) (rt := type) r h hp (cellOf_ok ht hs) (cellOf_ok ht hx)
        exact ⟨rv, ρ', w', .inl (sem_call (fun c => by simp [builtin]) q1), q2, q3⟩
      · cases h
    · rename_i s ty hargs htys
      have e1 : args = #[s] := by simpa using congrArg List.toArray hargs
      have e2 : argTypes = #[ty] := by simpa using congrArg List.toArray htys
      subst e1 e2
      split at h
      · rename_i sc hs
        obtain ⟨rv, ρ', w', q1, q2, q3⟩ := clearA_ok (rt := type) r h hp (cellOf_ok ht hs)
        exact ⟨rv, ρ', w', .inl (sem_call (fun c => by simp [builtin]) q1), q2, q3⟩
      · cases h
    · cases h
end
end Go.Proofs.Ytnoonoghemgbbaa.Sx

/-
  A symbolic evaluator over the model's code: part 12: regions, code, calls.
-/
set_option linter.unusedVariables false
set_option linter.unusedSimpArgs false
namespace Go.Proofs.Ytnoonoghemgbbaa.Sx
open Go
noncomputable section

inductive Ex where
  | normal
  | exit (id : Nat)
  | ret

def Ex.real : Ex → Exit
  | .normal => .normal
  | .exit id => .exit id
  | .ret => .ret

/-- Conditions, one by one. -/
abbrev VC := List Cd
def VC.ok : VC → Prop
  | [] => True
  | c :: l => c.p ∧ VC.ok l

abbrev ML (D : Type) := Option (VC × AV × Heap D × Nat × Dec)
abbrev Sum (D : Type) := List AV → Heap D → Dec → ML D
abbrev ER (D : Type) := Option (VC × Ex × List AV × Heap D × Nat × Dec)
abbrev RR (D : Type) := Option (VC × List AV × Heap D × Nat × Dec)
abbrev LSum (D : Type) := List AV → Heap D → Dec → ER D

def entersA (P : Program) (f : FuncId) : Bool :=
  match nth P.funcs.toList f with
  | some fn => match fn.body with
    | some _ => !(fn.name == "runtime.NumGoroutine")
    | none => false
  | none => false

def argsA (t : List AV) : List Operand → Option (List AV)
  | [] => some []
  | x :: l => match opnd t x, argsA t l with
    | some v, some m => some (v :: m)
    | _, _ => none

def capsA : List (Nat × Nat × Nat) → List AV
  | [] => []
  | (id, idx, off) :: l => .cell (.ptr false id idx off) :: capsA l

section
variable {D : Type}

/-- A call of a function of Go. -/
def goA (P : Program) (E : FuncId → Sum D) (t : List AV) (H : Heap D) (dec : Dec) : Op → ML D
  | .call c => match c.callee with
    | .value f => match cellOf t f with
      | some (.func g caps) => match entersA P g, argsA t c.args.toList with
        | true, some as => E g (as ++ capsA caps) H dec
        | _, _ => none
      | _ => none
    | _ => none
  | _ => none

/-- Operations without a condition. -/
def easy : Op → Bool
  | .move _ => true
  | .assign _ => true
  | .binOp .quo _ _ _ _ => false
  | .binOp .rem _ _ _ _ => false
  | .binOp .shl _ _ _ _ => false
  | .binOp .shr _ _ _ _ => false
  | .binOp .add _ _ _ _ => false
  | .binOp _ _ _ _ _ => true
  | .unOp _ _ _ => true
  | .convert _ _ _ => true
  | .extract _ _ => true
  | .field _ _ _ => true
  | .makeFunc _ _ _ => true
  | .build _ _ => true
  | .call _ => true
  | _ => false

def vcOf (op : Op) (p : Cd) : VC :=
  match easy op with
  | true => []
  | false => [p]

def easyM : Op → Bool
  | .alloc _ => true
  | .box _ _ => true
  | _ => false

def vcOfM (op : Op) (p : Cd) : VC :=
  match easyM op with
  | true => []
  | false => [p]

def opD (P : Program) (E : FuncId → Sum D) (t : List AV) (H : Heap D) (dec : Dec) (op : Op) : ML D :=
  match pureA P H t dec op with
  | some (p, v, d) => some (vcOf op p, v, H, H.length, d)
  | none => match memA P H t dec op with
    | some (p, v, H', l, d) => some (vcOfM op p, v, H', l, d)
    | none => goA P E t H dec op

/-- A call of the rest of a loop over a function. -/
def yldA (Y : Sum D) (t : List AV) (H : Heap D) (dec : Dec) : Op → ML D
  | .call c => match c.callee with
    | .value f => match cellOf t f with
      | some (.yld id) => match argsA t c.args.toList with
        | some as => Y (.cell (.ptr false id 0 0) :: as) H dec
        | none => none
      | _ => none
    | _ => none
  | _ => none

def noY : Sum D := fun _ _ _ => none

def opA (P : Program) (E : FuncId → Sum D) (Y : Sum D) (t : List AV) (H : Heap D) (dec : Dec) (op : Op) : ML D :=
  match opD P E t H dec op with
  | some x => some x
  | none => yldA Y t H dec op

def putA (t : List AV) (dst : Option Tmp) (v : AV) : List AV :=
  match dst with
  | some d => setL t d v
  | none => t

def guardA (ops : Array Oper) (t : List AV) (o : Oper) (dec : Dec) : Option (VC × Bool × Dec) :=
  match o.guard with
  | none => some ([], true, dec)
  | some (j, want) => match nth ops.toList j with
    | some oj => match oj.dst with
      | some d => match nth t d, dec with
        | some (.cell (.bool b)), 0 :: ds => some ([cd ((b == want) = false)], false, ds)
        | some (.cell (.bool b)), (_ + 1) :: ds => some ([cd ((b == want) = true)], true, ds)
        | some (.tup []), _ => some ([], false, dec)
        | _, _ => none
      | none => none
    | none => none

def regionA (P : Program) (E : FuncId → Sum D) (Y : Sum D) (ops : Array Oper) : List Oper → List AV → Heap D → Dec → RR D
  | [], t, H, dec => some ([], t, H, H.length, dec)
  | o :: rest, t, H, dec => match guardA ops t o dec with
    | none => none
    | some (p, false, d) => match regionA P E Y ops rest (putA t o.dst undefA) H d with
      | some (q, r) => some (p ++ q, r)
      | none => none
    | some (p, true, d) => match opA P E Y t H d o.op with
      | some (q, v, H', l, d') => match regionA P E Y ops rest (putA t o.dst v) H' d' with
        | some (s, t', H'', l', d'') => some (p ++ (q ++ s), t', H'', min l l', d'')
        | none => none
      | none => none

def setPs : List AV → List Tmp → List AV → List AV
  | t, p :: ps, v :: vs => setPs (setL t p v) ps vs
  | t, _, _ => t

/-- How a round of a loop over a function was left: what is done behind it. -/
def endOf : Ex → Ob
  | .normal => .loop .ready none
  | .exit id => .loop .done (some (.exit id))
  | .ret => .loop .done (some .ret)

def isNormal : Ex → Bool
  | .normal => true
  | _ => false

def isReady (H : Heap D) (lid : Nat) : Bool :=
  match nth H lid with
  | some (some (.obj (.loop .ready none))) => true
  | _ => false
def isBusy (H : Heap D) (lid : Nat) : Bool :=
  match nth H lid with
  | some (some (.obj (.loop .busy none))) => true
  | _ => false

/-- How a loop over a function is left. -/
def leftA (H : Heap D) (lid : Nat) : Option Ex :=
  match nth H lid with
  | some (some (.obj (.loop .ready none))) => some .normal
  | some (some (.obj (.loop .done (some .ret)))) => some .ret
  | some (some (.obj (.loop .done (some (.exit id))))) => some (.exit id)
  | _ => none

def av1 : AV → Option AV1
  | .cell c => some (.cell c)
  | .agg cs => some (.agg cs)
  | _ => none

def resA (P : Program) (H : Heap D) (t : List AV) : List ResultVar → Dec → Option (VC × List AV1 × Dec)
  | [], dec => some ([], [], dec)
  | .tmp i :: l, dec => match nth t i with
    | some v => match av1 v, resA P H t l dec with
      | some u, some (p, m, d) => some (p, u :: m, d)
      | _, _ => none
    | none => none
  | .cell i ty :: l, dec => match pureA P H t dec (.load ty (.tmp i)) with
    | some (p, v, d) => match av1 v, resA P H t l d with
      | some u, some (q, m, d') => some (p :: q, u :: m, d')
      | _, _ => none
    | none => none

def tupA : List AV1 → AV
  | [v] => v.av
  | l => .tup l

/-- The loops that are known by a summary. -/
abbrev LS (D : Type) := Nat → Option (Code × LSum D)
def noL : LS D := fun _ => none

/-- One round of a loop over a function: the code that takes the iterator's values, and the body. -/
def roundA (run : Bool → LS D → Sum D → Code → LSum D) (L : LS D) (Y : Sum D) (t : List AV) (lid : Nat) (ps : List Tmp) (assign body : Code) : Sum D := fun args H dec =>
  match args with
  | .cell (.ptr false id 0 0) :: vs => match Nat.beq id lid && (Nat.beq vs.length ps.length && isReady H lid) with
    | true => match run false L Y assign (setPs t ps vs) H dec with
      | some (p, .normal, t2, H2, l2, d2) => match isReady H2 lid with
        | true => match run false L Y body t2 (setL H2 lid (some (.obj (.loop .busy none)))) d2 with
          | some (q, ex, _, H4, l4, d4) => match isBusy H4 lid with
            | true => some (p ++ q, .cell (.bool (isNormal ex)), setL H4 lid (some (.obj (endOf ex))), min (min l2 l4) lid, d4)
            | false => none
          | none => none
        | false => none
      | _ => none
    | false => none
  | _ => none

/-- The whole of a loop over a function. -/
def rangeA (P : Program) (run : Bool → LS D → Sum D → Code → LSum D) (L : LS D) (Y : Sum D) (g : Operand) (ps : List Tmp) (assign body : Code) : LSum D := fun t H dec =>
  match cellOf t g with
  | some (.func gf caps) => match nth P.funcs.toList gf with
    | some fn => match fn.body, entersA P gf with
      | some c, true => match run true noL (roundA run L Y t H.length ps assign body) c ((.cell (.yld H.length) :: capsA caps) ++ List.replicate (fn.ntmps - (caps.length + 1)) undefA) (H ++ [some (.obj (.loop .ready none))]) dec with
        | some (_, .exit _, _) => none
        | some (p, _, t', H', l, d) => match resA P H' t' fn.results.toList d, leftA H' H.length with
          | some (q, _, d'), some ex => some (p ++ q, ex, t, setL H' H.length none, min l H.length, d')
          | _, _ => none
        | none => none
      | _, _ => none
    | none => none
  | _ => none

def codeA (P : Program) (E : FuncId → Sum D) (DR : Array Oper → List AV → Heap D → Dec → RR D) : Nat → Bool → LS D → Sum D → Code → LSum D
  | 0, _, _, _, _, _, _, _ => none
  | n + 1, top, L, Y, c, t, H, dec => match c with
    | .skip => some ([], .normal, t, H, H.length, dec)
    | .region _ ops false => match regionA P E Y ops ops.toList t H dec with
      | some (p, t', H', l, d) => some (p, .normal, t', H', l, d)
      | none => none
    | .region _ ops true => match DR ops t H dec with
      | some (p, t', H', l, d) => some (p, .normal, t', H', l, d)
      | none => none
    | .seq x y => match codeA P E DR n top L Y x t H dec with
      | some (p, .normal, t', H', l, d) => match codeA P E DR n top L Y y t' H' d with
        | some (q, ex, t'', H'', l', d') => some (p ++ q, ex, t'', H'', min l l', d')
        | none => none
      | r => r
    | .cond x thn els => match cellOf t x, dec with
      | some (.bool b), 0 :: d => match codeA P E DR n top L Y els t H d with
        | some (p, r) => some (cd (b = false) :: p, r)
        | none => none
      | some (.bool b), (_ + 1) :: d => match codeA P E DR n top L Y thn t H d with
        | some (p, r) => some (cd (b = true) :: p, r)
        | none => none
      | _, _ => none
    | .block id body => match codeA P E DR n top L Y body t H dec with
      | some (p, .exit id', r) => match Nat.beq id' id with
        | true => some (p, .normal, r)
        | false => some (p, .exit id', r)
      | r => r
    | .loop body => match dec with
      | 0 :: d => match codeA P E DR n top L Y body t H d with
        | some (p, .normal, t', H', l, d') => match codeA P E DR n top L Y (.loop body) t' H' d' with
          | some (q, ex, t'', H'', l', d'') => some (p ++ q, ex, t'', H'', min l l', d'')
          | none => none
        | r => r
      | (k + 1) :: d => match L k with
        | some (body', s) => match s t H d with
          | some (p, r) => some (cq body' body :: p, r)
          | none => none
        | none => none
      | [] => none
    | .rangeFunc g ps assign body => match top with
      | true => rangeA P (codeA P E DR n) L Y g ps.toList assign body t H dec
      | false => none
    | .exit id => some ([], .exit id, t, H, H.length, dec)
    | .ret => some ([], .ret, t, H, H.length, dec)
    | _ => none

def bodyA (P : Program) (E : FuncId → Sum D) (L : LS D) (DR : Array Oper → List AV → Heap D → Dec → RR D) (fuel : Nat) (f : FuncId) : Sum D := fun args H dec =>
  match nth P.funcs.toList f with
  | some fn => match fn.body with
    | some c => match codeA P E DR fuel true L noY c (args ++ List.replicate (fn.ntmps - args.length) undefA) H dec with
      | some (p, .exit _, _) => none
      | some (p, _, t, H', l, d) => match resA P H' t fn.results.toList d with
        | some (q, vs, d') => some (p ++ q, tupA vs, H', l, d')
        | none => none
      | none => none
    | none => none
  | none => none

end
end
end Go.Proofs.Ytnoonoghemgbbaa.Sx
