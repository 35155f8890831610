/-
  The plain primitives: part 3: when two names are alike.
-/
import Derived.Test.YtnoonoghemgbbaaPl2
set_option linter.unusedVariables false
set_option linter.unusedSimpArgs false
set_option maxRecDepth 100000
namespace Go.Proofs.Ytnoonoghemgbbaa.Sx
open Go

abbrev SLn (n : Nat) : AV := .cell (.slice false 0 0 0 n none 1)
def lst (s : List UInt8) (n : Nat) (i : Int) : List AV := [.cell (.str s), .tup [], .cell (.slice true NIL 0 0 0 none 1), SLn n, .junk, .junk, .cell (.str s), SLn n, SLn n, .cell (.int .i64 n), .cell (.int .i64 i),
  .junk, .junk, .junk, .junk, .junk, .junk, .junk, .junk, .junk, .junk, .junk, .junk, .junk, .junk, .junk, .junk, .junk]
def lji : List Nat := [4, 5, 11, 12, 13, 14, 15, 16, 17, 18, 19, 20, 21, 22, 23, 24, 25, 26, 27]
abbrev bytesH (l : List Int) : Heap Nob := [some (.cells true 1 fun _ => .ints .u8 l)]
noncomputable abbrev lrun (s : List UInt8) (l : List Int) (n : Nat) (i : Nat) (d : Dec) := junkE lji (codeR (D := Nob) Try.prog (look []) (fun _ => none) 200 0 (bodyOf Try.prog 51 0) (lst s n i) (bytesH l) d)

abbrev capB (c : Int) : Int := IntKind.u8.wrap (↑(BitVec.ofInt 8 c &&& ~~~BitVec.ofInt 8 32).toNat : Int)
/-- A byte as a large letter. -/
def upB (c : Int) : Int := if 97 ≤ c ∧ c ≤ 122 then capB c else c

abbrev atI (l : List Int) (i : Nat) : Int := l.getD (0 + i * 1) 0

theorem lrun_1 (s : List UInt8) (l : List Int) (n i : Nat) : Good (lrun s l n i [1, 1, 1, 1, 1]) [0, 0, 0, 0, 0, 0, 0, 0, 0] [decide ((↑i : Int) < (↑n : Int)) = true, false = false ∧ (0 : Int) ≤ (↑i : Int) ∧ (↑i : Int) < (↑n : Int),
    false = false ∧ (0 : Nat) < (1 : Nat) ∧ 0 + i * 1 < l.length ∧ True, (decide (atI l i ≥ 97) == true) = true, (decide (atI l i ≥ 97) == true) = true, decide (atI l i ≥ 97) = true, decide (atI l i ≤ 122) = true,
    false = false ∧ (0 : Int) ≤ (↑i : Int) ∧ (↑i : Int) < (↑n : Int), (false = false ∧ 0 < 1 ∧ 1 = 1) ∧ 0 + i * 1 < l.length]
    (.normal, lst s n (IntKind.i64.wrap (i + 1)), bytesH (l.set (0 + i * 1) (capB (atI l i))), 0, []) := ⟨by kernel_rfl, by kernel_rfl⟩

theorem lrun_2 (s : List UInt8) (l : List Int) (n i : Nat) : Good (lrun s l n i [1, 1, 1, 1, 0]) [0, 0, 0, 0, 0, 0, 0] [decide ((↑i : Int) < (↑n : Int)) = true, false = false ∧ (0 : Int) ≤ (↑i : Int) ∧ (↑i : Int) < (↑n : Int),
    false = false ∧ (0 : Nat) < (1 : Nat) ∧ 0 + i * 1 < l.length ∧ True, (decide (atI l i ≥ 97) == true) = true, (decide (atI l i ≥ 97) == true) = true, decide (atI l i ≥ 97) = true, decide (atI l i ≤ 122) = false]
    (.normal, lst s n (IntKind.i64.wrap (i + 1)), bytesH l, 1, []) := ⟨by kernel_rfl, by kernel_rfl⟩

theorem lrun_3 (s : List UInt8) (l : List Int) (n i : Nat) : Good (lrun s l n i [1, 0, 0, 0, 0]) [0, 0, 0, 0, 0, 0] [decide ((↑i : Int) < (↑n : Int)) = true, false = false ∧ (0 : Int) ≤ (↑i : Int) ∧ (↑i : Int) < (↑n : Int),
    false = false ∧ (0 : Nat) < (1 : Nat) ∧ 0 + i * 1 < l.length ∧ True, (decide (atI l i ≥ 97) == true) = false, (decide (atI l i ≥ 97) == true) = false, decide (atI l i ≥ 97) = false]
    (.normal, lst s n (IntKind.i64.wrap (i + 1)), bytesH l, 1, []) := ⟨by kernel_rfl, by kernel_rfl⟩

theorem lrun_4 (s : List UInt8) (l : List Int) (n i : Nat) : Good (lrun s l n i [0]) [0] [decide ((↑i : Int) < (↑n : Int)) = false]
    (.exit 0, lst s n i, bytesH l, 1, []) := ⟨by kernel_rfl, by kernel_rfl⟩

theorem up_step {l : List Int} {i : Nat} (h : i < l.length) : (l.set i (upB (l.getD i 0))).take (i + 1) ++ ((l.set i (upB (l.getD i 0))).drop (i + 1)).map upB = l.take i ++ (l.drop i).map upB := by
  apply List.ext_getElem?
  intro k
  simp only [List.getElem?_append, List.length_take, List.length_set, List.getElem?_take, List.getElem?_map, List.getElem?_drop, List.getElem?_set]
  have h1 : min (i + 1) l.length = i + 1 := by omega
  have h2 : min i l.length = i := by omega
  rw [h1, h2]
  rcases Nat.lt_trichotomy k i with hk | rfl | hk
  · rw [if_pos (by omega), if_pos (by omega), if_neg (by omega), if_pos hk, if_pos (by omega)]
  · rw [if_pos (by omega), if_pos (by omega), if_pos rfl, if_pos h, if_neg (by omega), Nat.sub_self, Nat.add_zero]
    simp [List.getD, h]
  · rw [if_neg (by omega), if_neg (by omega), if_neg (by omega)]
    rw [show i + 1 + (k - (i + 1)) = k by omega, show i + (k - i) = k by omega]

theorem upB_set {l : List Int} {i : Nat} (h : i < l.length) (hn : ¬ (97 ≤ l.getD i 0 ∧ l.getD i 0 ≤ 122)) : l.set i (upB (l.getD i 0)) = l := by
  unfold upB
  rw [if_neg hn]
  simp [List.getD, h]

theorem large_loop (s : List UInt8) : ∀ (k i : Nat) (l : List Int), i + k = l.length → (l.length : Int) ≤ 9223372036854775807 →
    Runs Try.prog (.loop (bodyOf Try.prog 51 0)) (lst s l.length i) (bytesH l) (.exit 0) (lst s l.length l.length) (bytesH (l.take i ++ (l.drop i).map upB)) 0
  | 0, i, l, hk, hl => by
    have : i = l.length := by omega
    subst this
    have hr := (lrun_4 s l l.length l.length).runsJ hmix (AllV.look (l := []) trivial) (fun _ _ _ h => by cases h) (by simp [AllP])
    have hr := (Runs.last hr (by intro h; cases h)).low (Nat.zero_le 1)
    simpa using hr
  | k + 1, i, l, hk, hl => by
    have hi : i < l.length := by omega
    have ew : IntKind.i64.wrap ((i : Int) + 1) = ((i + 1 : Nat) : Int) := by rw [wrap_i64 (by omega) (by omega)]; rfl
    have ea : atI l i = l.getD i 0 := by simp [atI]
    have e0 : 0 + i * 1 = i := by omega
    have go : ∀ (l' : List Int) (l1 : Nat), l' = l.set i (upB (l.getD i 0)) → Runs Try.prog (bodyOf Try.prog 51 0) (lst s l.length i) (bytesH l) .normal (lst s l.length ((i + 1 : Nat) : Int)) (bytesH l') l1 →
        Runs Try.prog (.loop (bodyOf Try.prog 51 0)) (lst s l.length i) (bytesH l) (.exit 0) (lst s l.length l.length) (bytesH (l.take i ++ (l.drop i).map upB)) 0 := by
      intro l' l1 e hb
      have hlen : l'.length = l.length := by rw [e, List.length_set]
      have ih := large_loop s k (i + 1) l' (by omega) (by omega)
      rw [hlen] at ih
      have := (Runs.round hb ih).low (Nat.zero_le _)
      rw [e, up_step hi] at this
      exact this
    by_cases h1 : 97 ≤ l.getD i 0
    · by_cases h2 : l.getD i 0 ≤ 122
      · refine go _ _ ?_ (ew ▸ (lrun_1 s l l.length i).runsJ hmix (AllV.look (l := []) trivial) (fun _ _ _ h => by cases h) ?_)
        · rw [e0, ea]; unfold upB; rw [if_pos ⟨h1, h2⟩]
        · simp only [AllP, ea, e0]; generalize l.getD i 0 = c at h1 h2 ⊢; simp [hi]; omega
      · refine go _ _ ?_ (ew ▸ (lrun_2 s l l.length i).runsJ hmix (AllV.look (l := []) trivial) (fun _ _ _ h => by cases h) ?_)
        · rw [upB_set hi (fun h => h2 h.2)]
        · simp only [AllP, ea, e0]; generalize l.getD i 0 = c at h1 h2 ⊢; simp [hi]; omega
    · refine go _ _ ?_ (ew ▸ (lrun_3 s l l.length i).runsJ hmix (AllV.look (l := []) trivial) (fun _ _ _ h => by cases h) ?_)
      · rw [upB_set hi (fun h => h1 h.1)]
      · simp only [AllP, ea, e0]; generalize l.getD i 0 = c at h1 ⊢; simp [hi]; omega

def byteInts (s : List UInt8) : List Int := s.map fun b => (b.toNat : Int)

noncomputable abbrev E51 (s : List UInt8) : Sum Nob := runF (D := Nob) Try.prog (look []) (atLoop 51 0 (bodyOf Try.prog 51 0, someLoop lji (lst s s.length 0) (bytesH (byteInts s)) (.exit 0) (lst s s.length s.length) (bytesH ((byteInts s).map upB)) 0)) 200 12 51

theorem large_run (s : List UInt8) : Good (E51 s [.cell (.str s)] [] [1]) [0] [(s.length : Int) ≤ 9223372036854775807] (SLn s.length, bytesH ((byteInts s).map upB), 0, []) := ⟨by kernel_rfl, by kernel_rfl⟩

theorem large_can (s : List UInt8) (h : (s.length : Int) ≤ 9223372036854775807) : CanOk Try.prog 51 ([] : Heap Nob) [.cell (.str s)] (SLn s.length) (bytesH ((byteInts s).map upB)) 0 := by
  refine (large_run s).can (runF_valid hmix (AllV.look (l := []) trivial) (atLoop_ok (someLoop_valid ?_)) 200 12 51) ⟨h, trivial⟩
  have hl : (byteInts s).length = s.length := by simp [byteInts]
  have := large_loop s (byteInts s).length 0 (byteInts s) (by omega) (by rw [hl]; exact h)
  rw [hl] at this
  simpa using this

def largeG : List AV → View → Option (List (Way Nob))
  | [.cell (.str s)], [] => some [⟨[cd ((s.length : Int) ≤ 9223372036854775807)], true, SLn s.length, bytesH ((byteInts s).map upB), 0⟩]
  | _, _ => none

theorem large_ok : Valid Try.prog 51 (canonSum largeG) := canon_of fun args Hc l h => by
  unfold largeG at h
  split at h
  · cases h
    exact ⟨fun h => large_can _ h.1, trivial⟩
  · cases h

end Go.Proofs.Ytnoonoghemgbbaa.Sx
