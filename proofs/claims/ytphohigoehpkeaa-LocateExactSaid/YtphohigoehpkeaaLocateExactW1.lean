import Derived.Test.YtphohigoehpkeaaLocateExactW0
import Derived.Shelf.Small.Bits
import Derived.Shelf.Small.Wraps
import Derived.Shelf.Utf8.RuneCount
import Derived.Shelf.Strconv.Itoa0
import Derived.Shelf.Strings.Search1
import Derived.Shelf.Strings.Search2
import Derived.Shelf.Strings.Search3
import Derived.Shelf.Strings.Count
import Derived.Shelf.LaysM
import Derived.Shelf.Strings.Shaped
import Derived.Shelf.Sort.Plain
import Derived.Shelf.Strings.Split
import Derived.Shelf.Strings.RuneCount
import Derived.Shelf.Slices.Turned
import Derived.Ground.Names2Prog
import Derived.Shelf.Slices.Clone
import Derived.Shelf.Slices.CompactI
import Derived.Shelf.Slices.SearchI
import Derived.Shelf.Slices.Cells
import Derived.Shelf.Slices.In.SortNone
import Derived.Shelf.Slices.Empties
import Derived.Ground.SlgnProg
import Derived.Shelf.SlicesE.Clone
import Derived.Test.YtphohigoehpkeaaProg
import Derived.Shelf.SlSortCmp.WholeK
import Derived.Ground.SlsfProg
import Derived.Shelf.SlSortCmp.NoneTotal
set_option linter.unusedVariables false
set_option linter.unusedSimpArgs false
namespace Go.Hv
open Go Go.Hv Go.Proofs
open Go.Proofs.Ytphohigoehpkeaa
theorem ins_at {l : List Int} {n : Int} : ∀ {k : Nat}, k ≤ l.length → (∀ x ∈ l.take k, x < n) → (∀ x, l[k]? = some x → n ≤ x) → ins l n = if l[k]? = some n then l else l.take k ++ n :: l.drop k := by
  induction l with
  | nil => intro k hk h1 h2; simp at hk; subst hk; simp [ins]
  | cons y r ih =>
    intro k hk h1 h2
    cases k with
    | zero =>
      have := h2 y rfl
      unfold ins
      rw [if_neg (by omega)]
      by_cases e : y = n
      · simp [e]
      · simp [e]
    | succ k =>
      have hy := h1 y (by simp)
      unfold ins
      rw [if_pos hy, ih (k := k) (by simpa using hk) (fun x hx => h1 x (by simp [hx])) (fun x hx => h2 x (by simpa using hx))]
      simp only [List.getElem?_cons_succ]
      split <;> simp
set_option maxHeartbeats 1000000 in
theorem insert_spec (l : List Int) (n : Int) (hl : l.length ≤ 1000000) : Spec1 Try.prog 69 [.sl 1 false (intsHV l), i64 n] (.sl 1 false (intsHV (ins l n))) := by
  refine Spec1.of_HT Try.func69 rfl (by rw [Try.ntmps69]; simp) rfl ?_
  rw [Try.ntmps69]
  refine HT.seq ?_
  refine HT.region ?_   -- R0
  simp (disch := first | omega | (simp <;> omega) | fail) [wrap_i64, wrap_u64, wrap_u8']
  refine HT.seq ?_
  refine HT.region ?_   -- R1
  simp (disch := first | omega | (simp <;> omega) | fail) [wrap_i64, wrap_u64, wrap_u8']
  refine HT.joinX (fun p : {k : Nat // k ≤ l.length ∧ (∀ x ∈ l.take k, x < n) ∧ ∀ x, l[k]? = some x → n ≤ x} => [.s 5 (i64 p.1)]) [0, 1, 28, 29, 30, 31, 32, 33] [] ?_ ?_
  · skip
    refine HT.block ?_
    refine HT.loopK (fun k : {k : Nat // k ≤ l.length ∧ ∀ x ∈ l.take k, x < n} => [.s 5 (i64 k)]) [0, 1, 28, 29, 30, 31, 32, 33] [] (fun k => l.length - k) (⟨0, by simp⟩) ?_ ?_   -- block 0 turned [5, 14, 15, 16, 17, 18, 19]
    · simp (disch := first | omega | (simp <;> omega) | fail) [wrap_i64, wrap_u64, wrap_u8']
    rintro ⟨k, hk, hg⟩
    simp (disch := first | omega | (simp <;> omega) | fail) [wrap_i64, wrap_u64, wrap_u8']
    refine HT.seq ?_
    refine HT.seq ?_
    by_cases c1 : l.length ≤ k
    · skip
      refine HT.region ?_   -- R2
      simp (disch := first | omega | (simp <;> omega) | fail) [wrap_i64, wrap_u64, wrap_u8']
      refine HT.cond' ?_   -- if 20
      simp (disch := first | omega | (simp <;> omega) | fail) [wrap_i64, wrap_u64, wrap_u8']
      refine HT.exit ?_
      simp (disch := first | omega | (simp <;> omega) | fail) [wrap_i64, wrap_u64, wrap_u8']
      refine Pick.mk' (⟨k, hk, hg, fun x hx => by first | (rw [List.getElem?_eq_none c1] at hx; cases hx) | (rw [List.getElem?_eq_getElem hk'] at hx; cases hx; exact c2)⟩) rfl ?_
      simp (disch := first | omega | (simp <;> omega) | fail) [wrap_i64, wrap_u64, wrap_u8']
    have hk' : k < l.length := by omega
    by_cases c2 : n ≤ l[k]
    · skip
      refine HT.region ?_   -- R2
      simp (disch := first | omega | (simp <;> omega) | fail) [wrap_i64, wrap_u64, wrap_u8']
      refine HT.cond' ?_   -- if 20
      simp (disch := first | omega | (simp <;> omega) | fail) [wrap_i64, wrap_u64, wrap_u8']
      refine HT.exit ?_
      simp (disch := first | omega | (simp <;> omega) | fail) [wrap_i64, wrap_u64, wrap_u8']
      refine Pick.mk' (⟨k, hk, hg, fun x hx => by first | (rw [List.getElem?_eq_none c1] at hx; cases hx) | (rw [List.getElem?_eq_getElem hk'] at hx; cases hx; exact c2)⟩) rfl ?_
      simp (disch := first | omega | (simp <;> omega) | fail) [wrap_i64, wrap_u64, wrap_u8']
    refine HT.region ?_   -- R2
    simp (disch := first | omega | (simp <;> omega) | fail) [wrap_i64, wrap_u64, wrap_u8']
    refine HT.cond' ?_   -- if 20
    simp (disch := first | omega | (simp <;> omega) | fail) [wrap_i64, wrap_u64, wrap_u8']
    refine HT.skip ?_
    simp (disch := first | omega | (simp <;> omega) | fail) [wrap_i64, wrap_u64, wrap_u8']
    refine HT.block ?_
    refine HT.region ?_   -- R3
    simp (disch := first | omega | (simp <;> omega) | fail) [wrap_i64, wrap_u64, wrap_u8']
    refine Round.mk' (⟨k + 1, by omega, fun x hx => by rw [List.take_succ_eq_append_getElem hk'] at hx; rcases List.mem_append.1 hx with hx | hx; exact hg x hx; simp at hx; subst hx; omega⟩) (by dsimp only; omega) rfl ?_
    simp (disch := first | omega | (simp <;> omega) | fail) [wrap_i64, wrap_u64, wrap_u8']
  · rintro ⟨k, hk, hg, hle⟩
    simp (disch := first | omega | (simp <;> omega) | fail) [wrap_i64, wrap_u64, wrap_u8']
    have hins := ins_at hk hg hle
    refine HT.joinX (fun p : {u : Unit // l[k]? ≠ some n} => []) [0, 1, 5] [] ?_ ?_
    · skip
      refine HT.seq ?_
      by_cases c3 : l.length ≤ k
      · skip
        refine HT.region ?_   -- R4
        simp (disch := first | omega | (simp <;> omega) | fail) [wrap_i64, wrap_u64, wrap_u8']
        refine HT.cond' ?_   -- if 34
        simp (disch := first | omega | (simp <;> omega) | fail) [wrap_i64, wrap_u64, wrap_u8']
        refine HT.skip ?_
        simp (disch := first | omega | (simp <;> omega) | fail) [wrap_i64, wrap_u64, wrap_u8']
        refine Pick.mk' (⟨(), by first | (rw [List.getElem?_eq_none c3]; simp) | (rw [List.getElem?_eq_getElem hk2]; simpa using c4)⟩) rfl ?_
        simp (disch := first | omega | (simp <;> omega) | fail) [wrap_i64, wrap_u64, wrap_u8']
      have hk2 : k < l.length := by omega
      by_cases c4 : ¬ l[k] = n
      · skip
        refine HT.region ?_   -- R4
        simp (disch := first | omega | (simp <;> omega) | fail) [wrap_i64, wrap_u64, wrap_u8']
        refine HT.cond' ?_   -- if 34
        simp (disch := first | omega | (simp <;> omega) | fail) [wrap_i64, wrap_u64, wrap_u8']
        refine HT.skip ?_
        simp (disch := first | omega | (simp <;> omega) | fail) [wrap_i64, wrap_u64, wrap_u8']
        refine Pick.mk' (⟨(), by first | (rw [List.getElem?_eq_none c3]; simp) | (rw [List.getElem?_eq_getElem hk2]; simpa using c4)⟩) rfl ?_
        simp (disch := first | omega | (simp <;> omega) | fail) [wrap_i64, wrap_u64, wrap_u8']
      refine HT.region ?_   -- R4
      simp (disch := first | omega | (simp <;> omega) | fail) [wrap_i64, wrap_u64, wrap_u8']
      refine HT.cond' ?_   -- if 34
      simp (disch := first | omega | (simp <;> omega) | fail) [wrap_i64, wrap_u64, wrap_u8']
      refine HT.seq ?_
      refine HT.region ?_   -- R5
      simp (disch := first | omega | (simp <;> omega) | fail) [wrap_i64, wrap_u64, wrap_u8']
      refine HT.ret ?_
      rw [if_pos (by rw [List.getElem?_eq_getElem hk2]; simpa using c4)] at hins
      simp (disch := first | omega | (simp <;> omega) | fail) [wrap_i64, wrap_u64, wrap_u8', hins]
    · rintro ⟨_, hne⟩
      simp (disch := first | omega | (simp <;> omega) | fail) [wrap_i64, wrap_u64, wrap_u8']
      rw [if_neg hne] at hins
      refine HT.seq ?_
      refine HT.region ?_   -- R6
      simp (disch := first | omega | (simp <;> omega) | fail) [wrap_i64, wrap_u64, wrap_u8']
      refine HT.seq ?_
      refine HT.seq ?_
      refine HT.region ?_   -- R7
      simp (disch := first | omega | (simp <;> omega) | fail) [wrap_i64, wrap_u64, wrap_u8']
      refine HT.weaken (HS.le_own (t := 6) 200 3 1 _ (by decide) rfl (by decide)) ?_
      refine HT.block ?_
      refine HT.loopK (fun j : {j : Nat // j ≤ k} => [.s 7 (i64 j), .s 6 (.ref 200), .o 200 (.row 3 1 (intsHV (l.take j)))]) [0, 1, 5] [] (fun j => k - j) (⟨0, by omega⟩) ?_ ?_   -- block 2 turned [6, 7]
      · simp (disch := first | omega | (simp <;> omega) | fail) [wrap_i64, wrap_u64, wrap_u8']
      rintro ⟨j, hj⟩
      simp (disch := first | omega | (simp <;> omega) | fail) [wrap_i64, wrap_u64, wrap_u8']
      refine HT.seq ?_
      refine HT.seq ?_
      refine HT.region ?_   -- R8
      simp (disch := first | omega | (simp <;> omega) | fail) [wrap_i64, wrap_u64, wrap_u8']
      refine HT.cond' ?_   -- if 38
      simp (disch := first | omega | (simp <;> omega) | fail) [wrap_i64, wrap_u64, wrap_u8']
      refine ⟨fun h38 => ?_, fun h38 => ?_⟩
      · skip
        have hj' : j < l.length := by omega
        refine HT.skip ?_
        simp (disch := first | omega | (simp <;> omega) | fail) [wrap_i64, wrap_u64, wrap_u8']
        refine HT.seq ?_
        refine HT.block ?_
        refine HT.region ?_   -- R10
        simp (disch := first | omega | (simp <;> omega) | fail) [wrap_i64, wrap_u64, wrap_u8']
        refine HT.region ?_   -- R9
        simp (disch := first | omega | (simp <;> omega) | fail) [wrap_i64, wrap_u64, wrap_u8']
        refine Round.mk' (⟨j + 1, by omega⟩) (by dsimp only; omega) rfl ?_
        simp (disch := first | omega | (simp <;> omega) | fail) [wrap_i64, wrap_u64, wrap_u8']
      · skip
        obtain rfl : j = k := by omega
        refine HT.exit ?_
        simp (disch := first | omega | (simp <;> omega) | fail) [wrap_i64, wrap_u64, wrap_u8']
        refine HT.seq ?_
        refine HT.region ?_   -- R11
        simp (disch := first | omega | (simp <;> omega) | fail) [wrap_i64, wrap_u64, wrap_u8']
        refine HT.seq ?_
        refine HT.seq ?_
        refine HT.region ?_   -- R12
        simp (disch := first | omega | (simp <;> omega) | fail) [wrap_i64, wrap_u64, wrap_u8']
        refine HT.block ?_
        refine HT.loopK (fun i : {i : Nat // j ≤ i ∧ i ≤ l.length} => [.s 8 (i64 i), .s 6 (.ref 200), .o 200 (.row 3 1 (intsHV (l.take j ++ n :: (l.drop j).take (i - j))))]) [0] [] (fun i => l.length - i) (⟨j, by omega⟩) ?_ ?_   -- block 4 turned [6, 8]
        · simp (disch := first | omega | (simp <;> omega) | fail) [wrap_i64, wrap_u64, wrap_u8', intsHV_snoc]
        rintro ⟨i, hi⟩
        simp (disch := first | omega | (simp <;> omega) | fail) [wrap_i64, wrap_u64, wrap_u8']
        refine HT.seq ?_
        refine HT.seq ?_
        refine HT.region ?_   -- R13
        simp (disch := first | omega | (simp <;> omega) | fail) [wrap_i64, wrap_u64, wrap_u8']
        refine HT.cond' ?_   -- if 56
        simp (disch := first | omega | (simp <;> omega) | fail) [wrap_i64, wrap_u64, wrap_u8']
        refine ⟨fun h56 => ?_, fun h56 => ?_⟩
        · skip
          have hi' : i < l.length := by omega
          refine HT.skip ?_
          simp (disch := first | omega | (simp <;> omega) | fail) [wrap_i64, wrap_u64, wrap_u8']
          refine HT.seq ?_
          refine HT.block ?_
          refine HT.region ?_   -- R15
          simp (disch := first | omega | (simp <;> omega) | fail) [wrap_i64, wrap_u64, wrap_u8']
          refine HT.region ?_   -- R14
          simp (disch := first | omega | (simp <;> omega) | fail) [wrap_i64, wrap_u64, wrap_u8']
          refine Round.mk' (⟨i + 1, by omega⟩) (by dsimp only; omega) rfl ?_
          simp (disch := first | omega | (simp <;> omega) | fail) [wrap_i64, wrap_u64, wrap_u8']
          rw [show i + 1 - j = (i - j) + 1 by omega, List.take_succ_eq_append_getElem (show i - j < (l.drop j).length by simp; omega)]
          simp [show j + (i - j) = i by omega]
        · skip
          obtain rfl : i = l.length := by omega
          have ht : (l.drop j).take (l.length - j) = l.drop j := List.take_of_length_le (by simp)
          refine HT.exit ?_
          simp (disch := first | omega | (simp <;> omega) | fail) [wrap_i64, wrap_u64, wrap_u8']
          refine HT.seq ?_
          refine HT.region ?_   -- R16
          simp (disch := first | omega | (simp <;> omega) | fail) [wrap_i64, wrap_u64, wrap_u8']
          refine HT.ret ?_
          simp (disch := first | omega | (simp <;> omega) | fail) [wrap_i64, wrap_u64, wrap_u8', hins, ht]
end Go.Hv
set_option linter.unusedVariables false
set_option linter.unusedSimpArgs false
namespace Go.Hv
open Go Go.Hv Go.Proofs
open Go.Proofs.Ytphohigoehpkeaa
theorem ofV_length (s : List UInt8) : (ofV s).length ≤ s.length := by have := ofK_length s (s.length - 2); unfold ofV; omega
theorem refOf_spec (s : List UInt8) (hs : s.length ≤ 900000) : Spec1 Try.prog 36 [.str s] (.sl 1 false (intsHV (ofV s))) := by
  refine Spec1.of_HT Try.func36 rfl (by rw [Try.ntmps36]; simp) rfl ?_
  rw [Try.ntmps36]
  refine HT.seq ?_
  refine HT.region ?_   -- R0
  simp (disch := first | omega | (simp <;> omega) | fail) [wrap_i64, wrap_u64, wrap_u8']
  refine HT.seq ?_
  refine HT.region ?_   -- R1
  simp (disch := first | omega | (simp <;> omega) | fail) [wrap_i64, wrap_u64, wrap_u8']
  refine HT.weaken (HS.le_wk 3 (.sl 1 false []) (by decide) rfl rfl (HLe.nilf 0 1 true)) ?_
  refine HT.seq ?_
  refine HT.seq ?_
  refine HT.region ?_   -- R2
  simp (disch := first | omega | (simp <;> omega) | fail) [wrap_i64, wrap_u64, wrap_u8']
  refine HT.block ?_
  refine HT.loopK (fun k : {k : Nat // k ≤ s.length - 2} => [.s 4 (i64 k), .s 3 (.sl 1 false (intsHV (ofK s k)))]) [0] [] (fun k => s.length - k) (⟨0, by omega⟩) ?_ ?_   -- block 0 turned [3, 4]
  · simp (disch := first | omega | (simp <;> omega) | fail) [wrap_i64, wrap_u64, wrap_u8', show ofK s 0 = [] from rfl]
  rintro ⟨k, hk⟩
  simp (disch := first | omega | (simp <;> omega) | fail) [wrap_i64, wrap_u64, wrap_u8']
  refine HT.seq ?_
  refine HT.seq ?_
  refine HT.region ?_   -- R3
  simp (disch := first | omega | (simp <;> omega) | fail) [wrap_i64, wrap_u64, wrap_u8']
  refine HT.cond' ?_   -- if 9
  simp (disch := first | omega | (simp <;> omega) | fail) [wrap_i64, wrap_u64, wrap_u8']
  refine ⟨fun h9 => ?_, fun h9 => ?_⟩
  · skip
    have hk' : k + 2 < s.length := by omega
    have hb := ofK_length s k
    refine HT.skip ?_
    simp (disch := first | omega | (simp <;> omega) | fail) [wrap_i64, wrap_u64, wrap_u8']
    refine HT.seq ?_
    refine HT.block ?_
    refine HT.region ?_   -- R5
    simp (disch := first | omega | (simp <;> omega) | fail) [wrap_i64, wrap_u64, wrap_u8']
    refine stepK.mk (.call1 _ _ _ _ rfl Ty.hb68 rfl (refat_spec s k hk' (by omega)) rfl rfl) ?_
    simp (disch := first | omega | (simp <;> omega) | fail) [wrap_i64, wrap_u64, wrap_u8']
    refine stepK.mk (.call1f _ _ _ _ _ rfl Ty.hb69 rfl rfl (insert_spec (ofK s k) (codeAt s k) (by omega)) rfl) ?_
    simp (disch := first | omega | (simp <;> omega) | fail) [wrap_i64, wrap_u64, wrap_u8']
    refine HT.region ?_   -- R4
    simp (disch := first | omega | (simp <;> omega) | fail) [wrap_i64, wrap_u64, wrap_u8']
    refine Round.mk' (⟨k + 1, by omega⟩) (by dsimp only; omega) rfl ?_
    simp (disch := first | omega | (simp <;> omega) | fail) [wrap_i64, wrap_u64, wrap_u8', ofK_succ]
  · skip
    obtain rfl : k = s.length - 2 := by omega
    refine HT.exit ?_
    simp (disch := first | omega | (simp <;> omega) | fail) [wrap_i64, wrap_u64, wrap_u8']
    refine HT.seq ?_
    refine HT.region ?_   -- R6
    simp (disch := first | omega | (simp <;> omega) | fail) [wrap_i64, wrap_u64, wrap_u8']
    refine HT.ret ?_
    simp (disch := first | omega | (simp <;> omega) | fail) [wrap_i64, wrap_u64, wrap_u8', ofV]
set_option maxHeartbeats 1000000 in
theorem refGrams_spec (s : List UInt8) (hs : s.length ≤ 900000) : Spec1 Try.prog 39 [.str s] (.sl 2 false (gramsHV (gramsV s))) := by
  have hol := ofV_length s
  refine Spec1.of_HT Try.func39 rfl (by rw [Try.ntmps39]; simp) rfl ?_
  rw [Try.ntmps39]
  refine HT.seq ?_
  refine HT.region ?_   -- R0
  simp (disch := first | omega | (simp <;> omega) | fail) [wrap_i64, wrap_u64, wrap_u8']
  refine HT.seq ?_
  refine HT.region ?_   -- R1
  simp (disch := first | omega | (simp <;> omega) | fail) [wrap_i64, wrap_u64, wrap_u8']
  refine stepK.mk (.call1f _ _ _ _ _ rfl Ty.hb36 rfl rfl (refOf_spec s hs) rfl) ?_
  simp (disch := first | omega | (simp <;> omega) | fail) [wrap_i64, wrap_u64, wrap_u8']
  refine HT.seq ?_
  refine HT.region ?_   -- R2
  simp (disch := first | omega | (simp <;> omega) | fail) [wrap_i64, wrap_u64, wrap_u8']
  refine HT.weaken (HS.le_own (t := 4) 200 32 2 _ (by decide) rfl (by decide)) ?_
  refine HT.seq ?_
  refine HT.seq ?_
  refine HT.region ?_   -- R3
  simp (disch := first | omega | (simp <;> omega) | fail) [wrap_i64, wrap_u64, wrap_u8']
  refine HT.block ?_
  refine HT.loopK (fun k : {k : Nat // k ≤ (ofV s).length} => [.s 5 (i64 k), .s 4 (.ref 200), .o 200 (.row 32 2 (gramsHV ((gramsV s).take k)))]) [0, 3] [] (fun k => (ofV s).length - k) (⟨0, by omega⟩) ?_ ?_   -- block 0 turned [4, 5]
  · simp (disch := first | omega | (simp <;> omega) | fail) [wrap_i64, wrap_u64, wrap_u8']
  rintro ⟨k, hk⟩
  simp (disch := first | omega | (simp <;> omega) | fail) [wrap_i64, wrap_u64, wrap_u8']
  refine HT.seq ?_
  refine HT.seq ?_
  refine HT.region ?_   -- R4
  simp (disch := first | omega | (simp <;> omega) | fail) [wrap_i64, wrap_u64, wrap_u8']
  refine HT.cond' ?_   -- if 13
  simp (disch := first | omega | (simp <;> omega) | fail) [wrap_i64, wrap_u64, wrap_u8']
  refine ⟨fun h13 => ?_, fun h13 => ?_⟩
  · skip
    have hk' : k < (ofV s).length := by omega
    have hgl : (gramsV s).length = (ofV s).length := by simp [gramsV]
    have hgk : (gramsV s)[k]'(by omega) = ⟨(ofV s)[k], offK s (s.length - 2) (ofV s)[k]⟩ := by simp [gramsV]
    refine HT.skip ?_
    simp (disch := first | omega | (simp <;> omega) | fail) [wrap_i64, wrap_u64, wrap_u8']
    refine HT.seq ?_
    refine HT.block ?_
    refine HT.seq ?_
    refine HT.region ?_   -- R6
    simp (disch := first | omega | (simp <;> omega) | fail) [wrap_i64, wrap_u64, wrap_u8']
    refine HT.seq ?_
    refine HT.seq ?_
    refine HT.region ?_   -- R7
    simp (disch := first | omega | (simp <;> omega) | fail) [wrap_i64, wrap_u64, wrap_u8']
    refine HT.weaken (HS.le_boxown 6 1 201 3 1 0 rfl rfl (by decide) (by decide)) ?_
    refine HT.block ?_
    refine HT.loopK (fun i : {i : Nat // i ≤ s.length - 2} => [.s 7 (i64 i), .o 6 (.box [i64 (ofV s)[k], .ref 201]), .o 201 (.row 3 1 (intsHV (offK s i (ofV s)[k])))]) [0, 3, 4, 5, 6] [200] (fun i => s.length - i) (⟨0, by omega⟩) ?_ ?_   -- block 2 turned [7]
    · simp (disch := first | omega | (simp <;> omega) | fail) [wrap_i64, wrap_u64, wrap_u8', show offK s 0 (ofV s)[k] = [] from rfl]
    rintro ⟨i, hi⟩
    simp (disch := first | omega | (simp <;> omega) | fail) [wrap_i64, wrap_u64, wrap_u8']
    refine HT.seq ?_
    refine HT.seq ?_
    refine HT.region ?_   -- R8
    simp (disch := first | omega | (simp <;> omega) | fail) [wrap_i64, wrap_u64, wrap_u8']
    refine HT.cond' ?_   -- if 25
    simp (disch := first | omega | (simp <;> omega) | fail) [wrap_i64, wrap_u64, wrap_u8']
    refine ⟨fun h25 => ?_, fun h25 => ?_⟩
    · skip
      have hi' : i + 2 < s.length := by omega
      have hb := offK_length s i (ofV s)[k]
      refine HT.skip ?_
      simp (disch := first | omega | (simp <;> omega) | fail) [wrap_i64, wrap_u64, wrap_u8']
      refine HT.seq ?_
      refine HT.block ?_
      refine HT.seq ?_
      refine HT.draw [.batch [0, 1, 2, 3, 4, 5, 6, 7]] (by kernel_rfl) ?_   -- R10
      simp (disch := first | omega | (simp <;> omega) | fail) [wrap_i64, wrap_u64, wrap_u8']
      refine stepK.mk (.call1 _ _ _ rfl Ty.hb68 rfl rfl (refat_spec s i hi' (by omega))) ?_
      simp (disch := first | omega | (simp <;> omega) | fail) [wrap_i64, wrap_u64, wrap_u8']
      refine HT.cond' ?_   -- if 35
      simp (disch := first | omega | (simp <;> omega) | fail) [wrap_i64, wrap_u64, wrap_u8']
      refine ⟨fun h35 => ?_, fun h35 => ?_⟩
      · skip
        refine HT.region ?_   -- R11
        simp (disch := first | omega | (simp <;> omega) | fail) [wrap_i64, wrap_u64, wrap_u8']
        refine HT.region ?_   -- R9
        simp (disch := first | omega | (simp <;> omega) | fail) [wrap_i64, wrap_u64, wrap_u8']
        refine Round.mk' (⟨i + 1, by omega⟩) (by dsimp only; omega) rfl ?_
        simp (disch := first | omega | (simp <;> omega) | fail) [wrap_i64, wrap_u64, wrap_u8', offK_succ, h35]
      · skip
        refine HT.skip ?_
        simp (disch := first | omega | (simp <;> omega) | fail) [wrap_i64, wrap_u64, wrap_u8']
        refine HT.region ?_   -- R9
        simp (disch := first | omega | (simp <;> omega) | fail) [wrap_i64, wrap_u64, wrap_u8']
        refine Round.mk' (⟨i + 1, by omega⟩) (by dsimp only; omega) rfl ?_
        simp (disch := first | omega | (simp <;> omega) | fail) [wrap_i64, wrap_u64, wrap_u8', offK_succ, h35]
    · skip
      obtain rfl : i = s.length - 2 := by omega
      refine HT.exit ?_
      simp (disch := first | omega | (simp <;> omega) | fail) [wrap_i64, wrap_u64, wrap_u8']
      refine HT.region ?_   -- R12
      simp (disch := first | omega | (simp <;> omega) | fail) [wrap_i64, wrap_u64, wrap_u8']
      refine HT.region ?_   -- R5
      simp (disch := first | omega | (simp <;> omega) | fail) [wrap_i64, wrap_u64, wrap_u8']
      refine Round.mk' (⟨k + 1, by omega⟩) (by dsimp only; omega) rfl ?_
      simp (disch := first | omega | (simp <;> omega) | fail) [wrap_i64, wrap_u64, wrap_u8']
      rw [← hgk]
      simp
  · skip
    obtain rfl : k = (ofV s).length := by omega
    have hgl : (gramsV s).length = (ofV s).length := by simp [gramsV]
    refine HT.exit ?_
    simp (disch := first | omega | (simp <;> omega) | fail) [wrap_i64, wrap_u64, wrap_u8']
    refine HT.seq ?_
    refine HT.region ?_   -- R13
    simp (disch := first | omega | (simp <;> omega) | fail) [wrap_i64, wrap_u64, wrap_u8']
    refine HT.ret ?_
    simp (disch := first | omega | (simp <;> omega) | fail) [wrap_i64, wrap_u64, wrap_u8', ← hgl, List.take_length]
end Go.Hv
set_option linter.unusedVariables false
set_option linter.unusedSectionVars false
set_option linter.unusedSimpArgs false
/- Maps whose values are rows of the walk's own: the i-th entry's row has the number B + i. -/
namespace Go.Hv
open Go Go.RowKit
variable [GI]
variable {P : Program} {K : Type}
def kentsF (enc : K → HV) (val : Nat → HV) : Nat → List K → List (HV × HV)
  | _, [] => []
  | i, k :: r => (enc k, val i) :: kentsF enc val (i + 1) r
theorem kentsF_length (enc : K → HV) (val : Nat → HV) : ∀ (ks : List K) (i : Nat), (kentsF enc val i ks).length = ks.length
  | [], _ => rfl
  | _ :: r, i => by simp [kentsF, kentsF_length enc val r]
theorem kentsF_get (enc : K → HV) (val : Nat → HV) : ∀ (ks : List K) (i j : Nat), (kentsF enc val i ks)[j]? = (ks[j]?).map fun k => (enc k, val (i + j))
  | [], _, _ => by simp [kentsF]
  | k :: r, i, 0 => by simp [kentsF]
  | k :: r, i, j + 1 => by
    simp only [kentsF, List.getElem?_cons_succ, kentsF_get enc val r]
    rw [show i + 1 + j = i + (j + 1) by omega]
theorem kentsF_append (enc : K → HV) (val : Nat → HV) (b : List K) : ∀ (a : List K) (i : Nat), kentsF enc val i (a ++ b) = kentsF enc val i a ++ kentsF enc val (i + a.length) b
  | [], i => by simp [kentsF]
  | k :: r, i => by
    simp only [List.cons_append, kentsF, kentsF_append enc val b r, List.length_cons]
    rw [show i + 1 + r.length = i + (r.length + 1) by omega]
/-- The entries: their rows are numbered from B on. -/
def kents (enc : K → HV) (B : Nat) (ks : List K) : List (HV × HV) := kentsF enc (fun i => .ref (B + i)) 0 ks
@[simp] theorem kents_length (enc : K → HV) (B : Nat) (ks : List K) : (kents enc B ks).length = ks.length := kentsF_length ..
theorem kents_get (enc : K → HV) (B : Nat) (ks : List K) (j : Nat) : (kents enc B ks)[j]? = (ks[j]?).map fun k => (enc k, .ref (B + j)) := by
  unfold kents; rw [kentsF_get]; simp
@[simp] theorem kents_nil (enc : K → HV) (B : Nat) : kents enc B [] = [] := rfl
theorem kents_snoc (enc : K → HV) (B : Nat) (ks : List K) (k : K) : kents enc B (ks ++ [k]) = kents enc B ks ++ [(enc k, .ref (B + ks.length))] := by
  unfold kents; rw [kentsF_append]; simp [kentsF]
/-- Looking a key up. -/
theorem findHV_of [DecidableEq K] {t : TypeId} {enc : K → HV} (he : ∀ a b, keyEq P t (enc a) (enc b) = some (decide (a = b))) (c : K) : ∀ (es : List (HV × HV)) (ks : List K) (i : Nat), es.map (·.1) = ks.map enc →
    findHV P t (enc c) es i = some (if c ∈ ks then some (i + ks.idxOf c, (es.getD (ks.idxOf c) (.any, .any)).2) else none)
  | [], [], i, _ => by simp [findHV]
  | [], _ :: _, _, h => by simp at h
  | _ :: _, [], _, h => by simp at h
  | p :: es, k :: ks, i, h => by
    simp only [List.map_cons, List.cons.injEq] at h
    obtain ⟨h1, h2⟩ := h
    simp only [findHV, h1, he]
    by_cases e : c = k
    · subst e; simp
    · simp only [e, decide_false]
      rw [findHV_of he c es ks (i + 1) h2]
      have e' : ¬ k = c := fun h => e h.symm
      simp only [List.mem_cons, e, false_or]
      split
      · have e2 : (k == c) = false := by simpa using e'
        rw [List.idxOf_cons, e2]
        simp only [cond_false, List.getD_cons_succ]
        rw [show i + 1 + ks.idxOf c = i + (ks.idxOf c + 1) by omega]
      · rfl
theorem kents_keys (enc : K → HV) (B : Nat) (ks : List K) : (kents enc B ks).map (·.1) = ks.map enc := by
  apply List.ext_getElem?
  intro i
  rw [List.getElem?_map, kents_get, List.getElem?_map]
  cases ks[i]? <;> rfl
theorem find_kents [DecidableEq K] {t : TypeId} {enc : K → HV} (he : ∀ a b, keyEq P t (enc a) (enc b) = some (decide (a = b))) (B : Nat) (c : K) (ks : List K) :
    findHV P t (enc c) (kents enc B ks) 0 = some (if c ∈ ks then some (ks.idxOf c, .ref (B + ks.idxOf c)) else none) := by
  rw [findHV_of he c _ ks 0 (kents_keys enc B ks)]
  split
  · next h =>
    have hlt := List.idxOf_lt_length_iff.2 h
    simp only [Nat.zero_add]
    rw [List.getD_eq_getElem?_getD, kents_get, List.getElem?_eq_getElem hlt]
    rfl
  · rfl
/-- The entry's row is let go. -/
theorem subM_kents {enc : K → HV} {B i : Nat} {ks : List K} (h : i < ks.length) : subM (B + i) .any .any (kents enc B ks) = (kents enc B ks).set i (enc ks[i], .any) := by
  apply List.ext_getElem?
  intro j
  unfold subM
  rw [List.getElem?_map, List.getElem?_set, kents_get]
  by_cases e : i = j
  · subst e
    rw [if_pos rfl, if_pos (by simpa using h), List.getElem?_eq_getElem h]
    simp [HV.sub]
  · rw [if_neg e]
    cases ks[j]? with
    | none => rfl
    | some k =>
      have : ¬ B + j = B + i := by omega
      have : ¬ j = i := by omega
      simp [HV.sub, this]
theorem subM_kents_out {enc : K → HV} {B id : Nat} {ks : List K} {x y : HV} (h : id < B ∨ B + ks.length ≤ id) : subM id x y (kents enc B ks) = kents enc B ks := by
  apply List.ext_getElem?
  intro j
  unfold subM
  rw [List.getElem?_map, kents_get]
  cases hk : ks[j]? with
  | none => rfl
  | some k =>
    have hj := getElem?_lt hk
    have : ¬ B + j = id := by omega
    simp [HV.sub, this]
theorem find_kents_set [DecidableEq K] {t : TypeId} {enc : K → HV} (he : ∀ a b, keyEq P t (enc a) (enc b) = some (decide (a = b))) (B : Nat) (ks : List K) {c : K} (h : c ∈ ks) (x : HV) :
    findHV P t (enc c) ((kents enc B ks).set (ks.idxOf c) (enc c, x)) 0 = some (some (ks.idxOf c, x)) := by
  have hlt := List.idxOf_lt_length_iff.2 h
  have hk : ((kents enc B ks).set (ks.idxOf c) (enc c, x)).map (·.1) = ks.map enc := by
    rw [List.map_set, kents_keys]
    apply List.ext_getElem?
    intro i
    rw [List.getElem?_set]
    split
    · next e => subst e; rw [if_pos (by simpa using hlt), List.getElem?_map, List.getElem?_eq_getElem hlt]; simp
    · rfl
  rw [findHV_of he c _ ks 0 hk, if_pos h]
  simp only [Nat.zero_add]
  rw [List.getD_eq_getElem?_getD, List.getElem?_set_self (by simpa using hlt)]
  rfl
theorem kents_back [DecidableEq K] {enc : K → HV} (B : Nat) {ks : List K} {c : K} (h : c ∈ ks) : (kents enc B ks).set (ks.idxOf c) (enc c, .ref (B + ks.idxOf c)) = kents enc B ks := by
  have hlt := List.idxOf_lt_length_iff.2 h
  apply List.ext_getElem?
  intro i
  rw [List.getElem?_set]
  split
  · next e => subst e; rw [if_pos (by simpa using hlt), kents_get, List.getElem?_eq_getElem hlt]; simp
  · rfl
theorem kents_set_get [DecidableEq K] {enc : K → HV} (B : Nat) {ks : List K} {c : K} (h : c ∈ ks) (x : HV) : ((kents enc B ks).set (ks.idxOf c) (enc c, x))[ks.idxOf c]? = some (enc c, x) := by
  have hlt := List.idxOf_lt_length_iff.2 h
  rw [List.getElem?_set_self (by simpa using hlt)]
theorem subM_kents_at [DecidableEq K] {enc : K → HV} {B : Nat} {ks : List K} {c : K} (h : c ∈ ks) : subM (B + ks.idxOf c) .any .any (kents enc B ks) = (kents enc B ks).set (ks.idxOf c) (enc c, .any) := by
  have hlt := List.idxOf_lt_length_iff.2 h
  rw [subM_kents hlt, List.getElem_idxOf hlt]
/-- The entries, their rows frozen. -/
def fents (enc : K → HV) (g : K → HV) (ks : List K) : List (HV × HV) := ks.map fun k => (enc k, g k)
@[simp] theorem fents_length (enc g : K → HV) (ks : List K) : (fents enc g ks).length = ks.length := by simp [fents]
theorem fents_get (enc g : K → HV) (ks : List K) (j : Nat) : (fents enc g ks)[j]? = (ks[j]?).map fun k => (enc k, g k) := by simp [fents]
/-- The rows are read alone from here on. -/
theorem HS.le_frzK {L : List Ev} {n m sz : Nat} (B : Nat) (enc : K → HV) (e : TypeId) (rows : K → List (List HV)) (ks : List K) (hm : m < B) (ho : getO L m = .map (kents enc B ks)) (hI : ∀ k, isILL (rows k) = true)
    (hr : ∀ i k, ks[i]? = some k → getO L (B + i) = .row e sz (rows k)) :
    HS.le ⟨L, n⟩ ⟨.o m (.map (fents enc (fun k => .sl sz false (rows k)) ks)) :: .os (fam B ks.length fun _ => .gone) :: L, n⟩ := by
  refine HS.le_frzG B (fun i => (sz, match ks[i]? with | some k => rows k | none => [])) _ (.inl hm) (fun i hi => ?_) ?_
  · have hk := List.getElem?_eq_getElem hi
    exact ⟨e, by simp only [hk]; exact hr i _ hk, by simp only [hk]; exact hI _⟩
  · rw [ho]
    refine ⟨by simp, fun i p p' hp hp' => ?_⟩
    rw [kents_get] at hp
    rw [fents_get] at hp'
    cases hk : ks[i]? with
    | none => rw [hk] at hp; simp at hp
    | some k =>
      rw [hk] at hp hp'
      simp only [Option.map_some, Option.some.injEq] at hp hp'
      subst hp; subst hp'
      exact ⟨rfl, .inr ⟨i, getElem?_lt hk, rfl, by simp only [hk]⟩⟩
end Go.Hv
set_option linter.unusedVariables false
set_option linter.unusedSimpArgs false
namespace Go.Hv
open Go Go.Hv Go.Proofs
open Go.Proofs.Ytphohigoehpkeaa
def eI (n : Int) : HV := .lit (.int .i64 n)
theorem eI_eq (a b : Int) : keyEq Try.prog 3 (eI a) (eI b) = some (decide (a = b)) := by simp [eI, keyEq]
def addK (l : List Int) (c : Int) : List Int := if c ∈ l then l else l ++ [c]
/-- The codes, in the order in which they occur first. -/
def fstK (s : List UInt8) (k : Nat) : List Int := ((List.range k).map (codeAt s)).foldl addK []
theorem fstK_succ (s : List UInt8) (k : Nat) : fstK s (k + 1) = addK (fstK s k) (codeAt s k) := by
  unfold fstK; rw [List.range_succ, List.map_append, List.foldl_append]; rfl
theorem fstK_mem (s : List UInt8) (k : Nat) (c : Int) : c ∈ fstK s k ↔ ∃ i, i < k ∧ codeAt s i = c := by
  induction k with
  | zero => simp [fstK]
  | succ k ih =>
    rw [fstK_succ]
    have : c ∈ addK (fstK s k) (codeAt s k) ↔ c ∈ fstK s k ∨ c = codeAt s k := by
      unfold addK
      split
      · next h => constructor
                  · exact .inl
                  · rintro (h' | rfl); exact h'; exact h
      · simp
    rw [this, ih]
    constructor
    · rintro (⟨i, h1, h2⟩ | rfl)
      · exact ⟨i, by omega, h2⟩
      · exact ⟨k, by omega, rfl⟩
    · rintro ⟨i, h1, h2⟩
      by_cases e : i = k
      · subst e; exact .inr h2.symm
      · exact .inl ⟨i, by omega, h2⟩
theorem fstK_nodup (s : List UInt8) (k : Nat) : (fstK s k).Nodup := by
  induction k with
  | zero => simp [fstK]
  | succ k ih =>
    rw [fstK_succ]
    unfold addK
    split
    · exact ih
    · next h => rw [List.nodup_append]; exact ⟨ih, by simp, fun a ha b hb => by simp at hb; subst hb; rintro rfl; exact h ha⟩
theorem fstK_length (s : List UInt8) (k : Nat) : (fstK s k).length ≤ k := by
  induction k with
  | zero => simp [fstK]
  | succ k ih =>
    rw [fstK_succ]
    unfold addK
    split
    · omega
    · simp; omega
theorem fam_at {B m i : Nat} {g : Nat → HObj} (h : i < m) : fam B m g (B + i) = some (g i) := by
  unfold fam; rw [if_pos (by omega), Nat.add_sub_cancel_left]
theorem fam_not {B m i : Nat} {g : Nat → HObj} (h : i < B ∨ B + m ≤ i) : fam B m g i = none := by
  unfold fam; rw [if_neg (by omega)]
theorem fam_some {B m id : Nat} {g : Nat → HObj} {o : HObj} (h : fam B m g id = some o) : ∃ i, i < m ∧ id = B + i ∧ o = g i := by
  unfold fam at h
  split at h
  · next hc => exact ⟨id - B, by omega, by omega, (Option.some.inj h).symm⟩
  · cases h
def rowK (s : List UInt8) (k i : Nat) : HObj := .row 3 1 (intsHV (offK s k ((fstK s k).getD i 0)))
theorem fstK_succ_get (s : List UInt8) {k i : Nat} (hi : i < (fstK s k).length) : (fstK s (k + 1))[i]? = (fstK s k)[i]? := by
  rw [fstK_succ]; unfold addK
  split
  · rfl
  · rw [List.getElem?_append_left hi]
theorem rowK_same {s : List UInt8} {k i : Nat} (hi : i < (fstK s k).length) (hne : (fstK s k)[i]? ≠ some (codeAt s k)) : rowK s (k + 1) i = rowK s k i := by
  unfold rowK
  rw [List.getD_eq_getElem?_getD, List.getD_eq_getElem?_getD, fstK_succ_get s hi, List.getElem?_eq_getElem hi, offK_succ, if_neg, List.append_nil]
  rw [List.getElem?_eq_getElem hi] at hne
  intro h
  exact hne (by rw [h]; rfl)
theorem rowK_hit {s : List UInt8} {k i : Nat} (he : (fstK s (k + 1))[i]? = some (codeAt s k)) : rowK s (k + 1) i = .row 3 1 (intsHV (offK s k (codeAt s k) ++ [(k : Int)])) := by
  unfold rowK
  rw [List.getD_eq_getElem?_getD, he, offK_succ]
  simp
theorem offK_none {s : List UInt8} {k : Nat} {c : Int} (h : c ∉ fstK s k) : offK s k c = [] := by
  unfold offK
  rw [List.filter_eq_nil_iff.2 (fun i hi => by
    intro h2
    exact h ((fstK_mem s k c).2 ⟨i, by simpa using hi, by simpa using h2⟩))]
  rfl
theorem isIM_fents {K : Type} (enc g : K → HV) (ks : List K) (h : ∀ k, isI (g k) = true) : isIM (fents enc g ks) = true := by
  unfold isIM fents
  simp [h]
theorem isIM_occ (s : List UInt8) (n : Nat) (ks : List Int) : isIM (fents eI (fun k => HV.sl 1 false (intsHV (offK s n k))) ks) = true := isIM_fents _ _ _ (fun _ => rfl)
/-- The offsets of each code. -/
def occV (s : List UInt8) : List (HV × HV) := fents eI (fun c => .sl 1 false (intsHV (offK s (s.length - 2) c))) (fstK s (s.length - 2))
set_option maxHeartbeats 1000000 in
theorem occ_spec (s : List UInt8) (hs : s.length ≤ 900000) : Spec1 Try.prog 65 [.str s] (.mp (occV s)) := by
  refine Spec1.of_HT Try.func65 rfl (by rw [Try.ntmps65]; simp) rfl ?_
  rw [Try.ntmps65]
  refine HT.seq ?_
  refine HT.region ?_   -- R0
  simp (disch := first | omega | (simp <;> omega) | fail) [wrap_i64, wrap_u64, wrap_u8']
  refine HT.seq ?_
  refine HT.region ?_   -- R1
  simp (disch := first | omega | (simp <;> omega) | fail) [wrap_i64, wrap_u64, wrap_u8']
  refine stepK.mk (.call1 _ _ _ _ rfl Ty.hb67 rfl (Fold_spec s (by omega)) rfl rfl) ?_
  simp (disch := first | omega | (simp <;> omega) | fail) [wrap_i64, wrap_u64, wrap_u8']
  refine HT.seq ?_
  refine HT.region ?_   -- R2
  simp (disch := first | omega | (simp <;> omega) | fail) [wrap_i64, wrap_u64, wrap_u8']
  refine HT.seq ?_
  refine HT.seq ?_
  refine HT.region ?_   -- R3
  simp (disch := first | omega | (simp <;> omega) | fail) [wrap_i64, wrap_u64, wrap_u8']
  refine HT.block ?_
  refine HT.loopK (fun k : {k : Nat // k ≤ s.length - 2} => [.s 5 (i64 k), .o 9 (.map (kents eI 1000 (fstK s k))), .os (fam 1000 (fstK s k).length (rowK s k))]) [3, 4] [] (fun k => s.length - k) (⟨0, by omega⟩) ?_ ?_   -- block 0 turned [5]
  · skip
    simp [show fstK s 0 = [] from rfl]
    intro id o h
    obtain ⟨i, hi, _⟩ := fam_some h
    omega
  rintro ⟨k, hk⟩
  simp (disch := first | omega | (simp <;> omega) | fail) [wrap_i64, wrap_u64, wrap_u8']
  refine HT.seq ?_
  refine HT.seq ?_
  refine HT.region ?_   -- R4
  simp (disch := first | omega | (simp <;> omega) | fail) [wrap_i64, wrap_u64, wrap_u8']
  refine HT.cond' ?_   -- if 14
  simp (disch := first | omega | (simp <;> omega) | fail) [wrap_i64, wrap_u64, wrap_u8']
  refine ⟨fun h14 => ?_, fun h14 => ?_⟩
  · skip
    have hk' : k + 2 < s.length := by omega
    have hlen := fstK_length s k
    have hcode := codeAt_foldS hk'
    refine HT.skip ?_
    simp (disch := first | omega | (simp <;> omega) | fail) [wrap_i64, wrap_u64, wrap_u8']
    refine HT.seq ?_
    refine HT.block ?_
    refine HT.seq ?_
    refine HT.region ?_   -- R6
    simp (disch := first | omega | (simp <;> omega) | fail) [wrap_i64, wrap_u64, wrap_u8']
    refine stepK.mk (.call1 _ _ _ _ rfl Ty.hb66 rfl (code_spec (foldS s) k (by simp; omega) (by simp; omega)) rfl rfl) ?_
    simp (disch := first | omega | (simp <;> omega) | fail) [wrap_i64, wrap_u64, wrap_u8', ← hcode]
    by_cases cf : codeAt s k ∈ fstK s k
    · skip
      have hlt := List.idxOf_lt_length_iff.2 cf
      have hb := offK_length s k (codeAt s k)
      have hgd : rowK s k ((fstK s k).idxOf (codeAt s k)) = .row 3 1 (intsHV (offK s k (codeAt s k))) := by
        unfold rowK; rw [List.getD_eq_getElem?_getD, List.getElem?_eq_getElem hlt, List.getElem_idxOf hlt]; rfl
      generalize hidx : (fstK s k).idxOf (codeAt s k) = q at *
      have hf1 : findHV Try.prog 3 (.lit (.int .i64 (codeAt s k))) (kents eI 1000 (fstK s k)) 0 = some (some (q, .ref (1000 + q))) := by
        have := find_kents (P := Try.prog) eI_eq 1000 (codeAt s k) (fstK s k); rw [if_pos cf, hidx] at this; exact this
      have hs1 : subM (1000 + q) .any .any (kents eI 1000 (fstK s k)) = (kents eI 1000 (fstK s k)).set q (.lit (.int .i64 (codeAt s k)), .any) := by rw [← hidx]; exact subM_kents_at cf
      have hf2 : findHV Try.prog 3 (.lit (.int .i64 (codeAt s k))) ((kents eI 1000 (fstK s k)).set q (.lit (.int .i64 (codeAt s k)), .any)) 0 = some (some (q, .any)) := by rw [← hidx]; exact find_kents_set eI_eq 1000 (fstK s k) cf .any
      have hg1 : ((kents eI 1000 (fstK s k)).set q (.lit (.int .i64 (codeAt s k)), .any))[q]? = some (.lit (.int .i64 (codeAt s k)), .any) := by rw [← hidx]; exact kents_set_get (enc := eI) 1000 cf .any
      have hb1 : (kents eI 1000 (fstK s k)).set q (.lit (.int .i64 (codeAt s k)), .ref (1000 + q)) = kents eI 1000 (fstK s k) := by rw [← hidx]; exact kents_back (enc := eI) 1000 cf
      refine HT.region ?_   -- R7
      simp (disch := first | omega | (simp <;> omega) | fail) [wrap_i64, wrap_u64, wrap_u8', hf1, hs1, hf2, hg1, hb1, hgd, fam_at hlt]
      refine HT.region ?_   -- R5
      simp (disch := first | omega | (simp <;> omega) | fail) [wrap_i64, wrap_u64, wrap_u8']
      refine Round.mk' (⟨k + 1, by omega⟩) (by dsimp only; omega) rfl ?_
      simp (disch := first | omega | (simp <;> omega) | fail) [wrap_i64, wrap_u64, wrap_u8']
      first
      | (have e1 : fstK s (k + 1) = fstK s k := by rw [fstK_succ, addK, if_pos cf]
         have e2 : (fstK s (k + 1))[q]? = some (codeAt s k) := by rw [e1, ← hidx, List.getElem?_eq_getElem (by rw [hidx]; exact hlt), List.getElem_idxOf]
         refine ⟨by rw [e1], fun id o h => ?_⟩
         rw [e1] at h
         obtain ⟨i, hi, rfl, rfl⟩ := fam_some h
         rw [if_neg (by omega)]
         by_cases e : q = i
         · subst e; rw [if_pos rfl, rowK_hit e2]
         · have hne : (fstK s k)[i]? ≠ some (codeAt s k) := fun h' => e (by
             rw [← hidx]
             have hi2 := List.getElem?_eq_getElem hi
             rw [hi2] at h'
             have := (fstK_nodup s k).idxOf_getElem i hi
             rw [Option.some.inj h'] at this
             exact this)
           rw [if_neg (by omega), fam_at hi, rowK_same hi hne]
           simp [rowK])
      | (have e1 : fstK s (k + 1) = fstK s k ++ [codeAt s k] := by rw [fstK_succ, addK, if_neg cf]
         have hs2 : subM (1000 + (fstK s k).length) .any .any (kents eI 1000 (fstK s k)) = kents eI 1000 (fstK s k) := subM_kents_out (.inr (Nat.le_refl _))
         have hs3 : subM 27 (.ref (1000 + (fstK s k).length)) (.mref (1000 + (fstK s k).length)) (kents eI 1000 (fstK s k)) = kents eI 1000 (fstK s k) := subM_kents_out (.inl (by decide))
         refine ⟨?_, fun id o h => ?_⟩
         · rw [e1, kents_snoc]
           have ha : ∀ (a b : List (HV × HV)) i x y, subM i x y (a ++ b) = subM i x y a ++ subM i x y b := fun a b i x y => by simp [subM]
           rw [ha, ha, hs2, hs3]
           simp [subM, eI, show ¬ 27 = 1000 + (fstK s k).length by omega]
         · obtain ⟨i, hi, rfl, rfl⟩ := fam_some h
           rw [e1, List.length_append, List.length_singleton] at hi
           by_cases e : (fstK s k).length = i
           · subst e
             rw [if_pos rfl, rowK_hit (by rw [e1, List.getElem?_append_right (Nat.le_refl _), Nat.sub_self]; rfl), offK_none cf]
             rfl
           · have hi' : i < (fstK s k).length := by omega
             have hne : (fstK s k)[i]? ≠ some (codeAt s k) := fun h' => cf (List.mem_of_getElem? h')
             rw [rowK_same hi' hne]
             simp (disch := first | omega | (simp; done) | fail) [show ¬ (fstK s k).length = i from e, fam_at hi', rowK])
    have hf1 : findHV Try.prog 3 (.lit (.int .i64 (codeAt s k))) (kents eI 1000 (fstK s k)) 0 = some none := by
      have := find_kents (P := Try.prog) eI_eq 1000 (codeAt s k) (fstK s k); rw [if_neg cf] at this; exact this
    have hs1 : subM 27 .any .any (kents eI 1000 (fstK s k)) = kents eI 1000 (fstK s k) := subM_kents_out (.inl (by decide))
    refine HT.region ?_   -- R7
    simp (disch := first | omega | (simp <;> omega) | fail) [wrap_i64, wrap_u64, wrap_u8', hf1, hs1]
    refine HT.weaken (HS.le_ren 27 (1000 + (fstK s k).length) rfl ?_) ?_
    · simp (disch := first | omega | (simp <;> omega) | fail) [wrap_i64, wrap_u64, wrap_u8', fam_not]
    simp only [HObj.sub]
    refine HT.region ?_   -- R5
    simp (disch := first | omega | (simp <;> omega) | fail) [wrap_i64, wrap_u64, wrap_u8']
    refine Round.mk' (⟨k + 1, by omega⟩) (by dsimp only; omega) rfl ?_
    simp (disch := first | omega | (simp <;> omega) | fail) [wrap_i64, wrap_u64, wrap_u8']
    first
    | (have e1 : fstK s (k + 1) = fstK s k := by rw [fstK_succ, addK, if_pos cf]
       have e2 : (fstK s (k + 1))[q]? = some (codeAt s k) := by rw [e1, ← hidx, List.getElem?_eq_getElem (by rw [hidx]; exact hlt), List.getElem_idxOf]
       refine ⟨by rw [e1], fun id o h => ?_⟩
       rw [e1] at h
       obtain ⟨i, hi, rfl, rfl⟩ := fam_some h
       rw [if_neg (by omega)]
       by_cases e : q = i
       · subst e; rw [if_pos rfl, rowK_hit e2]
       · have hne : (fstK s k)[i]? ≠ some (codeAt s k) := fun h' => e (by
           rw [← hidx]
           have hi2 := List.getElem?_eq_getElem hi
           rw [hi2] at h'
           have := (fstK_nodup s k).idxOf_getElem i hi
           rw [Option.some.inj h'] at this
           exact this)
         rw [if_neg (by omega), fam_at hi, rowK_same hi hne]
         simp [rowK])
    | (have e1 : fstK s (k + 1) = fstK s k ++ [codeAt s k] := by rw [fstK_succ, addK, if_neg cf]
       have hs2 : subM (1000 + (fstK s k).length) .any .any (kents eI 1000 (fstK s k)) = kents eI 1000 (fstK s k) := subM_kents_out (.inr (Nat.le_refl _))
       have hs3 : subM 27 (.ref (1000 + (fstK s k).length)) (.mref (1000 + (fstK s k).length)) (kents eI 1000 (fstK s k)) = kents eI 1000 (fstK s k) := subM_kents_out (.inl (by decide))
       refine ⟨?_, fun id o h => ?_⟩
       · rw [e1, kents_snoc]
         have ha : ∀ (a b : List (HV × HV)) i x y, subM i x y (a ++ b) = subM i x y a ++ subM i x y b := fun a b i x y => by simp [subM]
         rw [ha, ha, hs2, hs3]
         simp [subM, eI, show ¬ 27 = 1000 + (fstK s k).length by omega]
       · obtain ⟨i, hi, rfl, rfl⟩ := fam_some h
         rw [e1, List.length_append, List.length_singleton] at hi
         by_cases e : (fstK s k).length = i
         · subst e
           rw [if_pos rfl, rowK_hit (by rw [e1, List.getElem?_append_right (Nat.le_refl _), Nat.sub_self]; rfl), offK_none cf]
           rfl
         · have hi' : i < (fstK s k).length := by omega
           have hne : (fstK s k)[i]? ≠ some (codeAt s k) := fun h' => cf (List.mem_of_getElem? h')
           rw [rowK_same hi' hne]
           simp (disch := first | omega | (simp; done) | fail) [show ¬ (fstK s k).length = i from e, fam_at hi', rowK])
  · skip
    obtain rfl : k = s.length - 2 := by omega
    refine HT.exit ?_
    simp (disch := first | omega | (simp <;> omega) | fail) [wrap_i64, wrap_u64, wrap_u8']
    refine HT.weaken (HS.le_frzK (m := 9) (sz := 1) 1000 eI 3 (fun c => intsHV (offK s (s.length - 2) c)) (fstK s (s.length - 2)) (by decide) ?_ (fun _ => by simp) ?_) ?_
    · simp (disch := first | omega | (simp <;> omega) | fail) [wrap_i64, wrap_u64, wrap_u8']
    · intro i c hc
      have hi := getElem?_lt hc
      obtain rfl : (fstK s (s.length - 2))[i] = c := by rw [List.getElem?_eq_getElem hi] at hc; exact Option.some.inj hc
      simp (disch := first | omega | (simp <;> omega) | fail) [wrap_i64, wrap_u64, wrap_u8', fam_at hi, rowK]
    refine HT.seq ?_
    refine HT.region ?_   -- R8
    simp (disch := first | omega | (simp <;> omega) | fail) [wrap_i64, wrap_u64, wrap_u8']
    refine HT.ret ?_
    simp (disch := first | omega | (simp <;> omega) | fail) [wrap_i64, wrap_u64, wrap_u8', isIM_occ, occV]
end Go.Hv
/- The kit's contracts of library functions, laid at this program by the kit's own tool (plain words). -/
namespace Go.Proofs
open Go.Shelf
def Try.lays128_ren : Go.Shelf.Ren := ⟨fun | 128 => 94 | n => n, fun | 51 => 86 | 3 => 3 | 4 => 4 | 46 => 68 | 5 => 5 | 9 => 9 | n => n, fun | n => n⟩
theorem Try.lays128 : Go.Proofs.Lays.n128 Try.prog Try.lays128_ren := {
  mixed := by kernel_rfl
  f128 := Try.func94.trans (congrArg some (by kernel_rfl))
  t3 := Try.underlying3
  a3 := Try.isAgg3
  z3 := Try.sizeOf3
  v3 := Try.zeroValue3
  t4 := Try.underlying4
  a4 := Try.isAgg4
  z4 := Try.sizeOf4
  v4 := Try.zeroValue4
  t5 := Try.underlying5
  a5 := Try.isAgg5
  z5 := Try.sizeOf5
  v5 := Try.zeroValue5
  t9 := Try.underlying9
  a9 := Try.isAgg9
  z9 := Try.sizeOf9
  v9 := Try.zeroValue9
  t46 := Try.underlying68
  a46 := Try.isAgg68
  z46 := Try.sizeOf68
  v46 := Try.zeroValue68
  t51 := Try.underlying86
  a51 := Try.isAgg86
  z51 := Try.sizeOf86
  v51 := Try.zeroValue86 }
/-- bits.Len32: "Len32 returns the minimum number of bits required to represent x; the result is 0 for x == 0.": IT RETURNS 'Lib.bitLen x'; the world is as it was. ('h0', 'h1': x is a uint32.) (LAID: no walk: one application.) -/
theorem Try.bits_Len32 (x : Int) (w : World) (h0 : 0 ≤ x) (h1 : x ≤ 4294967295) :
    Calls Try.prog 94 #[.int .u32 x] w fun e w' => e = .returned (.int .i64 (Lib.bitLen x.toNat)) ∧ w' = w := Any.bits_Len32 Try.lays128 x w h0 h1
def Try.lays125_ren : Go.Shelf.Ren := ⟨fun | 125 => 78 | 128 => 94 | 129 => 95 | n => n, fun | 46 => 68 | 3 => 3 | 51 => 86 | 53 => 88 | 4 => 4 | 5 => 5 | 9 => 9 | n => n, fun | n => n⟩
theorem Try.lays125 : Go.Proofs.Lays.n125 Try.prog Try.lays125_ren := {
  mixed := by kernel_rfl
  f125 := Try.func78.trans (congrArg some (by kernel_rfl))
  f128 := Try.func94.trans (congrArg some (by kernel_rfl))
  f129 := Try.func95.trans (congrArg some (by kernel_rfl))
  t3 := Try.underlying3
  a3 := Try.isAgg3
  z3 := Try.sizeOf3
  v3 := Try.zeroValue3
  t4 := Try.underlying4
  a4 := Try.isAgg4
  z4 := Try.sizeOf4
  v4 := Try.zeroValue4
  t5 := Try.underlying5
  a5 := Try.isAgg5
  z5 := Try.sizeOf5
  v5 := Try.zeroValue5
  t9 := Try.underlying9
  a9 := Try.isAgg9
  z9 := Try.sizeOf9
  v9 := Try.zeroValue9
  t46 := Try.underlying68
  a46 := Try.isAgg68
  z46 := Try.sizeOf68
  v46 := Try.zeroValue68
  t51 := Try.underlying86
  a51 := Try.isAgg86
  z51 := Try.sizeOf86
  v51 := Try.zeroValue86
  t53 := Try.underlying88
  a53 := Try.isAgg88
  z53 := Try.sizeOf88
  v53 := Try.zeroValue88 }
/-- bits.Len: "Len returns the minimum number of bits required to represent x; the result is 0 for x == 0.": IT RETURNS 'Lib.bitLen x'; the world is as it was. (A uint has 64 bits in the model.) ITS CALLEE bits.Len64 IS MET BY ITS OWN CONTRACT OFF THE SHELF (lay that first). (LAID: no walk: one application.) -/
theorem Try.bits_Len (x : Int) (w : World) (h0 : 0 ≤ x) (h1 : x ≤ 18446744073709551615) :
    Calls Try.prog 78 #[.int .u64 x] w fun e w' => e = .returned (.int .i64 (Lib.bitLen x.toNat)) ∧ w' = w := Any.bits_Len Try.lays125 x w h0 h1
def Try.lays215_ren : Go.Shelf.Ren := ⟨fun | 215 => 96 | n => n, fun | 3 => 3 | 4 => 4 | n => n, fun | n => n⟩
theorem Try.lays215 : Go.Proofs.Lays.n215 Try.prog Try.lays215_ren := {
  mixed := by kernel_rfl
  f215 := Try.func96.trans (congrArg some (by kernel_rfl))
  t3 := Try.underlying3
  a3 := Try.isAgg3
  z3 := Try.sizeOf3
  v3 := Try.zeroValue3
  t4 := Try.underlying4
  a4 := Try.isAgg4
  z4 := Try.sizeOf4
  v4 := Try.zeroValue4 }
open Go.RowKit in
/-- cmp.isNaN at int: 'x != x': false. (LAID: no walk: one application.) -/
theorem Try.cmp_isNaN_int (x : Int) (w : World) :
    Calls Try.prog 96 #[.int .i64 x] w fun e w' => e = .returned (.bool false) ∧ w' = w := Any.cmp_isNaN_int Try.lays215 x w
def Try.lays195_ren : Go.Shelf.Ren := ⟨fun | 195 => 74 | n => n, fun | 9 => 9 | 3 => 3 | 0 => 0 | 4 => 4 | n => n, fun | n => n⟩
theorem Try.lays195 : Go.Proofs.Lays.n195 Try.prog Try.lays195_ren := {
  mixed := by kernel_rfl
  f195 := Try.func74.trans (congrArg some (by kernel_rfl))
  t0 := Try.underlying0
  a0 := Try.isAgg0
  z0 := Try.sizeOf0
  v0 := Try.zeroValue0
  t3 := Try.underlying3
  a3 := Try.isAgg3
  z3 := Try.sizeOf3
  v3 := Try.zeroValue3
  t4 := Try.underlying4
  a4 := Try.isAgg4
  z4 := Try.sizeOf4
  v4 := Try.zeroValue4
  t9 := Try.underlying9
  a9 := Try.isAgg9
  z9 := Try.sizeOf9
  v9 := Try.zeroValue9 }
open Go.RowKit in
/-- unicode/utf8.RuneCountInString: "RuneCountInString is like RuneCount but its input is a string." ("RuneCount returns the number of runes in p. Erroneous and short encodings are treated as single runes of width 1 byte."): EVERY STRING, valid UTF-8 or not: 'Lib.runeCount s' (plain Lean over the model's own 'Utf8.decode'; 'Lib.runeCount_le': at most len(s); 'Lib.runeCount_ascii': on ASCII: len(s)). THE ONE CONDITION: len(s) below 2^63 - 1 (the counter does not wrap): the form's reach pays it. THE WORLD BEHIND THE CALL: ONE BLOCK MORE: the model's iterator over s, at its end: all else as it was. (LAID: no walk: one application.) -/
theorem Try.utf8_RuneCountInString (s : ByteArray) (w : World) (hs : s.size < 9223372036854775807) :
    Calls Try.prog 74 #[.string s] w fun e w' => e = .returned (.int .i64 (Lib.runeCount s)) ∧ ∃ pos, w' = w.iter s pos := Any.utf8_RuneCountInString Try.lays195 s w hs
def Try.lays129_ren : Go.Shelf.Ren := ⟨fun | 129 => 95 | n => n, fun | 53 => 88 | 3 => 3 | 4 => 4 | 46 => 68 | 5 => 5 | 9 => 9 | n => n, fun | n => n⟩
theorem Try.lays129 : Go.Proofs.Lays.n129 Try.prog Try.lays129_ren := {
  mixed := by kernel_rfl
  f129 := Try.func95.trans (congrArg some (by kernel_rfl))
  t3 := Try.underlying3
  a3 := Try.isAgg3
  z3 := Try.sizeOf3
  v3 := Try.zeroValue3
  t4 := Try.underlying4
  a4 := Try.isAgg4
  z4 := Try.sizeOf4
  v4 := Try.zeroValue4
  t5 := Try.underlying5
  a5 := Try.isAgg5
  z5 := Try.sizeOf5
  v5 := Try.zeroValue5
  t9 := Try.underlying9
  a9 := Try.isAgg9
  z9 := Try.sizeOf9
  v9 := Try.zeroValue9
  t46 := Try.underlying68
  a46 := Try.isAgg68
  z46 := Try.sizeOf68
  v46 := Try.zeroValue68
  t53 := Try.underlying88
  a53 := Try.isAgg88
  z53 := Try.sizeOf88
  v53 := Try.zeroValue88 }
/-- bits.Len64: "Len64 returns the minimum number of bits required to represent x; the result is 0 for x == 0.": IT RETURNS 'Lib.bitLen x'; the world is as it was. ('h0', 'h1': x is a uint64.) (LAID: no walk: one application.) -/
theorem Try.bits_Len64 (x : Int) (w : World) (h0 : 0 ≤ x) (h1 : x ≤ 18446744073709551615) :
    Calls Try.prog 95 #[.int .u64 x] w fun e w' => e = .returned (.int .i64 (Lib.bitLen x.toNat)) ∧ w' = w := Any.bits_Len64 Try.lays129 x w h0 h1
def Try.lays217_ren : Go.Shelf.Ren := ⟨fun | 217 => 105 | 266 => 117 | n => n, fun | 9 => 9 | 5 => 5 | 3 => 3 | n => n, fun | n => n⟩
theorem Try.lays217 : Go.Proofs.Lays.n217 Try.prog Try.lays217_ren := {
  mixed := by kernel_rfl
  f217 := Try.func105.trans (congrArg some (by kernel_rfl))
  f266 := Try.func117.trans (congrArg some (by kernel_rfl))
  t3 := Try.underlying3
  a3 := Try.isAgg3
  z3 := Try.sizeOf3
  v3 := Try.zeroValue3
  t5 := Try.underlying5
  a5 := Try.isAgg5
  z5 := Try.sizeOf5
  v5 := Try.zeroValue5
  t9 := Try.underlying9
  a9 := Try.isAgg9
  z9 := Try.sizeOf9
  v9 := Try.zeroValue9 }
open Go.RowKit Go.Lib in
/-- internal/stringslite.IndexByte (what strings.IndexByte calls): IT RETURNS 'Lib.indexByte s c'; the world is as it was. (LAID: no walk: one application.) -/
theorem Try.stringslite_IndexByte (s : ByteArray) (c : Int) (w : World) :
    Calls Try.prog 105 #[.string s, .int .u8 c] w fun e w' => e = .returned (.int .i64 (Lib.indexByte s.data.toList c.toNat.toUInt8)) ∧ w' = w := Any.stringslite_IndexByte Try.lays217 s c w
def Try.lays224_ren : Go.Shelf.Ren := ⟨fun | 224 => 107 | n => n, fun | 3 => 3 | n => n, fun | n => n⟩
theorem Try.lays224 : Go.Proofs.Lays.n224 Try.prog Try.lays224_ren := {
  mixed := by kernel_rfl
  f224 := Try.func107.trans (congrArg some (by kernel_rfl))
  t3 := Try.underlying3
  a3 := Try.isAgg3
  z3 := Try.sizeOf3
  v3 := Try.zeroValue3 }
open Go.RowKit Go.Lib in
/-- internal/bytealg.Cutover: "Cutover reports the number of failures of IndexByte we should tolerate before switching over to Index. n is the number of bytes processed so far.": on amd64: (n + 16) / 8. (LAID: no walk: one application.) -/
theorem Try.bytealg_Cutover (n : Int) (h0 : 0 ≤ n) (h1 : n < 4611686018427387904) (w : World) :
    Calls Try.prog 107 #[.int .i64 n] w fun e w' => e = .returned (.int .i64 ((n + 16) / 8)) ∧ w' = w := Any.bytealg_Cutover Try.lays224 n h0 h1 w
def Try.lays314_ren : Go.Shelf.Ren := ⟨fun | 314 => 118 | n => n, fun | 9 => 9 | 51 => 86 | 3 => 3 | 4 => 4 | 5 => 5 | 46 => 68 | n => n, fun | n => n⟩
theorem Try.lays314 : Go.Proofs.Lays.n314 Try.prog Try.lays314_ren := {
  mixed := by kernel_rfl
  f314 := Try.func118.trans (congrArg some (by kernel_rfl))
  t3 := Try.underlying3
  a3 := Try.isAgg3
  z3 := Try.sizeOf3
  v3 := Try.zeroValue3
  t4 := Try.underlying4
  a4 := Try.isAgg4
  z4 := Try.sizeOf4
  v4 := Try.zeroValue4
  t5 := Try.underlying5
  a5 := Try.isAgg5
  z5 := Try.sizeOf5
  v5 := Try.zeroValue5
  t9 := Try.underlying9
  a9 := Try.isAgg9
  z9 := Try.sizeOf9
  v9 := Try.zeroValue9
  t46 := Try.underlying68
  a46 := Try.isAgg68
  z46 := Try.sizeOf68
  v46 := Try.zeroValue68
  t51 := Try.underlying86
  a51 := Try.isAgg86
  z51 := Try.sizeOf86
  v51 := Try.zeroValue86 }
open Go.RowKit Go.Lib in
/-- hashStr: "returns the hash and the appropriate multiplicative factor for use in Rabin-Karp algorithm": THE HASH OF ALL OF sep, AND 16777619 ^ len(sep), both in uint32. (LAID: no walk: one application.) -/
theorem Try.bytealg_hashStr (sep : ByteArray) (hs : sep.size < 4294967281) (w : World) :
    Calls Try.prog 118 #[.string sep] w fun e w' => e = .returned (.tuple #[.int .u32 (RK.H sep.data.toList % 4294967296), .int .u32 (16777619 ^ sep.size % 4294967296)]) ∧ w' = w := Any.bytealg_hashStr Try.lays314 sep hs w
def Try.lays267_ren : Go.Shelf.Ren := ⟨fun | 267 => 108 | 314 => 118 | n => n, fun | 9 => 9 | 3 => 3 | 146 => 103 | 51 => 86 | 4 => 4 | 5 => 5 | 46 => 68 | n => n, fun | n => n⟩
theorem Try.lays267 : Go.Proofs.Lays.n267 Try.prog Try.lays267_ren := {
  mixed := by kernel_rfl
  f267 := Try.func108.trans (congrArg some (by kernel_rfl))
  f314 := Try.func118.trans (congrArg some (by kernel_rfl))
  t3 := Try.underlying3
  a3 := Try.isAgg3
  z3 := Try.sizeOf3
  v3 := Try.zeroValue3
  t4 := Try.underlying4
  a4 := Try.isAgg4
  z4 := Try.sizeOf4
  v4 := Try.zeroValue4
  t5 := Try.underlying5
  a5 := Try.isAgg5
  z5 := Try.sizeOf5
  v5 := Try.zeroValue5
  t9 := Try.underlying9
  a9 := Try.isAgg9
  z9 := Try.sizeOf9
  v9 := Try.zeroValue9
  t46 := Try.underlying68
  a46 := Try.isAgg68
  z46 := Try.sizeOf68
  v46 := Try.zeroValue68
  t51 := Try.underlying86
  a51 := Try.isAgg86
  z51 := Try.sizeOf86
  v51 := Try.zeroValue86
  t146 := Try.underlying103
  a146 := Try.isAgg103
  z146 := Try.sizeOf103
  v146 := Try.zeroValue103 }
open Go.RowKit Go.Lib in
theorem Try.bytealg_IndexRabinKarp (s sep : ByteArray) (h1 : 1 ≤ sep.size) (h2 : sep.size ≤ s.size) (hs : s.size < 4294967281) (w : World) :
    Calls Try.prog 108 #[.string s, .string sep] w fun e w' => e = .returned (.int .i64 (Lib.index s.data.toList sep.data.toList)) ∧ w' = w := Any.bytealg_IndexRabinKarp Try.lays267 s sep h1 h2 hs w
def Try.lays219_ren : Go.Shelf.Ren := ⟨fun | 219 => 85 | 217 => 105 | 225 => 106 | 224 => 107 | 267 => 108 | 266 => 117 | 314 => 118 | n => n, fun | 9 => 9 | 3 => 3 | 4 => 4 | 5 => 5 | 46 => 68 | 146 => 103 | 51 => 86 | n => n, fun | 1 => 0 | n => n⟩
theorem Try.lays219 : Go.Proofs.Lays.n219 Try.prog Try.lays219_ren := {
  mixed := by kernel_rfl
  f217 := Try.func105.trans (congrArg some (by kernel_rfl))
  f219 := Try.func85.trans (congrArg some (by kernel_rfl))
  f224 := Try.func107.trans (congrArg some (by kernel_rfl))
  f225 := Try.func106.trans (congrArg some (by kernel_rfl))
  f266 := Try.func117.trans (congrArg some (by kernel_rfl))
  f267 := Try.func108.trans (congrArg some (by kernel_rfl))
  f314 := Try.func118.trans (congrArg some (by kernel_rfl))
  t3 := Try.underlying3
  a3 := Try.isAgg3
  z3 := Try.sizeOf3
  v3 := Try.zeroValue3
  t4 := Try.underlying4
  a4 := Try.isAgg4
  z4 := Try.sizeOf4
  v4 := Try.zeroValue4
  t5 := Try.underlying5
  a5 := Try.isAgg5
  z5 := Try.sizeOf5
  v5 := Try.zeroValue5
  t9 := Try.underlying9
  a9 := Try.isAgg9
  z9 := Try.sizeOf9
  v9 := Try.zeroValue9
  t46 := Try.underlying68
  a46 := Try.isAgg68
  z46 := Try.sizeOf68
  v46 := Try.zeroValue68
  t51 := Try.underlying86
  a51 := Try.isAgg86
  z51 := Try.sizeOf86
  v51 := Try.zeroValue86
  t146 := Try.underlying103
  a146 := Try.isAgg103
  z146 := Try.sizeOf103
  v146 := Try.zeroValue103
  g1 := by kernel_rfl }
open Go.RowKit Go.Lib in
/-- internal/stringslite.Index (what strings.Index calls) AT A substr OF ONE BYTE c: IT RETURNS 'Lib.indexByte s c'; the world is as it was. (LAID: no walk: one application.) -/
theorem Try.stringslite_Index_one (s : ByteArray) (c : UInt8) (w : World) :
    Calls Try.prog 85 #[.string s, .string ⟨#[c]⟩] w fun e w' => e = .returned (.int .i64 (Lib.indexByte s.data.toList c)) ∧ w' = w := Any.stringslite_Index_one Try.lays219 s c w
open Go.RowKit Go.Lib in
/-- internal/stringslite.Index (what strings.Index calls) AT A substr OF WHATEVER LENGTH: IT RETURNS 'Lib.index s substr'; the world is as it was. 'm': what internal/bytealg.MaxLen holds: whatever. (LAID: no walk: one application.) -/
theorem Try.stringslite_Index (s sub : ByteArray) (m : Int) (w : World) (hs : s.size < 4294967281) (hm : w.cell? ⟨0, 0, none⟩ = some (.int .i64 m)) :
    Calls Try.prog 85 #[.string s, .string sub] w fun e w' => e = .returned (.int .i64 (Lib.index s.data.toList sub.data.toList)) ∧ w' = w := Any.stringslite_Index Try.lays219 s sub m w hs hm
def Try.lays143_ren : Go.Shelf.Ren := ⟨fun | 143 => 76 | 219 => 85 | 217 => 105 | 225 => 106 | 224 => 107 | 267 => 108 | 266 => 117 | 314 => 118 | n => n, fun | 9 => 9 | 3 => 3 | 4 => 4 | 5 => 5 | 46 => 68 | 146 => 103 | 51 => 86 | n => n, fun | 1 => 0 | n => n⟩
theorem Try.lays143 : Go.Proofs.Lays.n143 Try.prog Try.lays143_ren := {
  mixed := by kernel_rfl
  f143 := Try.func76.trans (congrArg some (by kernel_rfl))
  f217 := Try.func105.trans (congrArg some (by kernel_rfl))
  f219 := Try.func85.trans (congrArg some (by kernel_rfl))
  f224 := Try.func107.trans (congrArg some (by kernel_rfl))
  f225 := Try.func106.trans (congrArg some (by kernel_rfl))
  f266 := Try.func117.trans (congrArg some (by kernel_rfl))
  f267 := Try.func108.trans (congrArg some (by kernel_rfl))
  f314 := Try.func118.trans (congrArg some (by kernel_rfl))
  t3 := Try.underlying3
  a3 := Try.isAgg3
  z3 := Try.sizeOf3
  v3 := Try.zeroValue3
  t4 := Try.underlying4
  a4 := Try.isAgg4
  z4 := Try.sizeOf4
  v4 := Try.zeroValue4
  t5 := Try.underlying5
  a5 := Try.isAgg5
  z5 := Try.sizeOf5
  v5 := Try.zeroValue5
  t9 := Try.underlying9
  a9 := Try.isAgg9
  z9 := Try.sizeOf9
  v9 := Try.zeroValue9
  t46 := Try.underlying68
  a46 := Try.isAgg68
  z46 := Try.sizeOf68
  v46 := Try.zeroValue68
  t51 := Try.underlying86
  a51 := Try.isAgg86
  z51 := Try.sizeOf86
  v51 := Try.zeroValue86
  t146 := Try.underlying103
  a146 := Try.isAgg103
  z146 := Try.sizeOf103
  v146 := Try.zeroValue103
  g1 := by kernel_rfl }
open Go.RowKit Go.Lib in
/-- strings.Index: "Index returns the index of the first instance of substr in s, or -1 if substr is not present in s.": AT A substr OF ONE BYTE c: IT RETURNS 'Lib.indexByte s c'; the world is as it was. (LAID: no walk: one application.) -/
theorem Try.strings_Index_one (s : ByteArray) (c : UInt8) (w : World) :
    Calls Try.prog 76 #[.string s, .string ⟨#[c]⟩] w fun e w' => e = .returned (.int .i64 (Lib.indexByte s.data.toList c)) ∧ w' = w := Any.strings_Index_one Try.lays143 s c w
open Go.RowKit Go.Lib in
/-- strings.Index: "Index returns the index of the first instance of substr in s, or -1 if substr is not present in s.": IT RETURNS 'Lib.index s substr'; the world is as it was. (LAID: no walk: one application.) -/
theorem Try.strings_Index (s sub : ByteArray) (m : Int) (w : World) (hs : s.size < 4294967281) (hm : w.cell? ⟨0, 0, none⟩ = some (.int .i64 m)) :
    Calls Try.prog 76 #[.string s, .string sub] w fun e w' => e = .returned (.int .i64 (Lib.index s.data.toList sub.data.toList)) ∧ w' = w := Any.strings_Index Try.lays143 s sub m w hs hm
def Try.lays138_ren : Go.Shelf.Ren := ⟨fun | 138 => 48 | 195 => 74 | 218 => 75 | 143 => 76 | 219 => 85 | 217 => 105 | 225 => 106 | 224 => 107 | 267 => 108 | 266 => 117 | 314 => 118 | n => n, fun | 9 => 9 | 3 => 3 | 4 => 4 | 5 => 5 | 0 => 0 | 46 => 68 | 146 => 103 | 51 => 86 | n => n, fun | 1 => 0 | n => n⟩
theorem Try.lays138 : Go.Proofs.Lays.n138 Try.prog Try.lays138_ren := {
  mixed := by kernel_rfl
  f138 := Try.func48.trans (congrArg some (by kernel_rfl))
  f143 := Try.func76.trans (congrArg some (by kernel_rfl))
  f195 := Try.func74.trans (congrArg some (by kernel_rfl))
  f217 := Try.func105.trans (congrArg some (by kernel_rfl))
  f218 := Try.func75.trans (congrArg some (by kernel_rfl))
  f219 := Try.func85.trans (congrArg some (by kernel_rfl))
  f224 := Try.func107.trans (congrArg some (by kernel_rfl))
  f225 := Try.func106.trans (congrArg some (by kernel_rfl))
  f266 := Try.func117.trans (congrArg some (by kernel_rfl))
  f267 := Try.func108.trans (congrArg some (by kernel_rfl))
  f314 := Try.func118.trans (congrArg some (by kernel_rfl))
  t0 := Try.underlying0
  a0 := Try.isAgg0
  z0 := Try.sizeOf0
  v0 := Try.zeroValue0
  t3 := Try.underlying3
  a3 := Try.isAgg3
  z3 := Try.sizeOf3
  v3 := Try.zeroValue3
  t4 := Try.underlying4
  a4 := Try.isAgg4
  z4 := Try.sizeOf4
  v4 := Try.zeroValue4
  t5 := Try.underlying5
  a5 := Try.isAgg5
  z5 := Try.sizeOf5
  v5 := Try.zeroValue5
  t9 := Try.underlying9
  a9 := Try.isAgg9
  z9 := Try.sizeOf9
  v9 := Try.zeroValue9
  t46 := Try.underlying68
  a46 := Try.isAgg68
  z46 := Try.sizeOf68
  v46 := Try.zeroValue68
  t51 := Try.underlying86
  a51 := Try.isAgg86
  z51 := Try.sizeOf86
  v51 := Try.zeroValue86
  t146 := Try.underlying103
  a146 := Try.isAgg103
  z146 := Try.sizeOf103
  v146 := Try.zeroValue103
  g1 := by kernel_rfl }
open Go.RowKit Go.Lib in
/-- strings.Count AT A substr OF ONE BYTE ('hp'): "Count counts the number of non-overlapping instances of substr in s.": IT RETURNS 'Lib.countByte s (that byte)'; the world is as it was. ✋ NO CONTRACT HERE YET at an empty substr (utf8.RuneCountInString) or at a longer one (a loop over strings.Index). (LAID: no walk: one application.) -/
theorem Try.strings_Count_one (s : ByteArray) (c : UInt8) (w : World) :
    Calls Try.prog 48 #[.string s, .string ⟨#[c]⟩] w fun e w' => e = .returned (.int .i64 (Lib.countByte s.data.toList c)) ∧ w' = w := Any.strings_Count_one Try.lays138 s c w
open Go.RowKit Go.Lib in
/-- strings.Count AT A substr OF TWO BYTES OR MORE: "Count counts the number of non-overlapping instances of substr in s.": IT RETURNS 'Lib.count s substr'; the world is as it was. (LAID: no walk: one application.) -/
theorem Try.strings_Count (s sub : ByteArray) (m : Int) (w : World) (hs : s.size < 4294967281) (hm : w.cell? ⟨0, 0, none⟩ = some (.int .i64 m)) (h2 : 2 ≤ sub.size) :
    Calls Try.prog 48 #[.string s, .string sub] w fun e w' => e = .returned (.int .i64 (Lib.countB s sub)) ∧ w' = w := Any.strings_Count Try.lays138 s sub m w hs hm h2
def Try.laysM219_ren : Go.Shelf.Ren := ⟨fun | 219 => 85 | 217 => 105 | 225 => 106 | 224 => 107 | 267 => 108 | 266 => 117 | 314 => 118 | n => n, fun | 9 => 9 | 3 => 3 | 4 => 4 | 5 => 5 | 46 => 68 | 146 => 103 | 51 => 86 | n => n, fun | 1 => 0 | n => n⟩
theorem Try.laysM219 : Go.Proofs.LaysM.n219 Try.prog Try.laysM219_ren := {
  mixed := by kernel_rfl
  f217 := Try.func105.trans (congrArg some (by kernel_rfl))
  f219 := Try.func85.trans (congrArg some (by kernel_rfl))
  f224 := Try.func107.trans (congrArg some (by kernel_rfl))
  f225 := Try.func106.trans (congrArg some (by kernel_rfl))
  f266 := Try.func117.trans (congrArg some (by kernel_rfl))
  f267 := Try.func108.trans (congrArg some (by kernel_rfl))
  f314 := Try.func118.trans (congrArg some (by kernel_rfl))
  t3 := Try.underlying3
  a3 := Try.isAgg3
  z3 := Try.sizeOf3
  v3 := Try.zeroValue3
  t4 := Try.underlying4
  a4 := Try.isAgg4
  z4 := Try.sizeOf4
  v4 := Try.zeroValue4
  t5 := Try.underlying5
  a5 := Try.isAgg5
  z5 := Try.sizeOf5
  v5 := Try.zeroValue5
  t9 := Try.underlying9
  a9 := Try.isAgg9
  z9 := Try.sizeOf9
  v9 := Try.zeroValue9
  t46 := Try.underlying68
  a46 := Try.isAgg68
  z46 := Try.sizeOf68
  v46 := Try.zeroValue68
  t51 := Try.underlying86
  a51 := Try.isAgg86
  z51 := Try.sizeOf86
  v51 := Try.zeroValue86
  t146 := Try.underlying103
  a146 := Try.isAgg103
  z146 := Try.sizeOf103
  v146 := Try.zeroValue103
  g1 := by kernel_rfl
  i3 := by kernel_rfl
  i4 := by kernel_rfl
  i5 := by kernel_rfl
  i9 := by kernel_rfl
  i46 := by kernel_rfl
  i51 := by kernel_rfl
  i146 := by kernel_rfl
  m1 := by kernel_rfl
  s1_3 := fun w h => Go.Proofs.cell_of_shapedOpen_int (zero := #[.int .i64 0]) (t := 3) h (of_decide_eq_true (by kernel_rfl)) (by kernel_rfl) rfl (by kernel_rfl) (by kernel_rfl) Try.underlying3 }
open Go.RowKit Go.Lib in
theorem Try.stringslite_Index_shaped (s sub : ByteArray) (w : World) (h : w.ShapedOpen Try.prog) (hs : s.size < 4294967281) :
    Calls Try.prog 85 #[.string s, .string sub] w fun e w' => e = .returned (.int .i64 (Lib.index s.data.toList sub.data.toList)) ∧ w' = w := Any.stringslite_Index_shaped Try.laysM219 s sub w h hs
def Try.laysM143_ren : Go.Shelf.Ren := ⟨fun | 143 => 76 | 219 => 85 | 217 => 105 | 225 => 106 | 224 => 107 | 267 => 108 | 266 => 117 | 314 => 118 | n => n, fun | 9 => 9 | 3 => 3 | 4 => 4 | 5 => 5 | 46 => 68 | 146 => 103 | 51 => 86 | n => n, fun | 1 => 0 | n => n⟩
theorem Try.laysM143 : Go.Proofs.LaysM.n143 Try.prog Try.laysM143_ren := {
  mixed := by kernel_rfl
  f143 := Try.func76.trans (congrArg some (by kernel_rfl))
  f217 := Try.func105.trans (congrArg some (by kernel_rfl))
  f219 := Try.func85.trans (congrArg some (by kernel_rfl))
  f224 := Try.func107.trans (congrArg some (by kernel_rfl))
  f225 := Try.func106.trans (congrArg some (by kernel_rfl))
  f266 := Try.func117.trans (congrArg some (by kernel_rfl))
  f267 := Try.func108.trans (congrArg some (by kernel_rfl))
  f314 := Try.func118.trans (congrArg some (by kernel_rfl))
  t3 := Try.underlying3
  a3 := Try.isAgg3
  z3 := Try.sizeOf3
  v3 := Try.zeroValue3
  t4 := Try.underlying4
  a4 := Try.isAgg4
  z4 := Try.sizeOf4
  v4 := Try.zeroValue4
  t5 := Try.underlying5
  a5 := Try.isAgg5
  z5 := Try.sizeOf5
  v5 := Try.zeroValue5
  t9 := Try.underlying9
  a9 := Try.isAgg9
  z9 := Try.sizeOf9
  v9 := Try.zeroValue9
  t46 := Try.underlying68
  a46 := Try.isAgg68
  z46 := Try.sizeOf68
  v46 := Try.zeroValue68
  t51 := Try.underlying86
  a51 := Try.isAgg86
  z51 := Try.sizeOf86
  v51 := Try.zeroValue86
  t146 := Try.underlying103
  a146 := Try.isAgg103
  z146 := Try.sizeOf103
  v146 := Try.zeroValue103
  g1 := by kernel_rfl
  i3 := by kernel_rfl
  i4 := by kernel_rfl
  i5 := by kernel_rfl
  i9 := by kernel_rfl
  i46 := by kernel_rfl
  i51 := by kernel_rfl
  i146 := by kernel_rfl
  m1 := by kernel_rfl
  s1_3 := fun w h => Go.Proofs.cell_of_shapedOpen_int (zero := #[.int .i64 0]) (t := 3) h (of_decide_eq_true (by kernel_rfl)) (by kernel_rfl) rfl (by kernel_rfl) (by kernel_rfl) Try.underlying3 }
open Go.RowKit Go.Lib in
theorem Try.strings_Index_shaped (s sub : ByteArray) (w : World) (h : w.ShapedOpen Try.prog) (hs : s.size < 4294967281) :
    Calls Try.prog 76 #[.string s, .string sub] w fun e w' => e = .returned (.int .i64 (Lib.index s.data.toList sub.data.toList)) ∧ w' = w := Any.strings_Index_shaped Try.laysM143 s sub w h hs
def Try.laysM138_ren : Go.Shelf.Ren := ⟨fun | 138 => 48 | 195 => 74 | 218 => 75 | 143 => 76 | 219 => 85 | 217 => 105 | 225 => 106 | 224 => 107 | 267 => 108 | 266 => 117 | 314 => 118 | n => n, fun | 9 => 9 | 3 => 3 | 4 => 4 | 5 => 5 | 0 => 0 | 46 => 68 | 146 => 103 | 51 => 86 | n => n, fun | 1 => 0 | n => n⟩
theorem Try.laysM138 : Go.Proofs.LaysM.n138 Try.prog Try.laysM138_ren := {
  mixed := by kernel_rfl
  f138 := Try.func48.trans (congrArg some (by kernel_rfl))
  f143 := Try.func76.trans (congrArg some (by kernel_rfl))
  f195 := Try.func74.trans (congrArg some (by kernel_rfl))
  f217 := Try.func105.trans (congrArg some (by kernel_rfl))
  f218 := Try.func75.trans (congrArg some (by kernel_rfl))
  f219 := Try.func85.trans (congrArg some (by kernel_rfl))
  f224 := Try.func107.trans (congrArg some (by kernel_rfl))
  f225 := Try.func106.trans (congrArg some (by kernel_rfl))
  f266 := Try.func117.trans (congrArg some (by kernel_rfl))
  f267 := Try.func108.trans (congrArg some (by kernel_rfl))
  f314 := Try.func118.trans (congrArg some (by kernel_rfl))
  t0 := Try.underlying0
  a0 := Try.isAgg0
  z0 := Try.sizeOf0
  v0 := Try.zeroValue0
  t3 := Try.underlying3
  a3 := Try.isAgg3
  z3 := Try.sizeOf3
  v3 := Try.zeroValue3
  t4 := Try.underlying4
  a4 := Try.isAgg4
  z4 := Try.sizeOf4
  v4 := Try.zeroValue4
  t5 := Try.underlying5
  a5 := Try.isAgg5
  z5 := Try.sizeOf5
  v5 := Try.zeroValue5
  t9 := Try.underlying9
  a9 := Try.isAgg9
  z9 := Try.sizeOf9
  v9 := Try.zeroValue9
  t46 := Try.underlying68
  a46 := Try.isAgg68
  z46 := Try.sizeOf68
  v46 := Try.zeroValue68
  t51 := Try.underlying86
  a51 := Try.isAgg86
  z51 := Try.sizeOf86
  v51 := Try.zeroValue86
  t146 := Try.underlying103
  a146 := Try.isAgg103
  z146 := Try.sizeOf103
  v146 := Try.zeroValue103
  g1 := by kernel_rfl
  i0 := by kernel_rfl
  i3 := by kernel_rfl
  i4 := by kernel_rfl
  i5 := by kernel_rfl
  i9 := by kernel_rfl
  i46 := by kernel_rfl
  i51 := by kernel_rfl
  i146 := by kernel_rfl
  m1 := by kernel_rfl
  s1_3 := fun w h => Go.Proofs.cell_of_shapedOpen_int (zero := #[.int .i64 0]) (t := 3) h (of_decide_eq_true (by kernel_rfl)) (by kernel_rfl) rfl (by kernel_rfl) (by kernel_rfl) Try.underlying3 }
open Go.RowKit Go.Lib in
theorem Try.strings_Count_shaped (s sub : ByteArray) (w : World) (h : w.ShapedOpen Try.prog) (hs : s.size < 4294967281) (h2 : 2 ≤ sub.size) :
    Calls Try.prog 48 #[.string s, .string sub] w fun e w' => e = .returned (.int .i64 (Lib.countB s sub)) ∧ w' = w := Any.strings_Count_shaped Try.laysM138 s sub w h hs h2
def Try.lays189_ren : Go.Shelf.Ren := ⟨fun | 189 => 49 | 125 => 78 | 257 => 77 | 128 => 94 | 129 => 95 | 294 => 86 | 295 => 87 | 296 => 88 | 297 => 89 | 298 => 90 | 299 => 91 | 216 => 80 | 300 => 92 | 301 => 93 | 328 => 109 | 329 => 110 | 330 => 111 | 331 => 112 | 332 => 113 | 215 => 96 | 343 => 119 | n => n, fun | 28 => 24 | 3 => 3 | 46 => 68 | 0 => 0 | 51 => 86 | 53 => 88 | 4 => 4 | 183 => 81 | 182 => 80 | 131 => 39 | 5 => 5 | 9 => 9 | 218 => 95 | 222 => 99 | 228 => 105 | 229 => 106 | n => n, fun | n => n⟩
theorem Try.lays189 : Go.Proofs.Lays.n189 Try.prog Try.lays189_ren := {
  mixed := by kernel_rfl
  f125 := Try.func78.trans (congrArg some (by kernel_rfl))
  f128 := Try.func94.trans (congrArg some (by kernel_rfl))
  f129 := Try.func95.trans (congrArg some (by kernel_rfl))
  f189 := Try.func49.trans (congrArg some (by kernel_rfl))
  f215 := Try.func96.trans (congrArg some (by kernel_rfl))
  f216 := Try.func80.trans (congrArg some (by kernel_rfl))
  f257 := Try.func77.trans (congrArg some (by kernel_rfl))
  f294 := Try.func86.trans (congrArg some (by kernel_rfl))
  f295 := Try.func87.trans (congrArg some (by kernel_rfl))
  f296 := Try.func88.trans (congrArg some (by kernel_rfl))
  f297 := Try.func89.trans (congrArg some (by kernel_rfl))
  f298 := Try.func90.trans (congrArg some (by kernel_rfl))
  f299 := Try.func91.trans (congrArg some (by kernel_rfl))
  f300 := Try.func92.trans (congrArg some (by kernel_rfl))
  f301 := Try.func93.trans (congrArg some (by kernel_rfl))
  f328 := Try.func109.trans (congrArg some (by kernel_rfl))
  f329 := Try.func110.trans (congrArg some (by kernel_rfl))
  f330 := Try.func111.trans (congrArg some (by kernel_rfl))
  f331 := Try.func112.trans (congrArg some (by kernel_rfl))
  f332 := Try.func113.trans (congrArg some (by kernel_rfl))
  f343 := Try.func119.trans (congrArg some (by kernel_rfl))
  t0 := Try.underlying0
  a0 := Try.isAgg0
  z0 := Try.sizeOf0
  v0 := Try.zeroValue0
  t3 := Try.underlying3
  a3 := Try.isAgg3
  z3 := Try.sizeOf3
  v3 := Try.zeroValue3
  t4 := Try.underlying4
  a4 := Try.isAgg4
  z4 := Try.sizeOf4
  v4 := Try.zeroValue4
  t5 := Try.underlying5
  a5 := Try.isAgg5
  z5 := Try.sizeOf5
  v5 := Try.zeroValue5
  t9 := Try.underlying9
  a9 := Try.isAgg9
  z9 := Try.sizeOf9
  v9 := Try.zeroValue9
  t28 := Try.underlying24
  a28 := Try.isAgg24
  z28 := Try.sizeOf24
  v28 := Try.zeroValue24
  t46 := Try.underlying68
  a46 := Try.isAgg68
  z46 := Try.sizeOf68
  v46 := Try.zeroValue68
  t51 := Try.underlying86
  a51 := Try.isAgg86
  z51 := Try.sizeOf86
  v51 := Try.zeroValue86
  t53 := Try.underlying88
  a53 := Try.isAgg88
  z53 := Try.sizeOf88
  v53 := Try.zeroValue88
  t131 := Try.underlying39
  a131 := Try.isAgg39
  z131 := Try.sizeOf39
  v131 := Try.zeroValue39
  t182 := Try.underlying80
  a182 := Try.isAgg80
  z182 := Try.sizeOf80
  v182 := Try.zeroValue80
  t183 := Try.underlying81
  a183 := Try.isAgg81
  z183 := Try.sizeOf81
  v183 := Try.zeroValue81
  t218 := Try.underlying95
  a218 := Try.isAgg95
  z218 := Try.sizeOf95
  v218 := Try.zeroValue95
  t222 := Try.underlying99
  a222 := Try.isAgg99
  z222 := Try.sizeOf99
  v222 := Try.zeroValue99
  t228 := Try.underlying105
  a228 := Try.isAgg105
  z228 := Try.sizeOf105
  v228 := Try.zeroValue105
  t229 := Try.underlying106
  a229 := Try.isAgg106
  z229 := Try.sizeOf106
  v229 := Try.zeroValue106 }
open Go.Sort Go.RowKit in
theorem Try.slices_Sort_int (blk off cap : Nat) (zs : List Int) (w : World) (hH : Holds (Value.int .i64) w blk off zs.toArray) (hblk : blk < w.heap.size) (hsz : zs.length < 4611686018427387904) :
    Calls Try.prog 49 #[.slice (some ⟨blk, off, none⟩) zs.length cap] w fun e w' =>
      e = .returned (.tuple #[]) ∧ ∃ n os, w' = grow (putRow (Value.int .i64) (Sort.ahead w n) blk off (zs.mergeSort fun x y => decide (x ≤ y)).toArray) os := Any.slices_Sort_int Try.lays189 blk off cap zs w hH hblk hsz
open Go.RowKit Go.Lib in
/-- strings.Count at whatever sep that is not empty: the two roads under one statement. (LAID: no walk: one application.) -/
theorem Try.strings_Count_any (s sep : ByteArray) (m : Int) (w : World) (hs : s.size < 4294967281) (hm : w.cell? ⟨0, 0, none⟩ = some (.int .i64 m)) (h1 : 1 ≤ sep.size) :
    Calls Try.prog 48 #[.string s, .string sep] w fun e w' => e = .returned (.int .i64 (Lib.countB s sep)) ∧ w' = w := Any.strings_Count_any Try.lays138 s sep m w hs hm h1
open Go.RowKit Go.Lib in
theorem Try.utf8_RuneCountInString_ascii (s : ByteArray) (w : World) (hs : s.size < 4294967281) (hascii : ∀ (j : Nat) b, s.data.toList[j]? = some b → b.toNat < 128) :
    Calls Try.prog 74 #[.string s] w fun e w' => e = .returned (.int .i64 s.size) ∧ w' = w.iter s s.size := Any.utf8_RuneCountInString_ascii Try.lays195 s w hs hascii
def Try.lays108_ren : Go.Shelf.Ren := ⟨fun | 108 => 79 | n => n, fun | 28 => 24 | 3 => 3 | 0 => 0 | 4 => 4 | n => n, fun | n => n⟩
theorem Try.lays108 : Go.Proofs.Lays.n108 Try.prog Try.lays108_ren := {
  mixed := by kernel_rfl
  f108 := Try.func79.trans (congrArg some (by kernel_rfl))
  t0 := Try.underlying0
  a0 := Try.isAgg0
  z0 := Try.sizeOf0
  v0 := Try.zeroValue0
  t3 := Try.underlying3
  a3 := Try.isAgg3
  z3 := Try.sizeOf3
  v3 := Try.zeroValue3
  t4 := Try.underlying4
  a4 := Try.isAgg4
  z4 := Try.sizeOf4
  v4 := Try.zeroValue4
  t28 := Try.underlying24
  a28 := Try.isAgg24
  z28 := Try.sizeOf24
  v28 := Try.zeroValue24 }
open Go.Lib in
/-- slices.Index at []int: "Index returns the index of the first occurrence of v in s, or -1 if not present.": IT RETURNS 'Lib.idxOf (the elements) v'; the world is as it was. 'zs': what the cells behind the slice's address hold (its spare capacity too, if you have it); 'zs.take n': its elements. (LAID: no walk: one application.) -/
theorem Try.slices_Index_int (b off n c : Nat) (zs : List Int) (x : Int) (w : World) (hz : n ≤ zs.length) (hbig : n ≤ 9223372036854775807) (hc : ∀ j, j < zs.length → w.cell? ⟨b, off + j, none⟩ = some (.int .i64 (zs.getD j 0))) :
    Calls Try.prog 79 #[.slice (some ⟨b, off, none⟩) n c, .int .i64 x] w fun e w' => e = .returned (.int .i64 (Lib.idxOf (zs.take n) x)) ∧ w' = w := Any.slices_Index_int Try.lays108 b off n c zs x w hz hbig hc
open Go.Lib in
/-- The same at a slice of length 0, a nil one too: no cell is known, none is asked for. (LAID: no walk: one application.) -/
theorem Try.slices_Index_int_empty (a : Option Addr) (c : Nat) (x : Int) (w : World) :
    Calls Try.prog 79 #[.slice a 0 c, .int .i64 x] w fun e w' => e = .returned (.int .i64 (Lib.idxOf [] x)) ∧ w' = w := Any.slices_Index_int_empty Try.lays108 a c x w
def Try.lays107_ren : Go.Shelf.Ren := ⟨fun | 107 => 54 | 108 => 79 | n => n, fun | 28 => 24 | 3 => 3 | 4 => 4 | 0 => 0 | n => n, fun | n => n⟩
theorem Try.lays107 : Go.Proofs.Lays.n107 Try.prog Try.lays107_ren := {
  mixed := by kernel_rfl
  f107 := Try.func54.trans (congrArg some (by kernel_rfl))
  f108 := Try.func79.trans (congrArg some (by kernel_rfl))
  t0 := Try.underlying0
  a0 := Try.isAgg0
  z0 := Try.sizeOf0
  v0 := Try.zeroValue0
  t3 := Try.underlying3
  a3 := Try.isAgg3
  z3 := Try.sizeOf3
  v3 := Try.zeroValue3
  t4 := Try.underlying4
  a4 := Try.isAgg4
  z4 := Try.sizeOf4
  v4 := Try.zeroValue4
  t28 := Try.underlying24
  a28 := Try.isAgg24
  z28 := Try.sizeOf24
  v28 := Try.zeroValue24 }
open Go.Lib in
/-- slices.Contains at []int: "Contains reports whether v is present in s.": IT RETURNS 'elements.contains v'; the world is as it was. ITS CALLEE slices.Index IS MET BY ITS OWN CONTRACT OFF THE SHELF (lay that first): no loop is walked here. (LAID: no walk: one application.) -/
theorem Try.slices_Contains_int (b off n c : Nat) (zs : List Int) (x : Int) (w : World) (hz : n ≤ zs.length) (hbig : n ≤ 9223372036854775807) (hc : ∀ j, j < zs.length → w.cell? ⟨b, off + j, none⟩ = some (.int .i64 (zs.getD j 0))) :
    Calls Try.prog 54 #[.slice (some ⟨b, off, none⟩) n c, .int .i64 x] w fun e w' => e = .returned (.bool ((zs.take n).contains x)) ∧ w' = w := Any.slices_Contains_int Try.lays107 b off n c zs x w hz hbig hc
open Go.Lib in
/-- The same at a slice of length 0, a nil one too. (LAID: no walk: one application.) -/
theorem Try.slices_Contains_int_empty (a : Option Addr) (c : Nat) (x : Int) (w : World) :
    Calls Try.prog 54 #[.slice a 0 c, .int .i64 x] w fun e w' => e = .returned (.bool false) ∧ w' = w := Any.slices_Contains_int_empty Try.lays107 a c x w
def Try.laysNm215_ren : Go.Shelf.Ren := ⟨fun | 15 => 57 | n => n, fun | 22 => 24 | 3 => 3 | 4 => 4 | n => n, fun | n => n⟩
theorem Try.laysNm215 : Go.Proofs.Lays2.n15 Try.prog Try.laysNm215_ren := {
  mixed := by kernel_rfl
  f15 := Try.func57.trans (congrArg some (by kernel_rfl))
  t3 := Try.underlying3
  a3 := Try.isAgg3
  z3 := Try.sizeOf3
  v3 := Try.zeroValue3
  t4 := Try.underlying4
  a4 := Try.isAgg4
  z4 := Try.sizeOf4
  v4 := Try.zeroValue4
  t22 := Try.underlying24
  a22 := Try.isAgg24
  z22 := Try.sizeOf24
  v22 := Try.zeroValue24
  i3 := by kernel_rfl }
open Go.RowKit Go.Lib in
/-- slices.Clone at []int: "Clone returns a copy of the slice. The elements are copied using assignment, so this is a shallow clone. The result may have additional unused capacity. The result preserves the nilness of s.": OF A SLICE THAT IS NOT nil IT RETURNS A SLICE THAT IS NOT nil, OF THE SAME ELEMENTS, IN MEMORY OF THE CALL's OWN: in the how-to's words (6f): 'w'.ownsRow B e 1 v' n cells': v' begins at the head of a row among the blocks from B on (B: the heap's size at the call), not frozen, whose first cells are the elements · 'Below B w w'': below B all is as it was. The capacity is whatever the run-time gives. 'zs': what the cells behind the slice's address hold; 'zs.take n': its elements. (LAID: no walk: one application.) -/
theorem Try.slices_Clone_int (b off n c : Nat) (zs : List Int) (w : World) (hz : n ≤ zs.length) (hbig : n * 8 ≤ 140737488355328) (hc : ∀ j, j < zs.length → w.cell? ⟨b, off + j, none⟩ = some (.int .i64 (zs.getD j 0))) :
    Calls Try.prog 57 #[.slice (some ⟨b, off, none⟩) n c] w fun e w' => ∃ v', e = .returned v' ∧ w'.ownsRow w.heap.size 3 1 v' n ((zs.take n).map (Value.int .i64)) ∧ v' ≠ .slice none 0 0 ∧ Below w.heap.size w w' := Any.slices_Clone_int Try.laysNm215 b off n c zs w hz hbig hc
open Go.RowKit Go.Lib in
/-- The same at nil: nil comes back; the world is as it was. (LAID: no walk: one application.) -/
theorem Try.slices_Clone_int_nil (n c : Nat) (w : World) :
    Calls Try.prog 57 #[.slice none n c] w fun e w' => e = .returned (.slice none 0 0) ∧ w' = w := Any.slices_Clone_int_nil Try.laysNm215 n c w
open Go.RowKit Go.Lib in
/-- The same at a slice of length 0 that is not nil, WHATEVER ITS ADDRESS (no cell is asked for): a slice that is not nil and owns nothing comes back. (LAID: no walk: one application.) -/
theorem Try.slices_Clone_int_zero (a : Addr) (c : Nat) (w : World) :
    Calls Try.prog 57 #[.slice (some a) 0 c] w fun e w' => ∃ v', e = .returned v' ∧ w'.ownsRow w.heap.size 3 1 v' 0 [] ∧ v' ≠ .slice none 0 0 ∧ Below w.heap.size w w' := Any.slices_Clone_int_zero Try.laysNm215 a c w
def Try.laysNm220_ren : Go.Shelf.Ren := ⟨fun | 20 => 50 | n => n, fun | 22 => 24 | 3 => 3 | 4 => 4 | 0 => 0 | n => n, fun | n => n⟩
theorem Try.laysNm220 : Go.Proofs.Lays2.n20 Try.prog Try.laysNm220_ren := {
  mixed := by kernel_rfl
  f20 := Try.func50.trans (congrArg some (by kernel_rfl))
  t0 := Try.underlying0
  a0 := Try.isAgg0
  z0 := Try.sizeOf0
  v0 := Try.zeroValue0
  t3 := Try.underlying3
  a3 := Try.isAgg3
  z3 := Try.sizeOf3
  v3 := Try.zeroValue3
  t4 := Try.underlying4
  a4 := Try.isAgg4
  z4 := Try.sizeOf4
  v4 := Try.zeroValue4
  t22 := Try.underlying24
  a22 := Try.isAgg24
  z22 := Try.sizeOf24
  v22 := Try.zeroValue24
  i3 := by kernel_rfl }
open Go.RowKit Go.Lib Go.Sort in
/-- slices.Compact at []int, over an array: the library's two loops are walked. (LAID: no walk: one application.) -/
theorem Try.slices_Compact_int_arr (blk off cap : Nat) (d : Array Int) (w : World) (hH : Holds encI w blk off d) (hsz : d.size ≤ 9223372036854775807) (hcap : d.size ≤ cap) :
    Calls Try.prog 50 #[.slice (some ⟨blk, off, none⟩) d.size cap] w fun e w' => e = .returned (.slice (some ⟨blk, off, none⟩) (compactUpTo d d.size).length cap) ∧ ∃ q, w' = putRow encI (Sort.ahead w q) blk off (compactUpTo d d.size ++ List.replicate (d.size - (compactUpTo d d.size).length) 0).toArray := Any.slices_Compact_int_arr Try.laysNm220 blk off cap d w hH hsz hcap
open Go.RowKit Go.Lib Go.Sort in
/-- slices.Compact at []int: "Compact replaces consecutive runs of equal elements with a single copy. This is like the uniq command found on Unix. Compact modifies the contents of the slice s and returns the modified slice, which may have a smaller length. Compact zeroes the elements between the new length and the original length. The result preserves the nilness of s.": IT RETURNS THE SLICE CUT TO 'Lib.compact zs'; ITS CELLS HOLD 'Lib.compact zs', THEN ZERO VALUES up to the old length; all else is as it was, but for the count of draws. IN THE WORDS OF slices.Sort's CONTRACT ('Holds', 'putRow'): so the everyday 'slices.Sort(xs); xs = slices.Compact(xs)' goes from the one contract to the other. It asks 'zs.length ≤ cap' (every slice's: the reslicing 's[:k]' looks at it). Length 0, nil: '.._empty'. (LAID: no walk: one application.) -/
theorem Try.slices_Compact_int (blk off cap : Nat) (zs : List Int) (w : World) (hH : Holds (Value.int .i64) w blk off zs.toArray) (hsz : zs.length ≤ 9223372036854775807) (hcap : zs.length ≤ cap) :
    Calls Try.prog 50 #[.slice (some ⟨blk, off, none⟩) zs.length cap] w fun e w' => e = .returned (.slice (some ⟨blk, off, none⟩) (Lib.compact zs).length cap) ∧ ∃ q, w' = putRow (Value.int .i64) (Sort.ahead w q) blk off (Lib.compact zs ++ List.replicate (zs.length - (Lib.compact zs).length) 0).toArray := Any.slices_Compact_int Try.laysNm220 blk off cap zs w hH hsz hcap
open Go.RowKit Go.Lib Go.Sort in
/-- The same at a slice of length 0, a nil one too: it comes back as it is. (LAID: no walk: one application.) -/
theorem Try.slices_Compact_int_empty (a : Option Addr) (cap : Nat) (w : World) :
    Calls Try.prog 50 #[.slice a 0 cap] w fun e w' => e = .returned (.slice a 0 cap) ∧ w' = w := Any.slices_Compact_int_empty Try.laysNm220 a cap w
def Try.laysNm237_ren : Go.Shelf.Ren := ⟨fun | 37 => 96 | n => n, fun | 3 => 3 | 4 => 4 | n => n, fun | n => n⟩
theorem Try.laysNm237 : Go.Proofs.Lays2.n37 Try.prog Try.laysNm237_ren := {
  mixed := by kernel_rfl
  f37 := Try.func96.trans (congrArg some (by kernel_rfl))
  t3 := Try.underlying3
  a3 := Try.isAgg3
  z3 := Try.sizeOf3
  v3 := Try.zeroValue3
  t4 := Try.underlying4
  a4 := Try.isAgg4
  z4 := Try.sizeOf4
  v4 := Try.zeroValue4 }
open Go.RowKit Go.Lib in
/-- cmp.isNaN[int]: 'x != x': false. (LAID: no walk: one application.) -/
theorem Try.cmp_isNaN_int2 (x : Int) (w : World) :
    Calls Try.prog 96 #[.int .i64 x] w fun e w' => e = .returned (.bool false) ∧ w' = w := Any.cmp_isNaN_int2 Try.laysNm237 x w
def Try.laysNm232_ren : Go.Shelf.Ren := ⟨fun | 32 => 81 | n => n, fun | 3 => 3 | 4 => 4 | n => n, fun | n => n⟩
theorem Try.laysNm232 : Go.Proofs.Lays2.n32 Try.prog Try.laysNm232_ren := {
  mixed := by kernel_rfl
  f32 := Try.func81.trans (congrArg some (by kernel_rfl))
  t3 := Try.underlying3
  a3 := Try.isAgg3
  z3 := Try.sizeOf3
  v3 := Try.zeroValue3
  t4 := Try.underlying4
  a4 := Try.isAgg4
  z4 := Try.sizeOf4
  v4 := Try.zeroValue4 }
open Go.RowKit Go.Lib in
/-- slices.isNaN[int]: 'x != x': false. (LAID: no walk: one application.) -/
theorem Try.slices_isNaN_int2 (x : Int) (w : World) :
    Calls Try.prog 81 #[.int .i64 x] w fun e w' => e = .returned (.bool false) ∧ w' = w := Any.slices_isNaN_int2 Try.laysNm232 x w
def Try.laysNm231_ren : Go.Shelf.Ren := ⟨fun | 31 => 80 | 37 => 96 | n => n, fun | 3 => 3 | 4 => 4 | n => n, fun | n => n⟩
theorem Try.laysNm231 : Go.Proofs.Lays2.n31 Try.prog Try.laysNm231_ren := {
  mixed := by kernel_rfl
  f31 := Try.func80.trans (congrArg some (by kernel_rfl))
  f37 := Try.func96.trans (congrArg some (by kernel_rfl))
  t3 := Try.underlying3
  a3 := Try.isAgg3
  z3 := Try.sizeOf3
  v3 := Try.zeroValue3
  t4 := Try.underlying4
  a4 := Try.isAgg4
  z4 := Try.sizeOf4
  v4 := Try.zeroValue4 }
open Go.RowKit Go.Lib in
/-- cmp.Less[int]: "Less reports whether x is less than y.": 'x < y'; the world is as it was. (LAID: no walk: one application.) -/
theorem Try.cmp_Less_int2 (x y : Int) (w : World) :
    Calls Try.prog 80 #[.int .i64 x, .int .i64 y] w fun e w' => e = .returned (.bool (decide (x < y))) ∧ w' = w := Any.cmp_Less_int2 Try.laysNm231 x y w
def Try.laysNm225_ren : Go.Shelf.Ren := ⟨fun | 25 => 59 | 31 => 80 | 32 => 81 | 37 => 96 | n => n, fun | 22 => 24 | 3 => 3 | 4 => 4 | 40 => 68 | 0 => 0 | n => n, fun | n => n⟩
theorem Try.laysNm225 : Go.Proofs.Lays2.n25 Try.prog Try.laysNm225_ren := {
  mixed := by kernel_rfl
  f25 := Try.func59.trans (congrArg some (by kernel_rfl))
  f31 := Try.func80.trans (congrArg some (by kernel_rfl))
  f32 := Try.func81.trans (congrArg some (by kernel_rfl))
  f37 := Try.func96.trans (congrArg some (by kernel_rfl))
  t0 := Try.underlying0
  a0 := Try.isAgg0
  z0 := Try.sizeOf0
  v0 := Try.zeroValue0
  t3 := Try.underlying3
  a3 := Try.isAgg3
  z3 := Try.sizeOf3
  v3 := Try.zeroValue3
  t4 := Try.underlying4
  a4 := Try.isAgg4
  z4 := Try.sizeOf4
  v4 := Try.zeroValue4
  t22 := Try.underlying24
  a22 := Try.isAgg24
  z22 := Try.sizeOf24
  v22 := Try.zeroValue24
  t40 := Try.underlying68
  a40 := Try.isAgg68
  z40 := Try.sizeOf68
  v40 := Try.zeroValue68 }
open Go.RowKit Go.Lib in
/-- slices.BinarySearch at []int: "BinarySearch searches for target in a sorted slice and returns the earliest position where target is found, or the position where target would appear in the sort order; it also returns a bool saying whether the target is really found in the slice. The slice must be sorted in increasing order.": OF A SORTED SLICE IT RETURNS how many elements are less than the target, and whether the target is among the elements; the world is as it was but for the count of draws. 'zs': what the cells behind the slice's address hold; 'zs.take n': its elements. (Of a slice that is not sorted: no contract here.) (LAID: no walk: one application.) -/
theorem Try.slices_BinarySearch_int (b off n c : Nat) (zs : List Int) (x : Int) (w : World) (hz : n ≤ zs.length) (hbig : n < 4611686018427387904) (hc : ∀ j, j < zs.length → w.cell? ⟨b, off + j, none⟩ = some (.int .i64 (zs.getD j 0))) (hs : (zs.take n).Pairwise (· ≤ ·)) :
    Calls Try.prog 59 #[.slice (some ⟨b, off, none⟩) n c, .int .i64 x] w fun e w' => e = .returned (.tuple #[.int .i64 ((zs.take n).countP (· < x) : Nat), .bool ((zs.take n).contains x)]) ∧ ∃ q, w' = w.drewN q := Any.slices_BinarySearch_int Try.laysNm225 b off n c zs x w hz hbig hc hs
open Go.RowKit Go.Lib Go.Sort in
/-- slices.Compact at []int, of an argument: the slice cut to 'Lib.compact (elements)'; the n cells hold that, then zeros. (LAID: no walk: one application.) -/
theorem Try.slices_Compact_int_cells (b off n c : Nat) (zs : List Int) (w : World) (hz : n ≤ zs.length) (hbig : n ≤ 9223372036854775807) (hcap : n ≤ c) (hc : ∀ j, j < zs.length → w.cell? ⟨b, off + j, none⟩ = some (.int .i64 (zs.getD j 0))) (hf : ∀ j, j < n → w.frozen? ⟨b, off + j, none⟩ = false) :
    Calls Try.prog 50 #[.slice (some ⟨b, off, none⟩) n c] w fun e w' => e = .returned (.slice (some ⟨b, off, none⟩) (Lib.compact (zs.take n)).length c) ∧ ∃ q, w' = (w.drewN q).setCells b off ((Lib.compact (zs.take n) ++ List.replicate (n - (Lib.compact (zs.take n)).length) 0).map (Value.int .i64)) := Any.slices_Compact_int_cells Try.laysNm220 b off n c zs w hz hbig hcap hc hf
open Go.RowKit Go.Sort in
/-- .. and plain. (LAID: no walk: one application.) -/
theorem Try.slices_Sort_int_none (p : Option Addr) (cap : Nat) (w : World) :
    Calls Try.prog 49 #[.slice p 0 cap] w fun e w' => e = .returned (.tuple #[]) ∧ w' = w := Any.slices_Sort_int_none Try.lays189 p cap w
open Go.RowKit Go.Lib in
/-- slices.BinarySearch at []int of no element: position 0, not found; the world is as it was. (LAID: no walk: one application.) -/
theorem Try.slices_BinarySearch_int_empty (a : Option Addr) (c : Nat) (x : Int) (w : World) :
    Calls Try.prog 59 #[.slice a 0 c, .int .i64 x] w fun e w' => e = .returned (.tuple #[.int .i64 0, .bool false]) ∧ w' = w := Any.slices_BinarySearch_int_empty Try.laysNm225 a c x w
def Try.laysSlE041_f57_ren : Go.Shelf.Ren := ⟨fun | 41 => 57 | n => n, fun | 22 => 24 | 23 => 3 | 4 => 4 | n => n, fun | n => n⟩
theorem Try.laysSlE041_f57 : Go.Proofs.SlLaysE0.n41 Try.prog Try.laysSlE041_f57_ren := {
  mixed := by kernel_rfl
  f41 := ⟨Try.f57.name, by decide, Try.func57.trans (congrArg some (by kernel_rfl))⟩
  t4 := Try.underlying4
  a4 := Try.isAgg4
  z4 := Try.sizeOf4
  v4 := Try.zeroValue4
  t22 := Try.underlying24
  a22 := Try.isAgg24
  z22 := Try.sizeOf24
  v22 := Try.zeroValue24 }
open Go.RowKit Go.Lib in
/-- slices.Clone: "Clone returns a copy of the slice. The elements are copied using assignment, so this is a shallow clone. The result may have additional unused capacity. The result preserves the nilness of s.": OF A SLICE THAT IS NOT nil IT RETURNS A SLICE THAT IS NOT nil, OF THE SAME CELLS, IN MEMORY OF THE CALL's OWN ('ownsRow': the how-to's 6f); below the heap's size at the call all is as it was. (LAID AT THE INSTANCE 'slices.Clone[[]int,int]': no walk: one application.) -/
theorem Try.slices_Clone (i0 : TypeInfo) (z : Value) (size bytes : Nat) (hi : Try.prog.info? 3 = some i0) (hz0 : i0.zero = some z) (hz1 : i0.size = size) (hz2 : i0.bytes = bytes) (hzs : z.cells.size = size) (hsz : 0 < size) (z23 : ∀ w, (Go.sizeOf 3).run Try.prog w = .ok size w) (b off n c : Nat) (news : List Value) (w : World) (hl : news.length = n * size) (hn : n ≤ maxLen) (hbig : n * bytes ≤ 140737488355328) (hc : ∀ j u, news[j]? = some u → w.cell? ⟨b, off + j, none⟩ = some u) (h1 : ∀ u ∈ news, u.oneCell' = true) :
    Calls Try.prog 57 #[.slice (some ⟨b, off, none⟩) n c] w fun e w' => ∃ v', e = .returned v' ∧ w'.ownsRow w.heap.size 3 size v' n news ∧ v' ≠ .slice none 0 0 ∧ Below w.heap.size w w' := AnyE.slices_Clone Try.laysSlE041_f57 i0 z size bytes hi hz0 hz1 hz2 hzs hsz z23 b off n c news w hl hn hbig hc h1
open Go.RowKit Go.Lib in
/-- The same at nil: nil comes back; the world is as it was; nothing is asked of the element's type. (LAID AT THE INSTANCE 'slices.Clone[[]int,int]': no walk: one application.) -/
theorem Try.slices_Clone_nil (n c : Nat) (w : World) :
    Calls Try.prog 57 #[.slice none n c] w fun e w' => e = .returned (.slice none 0 0) ∧ w' = w := AnyE.slices_Clone_nil Try.laysSlE041_f57 n c w
end Go.Proofs
namespace Go.Proofs
open Go.Shelf
def Try.laysF70_ren : Go.Shelf.Ren := ⟨fun | 6 => 70 | 15 => 78 | 14 => 84 | 28 => 94 | 29 => 95 | 20 => 97 | 21 => 98 | 22 => 99 | 23 => 100 | 24 => 101 | 25 => 102 | 26 => 103 | 27 => 104 | 46 => 114 | 47 => 110 | 48 => 111 | 49 => 115 | 50 => 116 | 57 => 120 | n => n, fun | 22 => 30 | 24 => 32 | 25 => 70 | 3 => 3 | 39 => 68 | 0 => 0 | 53 => 86 | 55 => 88 | 4 => 4 | 46 => 81 | 45 => 80 | 50 => 39 | 5 => 5 | 9 => 9 | 66 => 95 | 70 => 99 | 76 => 105 | 77 => 106 | n => n, fun | n => n⟩
theorem Try.laysF70 : Go.Proofs.SlLaysF0.n6 Try.prog Try.laysF70_ren := {
  mixed := by kernel_rfl
  f6 := ⟨Try.f70.name, by decide, Try.func70.trans (congrArg some (by kernel_rfl))⟩
  f14 := ⟨Try.f84.name, by decide, Try.func84.trans (congrArg some (by kernel_rfl))⟩
  f15 := Try.func78.trans (congrArg some (by kernel_rfl))
  f20 := ⟨Try.f97.name, by decide, Try.func97.trans (congrArg some (by kernel_rfl))⟩
  f21 := ⟨Try.f98.name, by decide, Try.func98.trans (congrArg some (by kernel_rfl))⟩
  f22 := ⟨Try.f99.name, by decide, Try.func99.trans (congrArg some (by kernel_rfl))⟩
  f23 := ⟨Try.f100.name, by decide, Try.func100.trans (congrArg some (by kernel_rfl))⟩
  f24 := ⟨Try.f101.name, by decide, Try.func101.trans (congrArg some (by kernel_rfl))⟩
  f25 := ⟨Try.f102.name, by decide, Try.func102.trans (congrArg some (by kernel_rfl))⟩
  f26 := ⟨Try.f103.name, by decide, Try.func103.trans (congrArg some (by kernel_rfl))⟩
  f27 := ⟨Try.f104.name, by decide, Try.func104.trans (congrArg some (by kernel_rfl))⟩
  f28 := Try.func94.trans (congrArg some (by kernel_rfl))
  f29 := Try.func95.trans (congrArg some (by kernel_rfl))
  f46 := ⟨Try.f114.name, by decide, Try.func114.trans (congrArg some (by kernel_rfl))⟩
  f47 := Try.func110.trans (congrArg some (by kernel_rfl))
  f48 := Try.func111.trans (congrArg some (by kernel_rfl))
  f49 := ⟨Try.f115.name, by decide, Try.func115.trans (congrArg some (by kernel_rfl))⟩
  f50 := ⟨Try.f116.name, by decide, Try.func116.trans (congrArg some (by kernel_rfl))⟩
  f57 := ⟨Try.f120.name, by decide, Try.func120.trans (congrArg some (by kernel_rfl))⟩
  t0 := Try.underlying0
  a0 := Try.isAgg0
  z0 := Try.sizeOf0
  v0 := Try.zeroValue0
  t3 := Try.underlying3
  a3 := Try.isAgg3
  z3 := Try.sizeOf3
  v3 := Try.zeroValue3
  t4 := Try.underlying4
  a4 := Try.isAgg4
  z4 := Try.sizeOf4
  v4 := Try.zeroValue4
  t5 := Try.underlying5
  a5 := Try.isAgg5
  z5 := Try.sizeOf5
  v5 := Try.zeroValue5
  t9 := Try.underlying9
  a9 := Try.isAgg9
  z9 := Try.sizeOf9
  v9 := Try.zeroValue9
  t22 := Try.underlying30
  a22 := Try.isAgg30
  z22 := Try.sizeOf30
  v22 := Try.zeroValue30
  t25 := Try.underlying70
  a25 := Try.isAgg70
  z25 := Try.sizeOf70
  v25 := Try.zeroValue70
  t39 := Try.underlying68
  a39 := Try.isAgg68
  z39 := Try.sizeOf68
  v39 := Try.zeroValue68
  t45 := Try.underlying80
  a45 := Try.isAgg80
  z45 := Try.sizeOf80
  v45 := Try.zeroValue80
  t46 := Try.underlying81
  a46 := Try.isAgg81
  z46 := Try.sizeOf81
  v46 := Try.zeroValue81
  t50 := Try.underlying39
  a50 := Try.isAgg39
  z50 := Try.sizeOf39
  v50 := Try.zeroValue39
  t53 := Try.underlying86
  a53 := Try.isAgg86
  z53 := Try.sizeOf86
  v53 := Try.zeroValue86
  t55 := Try.underlying88
  a55 := Try.isAgg88
  z55 := Try.sizeOf88
  v55 := Try.zeroValue88
  t66 := Try.underlying95
  a66 := Try.isAgg95
  z66 := Try.sizeOf95
  v66 := Try.zeroValue95
  t70 := Try.underlying99
  a70 := Try.isAgg99
  z70 := Try.sizeOf99
  v70 := Try.zeroValue99
  t76 := Try.underlying105
  a76 := Try.isAgg105
  z76 := Try.sizeOf105
  v76 := Try.zeroValue105
  t77 := Try.underlying106
  a77 := Try.isAgg106
  z77 := Try.sizeOf106
  v77 := Try.zeroValue106 }
end Go.Proofs
set_option linter.unusedVariables false
set_option linter.unusedSimpArgs false
namespace Go.Hv
open Go Go.Hv Go.Proofs Go.RowKit
open Go.Sort (putRow putCells Holds grow mapBlock onCells)
open Go.Proofs.Ytphohigoehpkeaa
def leI (a b : Int) : Bool := decide (a ≤ b)
theorem isLit_intsHV_at {l : List Int} {i j : Nat} {x : List HV} {c : HV} (hx : (intsHV l)[i]? = some x) (hc : x[j]? = some c) : j = 0 ∧ ∃ a, l[i]? = some a ∧ c = .lit (.int .i64 a) := by
  unfold intsHV at hx
  rw [List.getElem?_map] at hx
  cases h : l[i]? with
  | none => rw [h] at hx; cases hx
  | some a =>
    rw [h] at hx
    obtain rfl := (Option.some.inj hx).symm
    match j with
    | 0 => exact ⟨rfl, a, rfl, (Option.some.inj hc).symm⟩
    | j + 1 => simp at hc
theorem Sort_spec (l : List Int) (hlen : l.length < 4611686018427387904) : SpecS Try.prog 49 3 1 (intsHV l) [] (intsHV (l.mergeSort leI)) := by
  have hl2 : (l.mergeSort leI).length = l.length := List.length_mergeSort _
  refine SpecS.of_cells (by simp [hl2]) (fun x hx => by obtain ⟨p, _, rfl⟩ := List.mem_map.1 hx; rfl) (by simp) (fun w blk cap us V dead hVs hcell hblk hcap hmax hone hdead hrep hus hargs => ?_) (fun A w us dead hus hargs hes => ?_)
  · have hu : us = #[] := Array.eq_empty_of_size_eq_zero hus
    subst hu
    have hV : V = (l.map (Value.int .i64)).toArray := by
      apply Array.ext_getElem?
      intro i
      rcases Nat.lt_or_ge i l.length with hi | hi
      · have hg := List.getElem?_eq_getElem hi
        obtain ⟨u, h1, h2⟩ := hrep i 0 [.lit (.int .i64 l[i])] _ (by simp [intsHV, hg, i64]) rfl
        rw [irep_lit h2] at h1
        simpa [hg] using h1
      · rw [Array.getElem?_eq_none (by rw [hVs]; simp; omega), Array.getElem?_eq_none (by simp; omega)]
    subst hV
    have hH : Holds (Value.int .i64) w blk 0 l.toArray := by
      intro i hi
      have := hcell i (by simpa using hi)
      have hi' : i < l.length := by simpa using hi
      rw [Nat.zero_add]
      refine ⟨?_, this.2⟩
      rw [this.1]
      simp [List.getElem?_eq_getElem hi', getElem!_pos l i hi']
    have := Try.slices_Sort_int blk 0 cap l w hH hblk hlen
    rw [show (intsHV l).length = l.length by simp]
    refine this.mono ?_
    rintro x w' ⟨rfl, n, os, rfl⟩
    refine ⟨rfl, n, os, ((l.mergeSort leI).map (Value.int .i64)).toArray, by simp [hl2], fun v hv => by simp at hv; obtain ⟨a, _, rfl⟩ := hv; rfl, ?_, fun i j x c hx hc => ?_⟩
    · rw [putRow_map]; simp [leI]; rfl
    · obtain ⟨rfl, a, ha, rfl⟩ := isLit_intsHV_at hx hc
      exact ⟨.int .i64 a, by simp [ha], .lit _⟩
  · have hu : us = #[] := Array.eq_empty_of_size_eq_zero hus
    subst hu
    exact Any.slices_Sort_int_none Try.lays189 A 0 w

set_option maxHeartbeats 1000000 in
theorem closure71 (x y : El) (W : World) : Calls Try.prog 71 #[.agg #[.int .i64 x.1.1, x.1.2], .agg #[.int .i64 y.1.1, y.1.2]] W fun e w' => e = .returned (.int .i64 (cfE x y)) ∧ ∃ q os', w' = grow (W.drewN q) os' := by
  have hw : IntKind.i64.wrap (x.1.1 - y.1.1) = cfE x y := by
    have := x.2.1; have := y.2.1
    unfold cfE
    simp [IntKind.wrap, IntKind.bits, IntKind.signed]; omega
  go_enter Try.func71, Try.ntmps71
  go_wp2
  go_ret
  exact ⟨rfl, 0, _, by rw [Go.Sort.alloc_eq_grow, Go.Sort.alloc_eq_grow, Go.Sort.grow_grow]; rfl⟩
theorem SortFunc_spec (cs : List (Int × HV)) (hr : ∀ p ∈ cs, 0 ≤ p.1 ∧ p.1 < 16777216) (hnd : (cs.map (·.1)).Nodup) (hI : ∀ p ∈ cs, isI p.2 = true) (hlen : cs.length < 4611686018427387904) : SpecS Try.prog 70 32 2 (pairsHV cs) [.fn (.func 71) []] (pairsHV (cs.mergeSort leC)) := by
  refine SpecS.sortCode cs hr hnd hI hlen (fun d blk cap w hH hblk hsz => ?_) (fun A w => ?_)
  · have eg : ∀ args w, (callFunc 71 args).run Try.prog w = .ok (.enter 71 args) w := enters_of Try.func71 (by kernel_rfl) rfl
    exact AnyQ.slices_SortFunc Try.laysF70 2 Try.isAgg32 Try.sizeOf32 encE (fun _ => rfl) (fun x v hv => by simp [encE] at hv; rcases hv with rfl | rfl; rfl; exact x.2.2) cfE swoE 71 #[] blk 0 cap d w eg (fun _ _ _ _ x y => closure71 x y _) hH hblk hsz
  · exact AnyF.slices_SortFunc_none (P := Try.prog) (ρ := Try.laysF70_ren) { Try.laysF70 with } A 0 (.func (.func 71) #[] #[]) w
end Go.Hv
set_option linter.unusedVariables false
set_option linter.unusedSimpArgs false
namespace Go.Hv
open Go Go.Hv Go.Proofs
open Go.Proofs.Ytphohigoehpkeaa
theorem ofK_nodup (s : List UInt8) (k : Nat) : (ofK s k).Nodup := (ofK_inc s k).imp fun h => by intro e; subst e; omega
theorem ofK_perm (s : List UInt8) (k : Nat) : (ofK s k).Perm (fstK s k) := (List.perm_ext_iff_of_nodup (ofK_nodup s k) (fstK_nodup s k)).2 fun c => by rw [ofK_mem, fstK_mem]
theorem filter_ne_perm {l : List Nat} (hn : l.Nodup) {i : Nat} (hi : i ∈ l) : (i :: l.filter (· != i)).Perm l := by
  have : l.filter (· != i) = l.erase i := by
    rw [List.Nodup.erase_eq_filter hn]
  rw [this]
  exact (List.perm_cons_erase hi).symm
theorem perm_step {d l : List Nat} {n i : Nat} (h : (d ++ l).Perm (List.range n)) (hi : i ∈ l) : ((d ++ [i]) ++ l.filter (· != i)).Perm (List.range n) ∧ (l.filter (· != i)).length < l.length := by
  have hn : l.Nodup := by
    have := (h.nodup_iff).2 List.nodup_range
    exact (List.nodup_append.1 this).2.1
  have hp := filter_ne_perm hn hi
  constructor
  · rw [List.append_assoc]
    exact (List.Perm.append_left d hp).trans h
  · have := hp.length_eq
    simp at this; omega
theorem map_getD_range {α : Type} (l : List α) (d : α) : (List.range l.length).map (fun i => l.getD i d) = l := by
  apply List.ext_getElem?
  intro i
  rw [List.getElem?_map]
  rcases Nat.lt_or_ge i l.length with h | h
  · rw [List.getElem?_range h]; simp [List.getElem?_eq_getElem h]
  · rw [List.getElem?_eq_none (by simpa using h), List.getElem?_eq_none h]; rfl
theorem perm_taken {α : Type} {l : List α} {d : List Nat} (x : α) (h : (d ++ []).Perm (List.range l.length)) : (d.map (fun i => l.getD i x)).Perm l := by
  rw [List.append_nil] at h
  have := h.map (fun i => l.getD i x)
  rwa [map_getD_range] at this
theorem leI_sorted {l : List Int} (h : Inc l) : l.Pairwise fun a b => leI a b = true := h.imp fun h => by simp [leI]; omega
theorem mergeSort_of_inc {a b : List Int} (h : Inc a) (hp : b.Perm a) : b.mergeSort leI = a := by
  refine List.Perm.eq_of_pairwise (le := fun a b => leI a b = true) (fun x y _ _ h1 h2 => by simp [leI] at h1 h2; omega) ?_ (leI_sorted h) ((List.mergeSort_perm b leI).trans hp)
  exact List.pairwise_mergeSort (fun a b c h1 h2 => by simp [leI] at *; omega) (fun a b => by simp [leI]; omega) b
theorem sorted_of (s : List UInt8) {d : List Nat} (h : (d ++ []).Perm (List.range (fstK s (s.length - 2)).length)) : (d.map fun i => (fstK s (s.length - 2))[i]?.getD 0).mergeSort leI = ofV s := by
  have := perm_taken 0 h
  simp only [List.getD_eq_getElem?_getD] at this
  exact mergeSort_of_inc (ofK_inc s _) (this.trans (ofK_perm s _).symm)
@[simp] theorem occV_length (s : List UInt8) : (occV s).length = (fstK s (s.length - 2)).length := by simp [occV]
set_option maxHeartbeats 1000000 in
theorem Of_spec (s : List UInt8) (hs : s.length ≤ 900000) : Spec1 Try.prog 29 [.str s] (.sl 1 false (intsHV (ofV s))) := by
  have hlen := fstK_length s (s.length - 2)
  have hol := ofV_length s
  refine Spec1.of_HT Try.func29 rfl (by rw [Try.ntmps29]; simp) rfl ?_
  rw [Try.ntmps29]
  refine HT.seq ?_
  refine HT.region ?_   -- R0
  simp (disch := first | omega | (simp <;> omega) | fail) [wrap_i64, wrap_u64, wrap_u8', eI]
  refine HT.seq ?_
  refine HT.region ?_   -- R1
  simp (disch := first | omega | (simp <;> omega) | fail) [wrap_i64, wrap_u64, wrap_u8', eI]
  refine HT.weaken (HS.le_own (t := 3) 200 3 1 _ (by decide) rfl (by decide)) ?_
  refine HT.seq ?_
  refine HT.seq ?_
  refine HT.region ?_   -- R2
  simp (disch := first | omega | (simp <;> omega) | fail) [wrap_i64, wrap_u64, wrap_u8', eI]
  refine stepK.mk (.call1f _ _ _ _ _ rfl Ty.hb65 rfl rfl (occ_spec s hs) rfl) ?_
  simp (disch := first | omega | (simp <;> omega) | fail) [wrap_i64, wrap_u64, wrap_u8', eI]
  refine HT.block ?_
  refine HT.loopK (fun k : {k : List Nat × List Nat × Option (HV × HV) // (k.1 ++ k.2.1).Perm (List.range (fstK s (s.length - 2)).length)} => [.s 3 (.ref 200), .o 200 (.row 3 1 (intsHV (k.1.1.map fun i => (fstK s (s.length - 2)).getD i 0))), .o 7 (.iter (occV s) k.1.2.1 k.1.2.2)]) [7] [] (fun k => k.1.2.1.length) (⟨⟨[], List.range (fstK s (s.length - 2)).length, none⟩, by simp⟩) ?_ ?_   -- block 0 turned [3]
  · simp (disch := first | omega | (simp <;> omega) | fail) [wrap_i64, wrap_u64, wrap_u8', eI]
  rintro ⟨⟨dn, lf, la⟩, hp⟩
  simp (disch := first | omega | (simp <;> omega) | fail) [wrap_i64, wrap_u64, wrap_u8', eI]
  refine HT.seq ?_
  refine HT.region ?_   -- R3
  simp (disch := first | omega | (simp <;> omega) | fail) [wrap_i64, wrap_u64, wrap_u8', eI]
  refine ⟨fun hnil => ?_, fun i kk vv hi hkv => ?_⟩
  · skip
    obtain rfl := hnil
    refine HT.seq ?_
    refine HT.cond' ?_   -- if 9
    simp (disch := first | omega | (simp <;> omega) | fail) [wrap_i64, wrap_u64, wrap_u8', eI]
    refine HT.exit ?_
    simp (disch := first | omega | (simp <;> omega) | fail) [wrap_i64, wrap_u64, wrap_u8', eI]
    refine HT.seq ?_
    refine HT.region ?_   -- R6
    simp (disch := first | omega | (simp <;> omega) | fail) [wrap_i64, wrap_u64, wrap_u8', eI]
    refine stepK.mk (.callS _ _ _ _ _ _ _ rfl Ty.hb49 rfl (by simp) (by first | rfl | simp) (Sort_spec _ (by have := hp.length_eq; simp at this ⊢; omega)) rfl) ?_
    simp (disch := first | omega | (simp <;> omega) | fail) [wrap_i64, wrap_u64, wrap_u8', eI]
    refine HT.seq ?_
    refine HT.region ?_   -- R7
    simp (disch := first | omega | (simp <;> omega) | fail) [wrap_i64, wrap_u64, wrap_u8', eI]
    refine HT.ret ?_
    simp (disch := first | omega | (simp <;> omega) | fail) [wrap_i64, wrap_u64, wrap_u8', eI, sorted_of s hp]
  · skip
    have hst := perm_step hp hi
    have hil : (dn ++ lf).length = _ := hp.length_eq
    have hil2 : i < (fstK s (s.length - 2)).length := by have := (hp.mem_iff (a := i)).1 (List.mem_append_right _ hi); simpa using this
    rw [occV, fents_get, List.getElem?_eq_getElem hil2] at hkv
    simp only [Option.map_some, Option.some.injEq, Prod.mk.injEq] at hkv
    obtain ⟨rfl, rfl⟩ := hkv
    have hb : dn.length + lf.length = (fstK s (s.length - 2)).length := by simpa using hil
    refine HT.seq ?_
    refine HT.cond' ?_   -- if 9
    simp (disch := first | omega | (simp <;> omega) | fail) [wrap_i64, wrap_u64, wrap_u8', eI]
    refine HT.skip ?_
    simp (disch := first | omega | (simp <;> omega) | fail) [wrap_i64, wrap_u64, wrap_u8', eI]
    refine HT.block ?_
    refine HT.seq ?_
    refine HT.region ?_   -- R4
    simp (disch := first | omega | (simp <;> omega) | fail) [wrap_i64, wrap_u64, wrap_u8', eI]
    refine HT.region ?_   -- R5
    simp (disch := first | omega | (simp <;> omega) | fail) [wrap_i64, wrap_u64, wrap_u8', eI]
    refine Round.mk' (⟨⟨dn ++ [i], lf.filter (· != i), some (eI (fstK s (s.length - 2))[i], .sl 1 false (intsHV (offK s (s.length - 2) (fstK s (s.length - 2))[i])))⟩, hst.1⟩) hst.2 rfl ?_
    simp (disch := first | omega | (simp <;> omega) | fail) [wrap_i64, wrap_u64, wrap_u8', eI, hil2]
def gm (s : List UInt8) (c : Int) : Gram := ⟨c, offK s (s.length - 2) c⟩
def leG (a b : Gram) : Bool := decide (a.code ≤ b.code)
def gp (g : Gram) : Int × HV := (g.code, .sl 1 false (intsHV g.off))
theorem grams_pairs (l : List Gram) : gramsHV l = pairsHV (l.map gp) := by simp [gramsHV, pairsHV, gp]
theorem SortGrams_spec (l : List Gram) (hr : ∀ p ∈ l, 0 ≤ p.code ∧ p.code < 16777216) (hnd : (l.map (·.code)).Nodup) (hlen : l.length < 4611686018427387904) : SpecS Try.prog 70 32 2 (gramsHV l) [.fn (.func 71) []] (gramsHV (l.mergeSort leG)) := by
  rw [grams_pairs, grams_pairs, List.map_mergeSort (r := leG) (s := leC) (f := gp) (l := l) (fun _ _ _ _ => rfl)]
  refine SortFunc_spec _ (fun p hp => ?_) ?_ (fun p hp => ?_) (by simpa using hlen)
  · obtain ⟨g, hg, rfl⟩ := List.mem_map.1 hp; exact hr g hg
  · rw [List.map_map]; exact hnd
  · obtain ⟨g, hg, rfl⟩ := List.mem_map.1 hp; simp [gp, isI]
theorem grams_sorted (s : List UInt8) {d : List Nat} (h : (d ++ []).Perm (List.range (fstK s (s.length - 2)).length)) : (d.map fun i => gm s ((fstK s (s.length - 2))[i]?.getD 0)).mergeSort leG = gramsV s := by
  have hg : gramsV s = (ofV s).map (gm s) := rfl
  rw [hg, ← sorted_of s h]
  have := List.map_mergeSort (r := leI) (s := leG) (f := gm s) (l := d.map fun i => (fstK s (s.length - 2))[i]?.getD 0) (fun _ _ _ _ => rfl)
  rw [List.map_map] at this
  exact this.symm
theorem gm_ok (s : List UInt8) {d : List Nat} (h : (d ++ []).Perm (List.range (fstK s (s.length - 2)).length)) :
    (∀ p ∈ d.map (fun i => gm s ((fstK s (s.length - 2))[i]?.getD 0)), 0 ≤ p.code ∧ p.code < 16777216) ∧ ((d.map (fun i => gm s ((fstK s (s.length - 2))[i]?.getD 0))).map (·.code)).Nodup := by
  have hp := perm_taken 0 h
  simp only [List.getD_eq_getElem?_getD] at hp
  refine ⟨fun p hm => ?_, ?_⟩
  · obtain ⟨i, hi, rfl⟩ := List.mem_map.1 hm
    have : (fstK s (s.length - 2))[i]?.getD 0 ∈ fstK s (s.length - 2) := (hp.mem_iff).1 (List.mem_map.2 ⟨i, hi, rfl⟩)
    obtain ⟨j, _, hj⟩ := (fstK_mem s _ _).1 this
    simp only [gm]
    rw [← hj]
    exact code3_lt _ _ _
  · rw [List.map_map]
    exact hp.symm.nodup (fstK_nodup s _)
set_option maxHeartbeats 1000000 in
theorem Grams_spec (s : List UInt8) (hs : s.length ≤ 900000) : Spec1 Try.prog 38 [.str s] (.sl 2 false (gramsHV (gramsV s))) := by
  have hlen := fstK_length s (s.length - 2)
  have hol := ofV_length s
  refine Spec1.of_HT Try.func38 rfl (by rw [Try.ntmps38]; simp) rfl ?_
  rw [Try.ntmps38]
  refine HT.seq ?_
  refine HT.region ?_   -- R0
  simp (disch := first | omega | (simp <;> omega) | fail) [wrap_i64, wrap_u64, wrap_u8', eI]
  refine HT.seq ?_
  refine HT.region ?_   -- R1
  simp (disch := first | omega | (simp <;> omega) | fail) [wrap_i64, wrap_u64, wrap_u8', eI]
  refine HT.weaken (HS.le_own (t := 3) 200 32 2 _ (by decide) rfl (by decide)) ?_
  refine HT.seq ?_
  refine HT.seq ?_
  refine HT.region ?_   -- R2
  simp (disch := first | omega | (simp <;> omega) | fail) [wrap_i64, wrap_u64, wrap_u8', eI]
  refine stepK.mk (.call1f _ _ _ _ _ rfl Ty.hb65 rfl rfl (occ_spec s hs) rfl) ?_
  simp (disch := first | omega | (simp <;> omega) | fail) [wrap_i64, wrap_u64, wrap_u8', eI]
  refine HT.block ?_
  refine HT.loopK (fun k : {k : List Nat × List Nat × Option (HV × HV) // (k.1 ++ k.2.1).Perm (List.range (fstK s (s.length - 2)).length)} => [.s 3 (.ref 200), .o 200 (.row 32 2 (gramsHV (k.1.1.map fun i => gm s ((fstK s (s.length - 2)).getD i 0)))), .o 8 (.iter (occV s) k.1.2.1 k.1.2.2)]) [8] [] (fun k => k.1.2.1.length) (⟨⟨[], List.range (fstK s (s.length - 2)).length, none⟩, by simp⟩) ?_ ?_   -- block 0 turned [3]
  · simp (disch := first | omega | (simp <;> omega) | fail) [wrap_i64, wrap_u64, wrap_u8', eI]
  rintro ⟨⟨dn, lf, la⟩, hp⟩
  simp (disch := first | omega | (simp <;> omega) | fail) [wrap_i64, wrap_u64, wrap_u8', eI]
  refine HT.seq ?_
  refine HT.region ?_   -- R3
  simp (disch := first | omega | (simp <;> omega) | fail) [wrap_i64, wrap_u64, wrap_u8', eI]
  refine ⟨fun hnil => ?_, fun i kk vv hi hkv => ?_⟩
  · skip
    obtain rfl := hnil
    obtain ⟨g1, g2⟩ := gm_ok s hp
    refine HT.seq ?_
    refine HT.cond' ?_   -- if 10
    simp (disch := first | omega | (simp <;> omega) | fail) [wrap_i64, wrap_u64, wrap_u8', eI]
    refine HT.exit ?_
    simp (disch := first | omega | (simp <;> omega) | fail) [wrap_i64, wrap_u64, wrap_u8', eI]
    refine HT.seq ?_
    refine HT.region ?_   -- R6
    simp (disch := first | omega | (simp <;> omega) | fail) [wrap_i64, wrap_u64, wrap_u8', eI]
    refine stepK.mk (.callS _ _ _ _ _ _ _ rfl Ty.hb70 rfl (by simp) (by first | rfl | simp) (SortGrams_spec _ g1 g2 (by have := hp.length_eq; simp at this ⊢; omega)) rfl) ?_
    simp (disch := first | omega | (simp <;> omega) | fail) [wrap_i64, wrap_u64, wrap_u8', eI]
    refine HT.seq ?_
    refine HT.region ?_   -- R7
    simp (disch := first | omega | (simp <;> omega) | fail) [wrap_i64, wrap_u64, wrap_u8', eI]
    refine HT.ret ?_
    simp (disch := first | omega | (simp <;> omega) | fail) [wrap_i64, wrap_u64, wrap_u8', eI, grams_sorted s hp]
  · skip
    have hst := perm_step hp hi
    have hil : (dn ++ lf).length = _ := hp.length_eq
    have hil2 : i < (fstK s (s.length - 2)).length := by have := (hp.mem_iff (a := i)).1 (List.mem_append_right _ hi); simpa using this
    rw [occV, fents_get, List.getElem?_eq_getElem hil2] at hkv
    simp only [Option.map_some, Option.some.injEq, Prod.mk.injEq] at hkv
    obtain ⟨rfl, rfl⟩ := hkv
    have hb : dn.length + lf.length = (fstK s (s.length - 2)).length := by simpa using hil
    refine HT.seq ?_
    refine HT.cond' ?_   -- if 10
    simp (disch := first | omega | (simp <;> omega) | fail) [wrap_i64, wrap_u64, wrap_u8', eI]
    refine HT.skip ?_
    simp (disch := first | omega | (simp <;> omega) | fail) [wrap_i64, wrap_u64, wrap_u8', eI]
    refine HT.block ?_
    refine HT.seq ?_
    refine HT.region ?_   -- R4
    simp (disch := first | omega | (simp <;> omega) | fail) [wrap_i64, wrap_u64, wrap_u8', eI]
    refine HT.region ?_   -- R5
    simp (disch := first | omega | (simp <;> omega) | fail) [wrap_i64, wrap_u64, wrap_u8', eI]
    refine Round.mk' (⟨⟨dn ++ [i], lf.filter (· != i), some (eI (fstK s (s.length - 2))[i], .sl 1 false (intsHV (offK s (s.length - 2) (fstK s (s.length - 2))[i])))⟩, hst.1⟩) hst.2 rfl ?_
    simp (disch := first | omega | (simp <;> omega) | fail) [wrap_i64, wrap_u64, wrap_u8', eI, hil2, gm]
end Go.Hv
