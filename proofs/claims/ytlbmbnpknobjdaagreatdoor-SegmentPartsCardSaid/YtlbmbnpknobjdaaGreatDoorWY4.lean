import Derived.Test.YtlbmbnpknobjdaaGreatDoorWY3
import Derived.Shelf.Strings.Count
import Derived.Shelf.Strings.Search3
import Derived.Lib.RowBridge
set_option linter.unusedVariables false
set_option linter.unusedSimpArgs false
namespace Go.Hv
open Go Go.Hv Go.Proofs
open Go.Proofs.YtlbmbnpknobjdaaGreatDoor
def fd (b : Bool) (s : List UInt8) : List UInt8 := if b then foldS s else s
@[simp] theorem fd_length (b : Bool) (s : List UInt8) : (fd b s).length = s.length := by unfold fd; split <;> simp
def occ (s t : List UInt8) (i : Nat) : Bool := decide ((s.drop i).take t.length = t)
def findK (s t : List UInt8) (k : Nat) : List Int := ((List.range k).filter (occ s t)).map fun i : Nat => (i : Int)
theorem findK_succ (s t : List UInt8) (k : Nat) : findK s t (k + 1) = findK s t k ++ if occ s t k = true then [(k : Int)] else [] := by
  unfold findK; rw [List.range_succ, List.filter_append, List.map_append]
  by_cases h : occ s t k = true <;> simp [h]
theorem findK_length (s t : List UInt8) (k : Nat) : (findK s t k).length ≤ k := by
  unfold findK; rw [List.length_map]; have := List.length_filter_le (occ s t) (List.range k); simpa using this
def findV (s t : List UInt8) : List Int := findK s t (s.length + 1 - t.length)
theorem occ_room {s t : List UInt8} {i : Nat} (h : occ s t i = true) : t = [] ∨ i + t.length ≤ s.length := by
  have := congrArg List.length (of_decide_eq_true h)
  simp at this
  by_cases e : t = []
  · exact .inl e
  · have := List.length_pos_iff.2 e
    right; omega
theorem findK_all (s t : List UInt8) : findK s t (s.length + 1) = findV s t := by
  unfold findV
  by_cases e : t = []
  · subst e; rfl
  · have hp := List.length_pos_iff.2 e
    have : ∀ m, findK s t (s.length + 1 - t.length + m) = findK s t (s.length + 1 - t.length) := fun m => by
      induction m with
      | zero => rfl
      | succ m ih =>
        rw [← Nat.add_assoc, findK_succ, ih, if_neg, List.append_nil]
        intro h
        rcases occ_room h with h | h
        · exact e h
        · omega
    by_cases hl : t.length ≤ s.length + 1
    · have := this t.length
      rw [← this]; congr 1; omega
    · have := this (s.length + 1)
      rw [← this]; congr 1; omega
theorem occ_cut (s t u : List UInt8) (k : Nat) (h : u.length = t.length) : (List.drop k (List.take (k + t.length) s) = u) = (occ s u k = true) := by
  unfold occ
  rw [decide_eq_true_iff, List.drop_take, h, Nat.add_sub_cancel_left]
theorem folded_sp (s : List UInt8) (b : Bool) (hs : s.length ≤ 140737488355328) : Spec1 Tryz.prog 90 [.str s, bo b] (.str (fd b s)) := by
  refine Spec1.of_HT Tryz.func90 rfl (by rw [Tryz.ntmps90]; simp) rfl ?_
  rw [Tryz.ntmps90]
  refine HT.seq ?_
  refine HT.region ?_   -- R0
  simp (disch := first | omega | (simp <;> omega) | fail) [wrap_i64, wrap_u64, wrap_u8']
  refine HT.seq ?_
  refine HT.seq ?_
  refine HT.region ?_   -- R1
  simp (disch := first | omega | (simp <;> omega) | fail) [wrap_i64, wrap_u64, wrap_u8']
  refine HT.cond' ?_   -- if 5
  simp (disch := first | omega | (simp <;> omega) | fail) [wrap_i64, wrap_u64, wrap_u8']
  refine ⟨fun h5 => ?_, fun h5 => ?_⟩
  · skip
    refine HT.seq ?_
    refine HT.region ?_   -- R2
    simp (disch := first | omega | (simp <;> omega) | fail) [wrap_i64, wrap_u64, wrap_u8']
    refine stepK.mk (.call1 _ _ _ _ rfl Ty.hb67 rfl (Fold_spec s hs) rfl rfl) ?_
    simp (disch := first | omega | (simp <;> omega) | fail) [wrap_i64, wrap_u64, wrap_u8']
    refine HT.ret ?_
    simp (disch := first | omega | (simp <;> omega) | fail) [wrap_i64, wrap_u64, wrap_u8', fd, h5]
  · skip
    refine HT.skip ?_
    simp (disch := first | omega | (simp <;> omega) | fail) [wrap_i64, wrap_u64, wrap_u8']
    refine HT.seq ?_
    refine HT.region ?_   -- R3
    simp (disch := first | omega | (simp <;> omega) | fail) [wrap_i64, wrap_u64, wrap_u8']
    refine HT.ret ?_
    simp (disch := first | omega | (simp <;> omega) | fail) [wrap_i64, wrap_u64, wrap_u8', fd, h5]
set_option maxHeartbeats 1000000 in
theorem Find_spec (s t : List UInt8) (b : Bool) (hs : s.length ≤ 1000000) (ht : t.length ≤ 1000000) : Spec1 Tryz.prog 59 [.str s, .str t, bo b] (.sl 1 false (intsHV (findV (fd b s) (fd b t)))) := by
  refine Spec1.of_HT Tryz.func59 rfl (by rw [Tryz.ntmps59]; simp) rfl ?_
  rw [Tryz.ntmps59]
  refine HT.seq ?_
  refine HT.region ?_   -- R0
  simp (disch := first | omega | (simp <;> omega) | fail) [wrap_i64, wrap_u64, wrap_u8']
  refine HT.seq ?_
  refine HT.region ?_   -- R1
  simp (disch := first | omega | (simp <;> omega) | fail) [wrap_i64, wrap_u64, wrap_u8']
  refine stepK.mk (.call1 _ _ _ _ rfl Ty.hb90 rfl (folded_sp s b (by omega)) rfl rfl) ?_
  simp (disch := first | omega | (simp <;> omega) | fail) [wrap_i64, wrap_u64, wrap_u8']
  refine stepK.mk (.call1 _ _ _ _ rfl Ty.hb90 rfl (folded_sp t b (by omega)) rfl rfl) ?_
  simp (disch := first | omega | (simp <;> omega) | fail) [wrap_i64, wrap_u64, wrap_u8']
  refine HT.seq ?_
  refine HT.region ?_   -- R2
  simp (disch := first | omega | (simp <;> omega) | fail) [wrap_i64, wrap_u64, wrap_u8']
  refine HT.weaken (HS.le_own (t := 9) 200 3 1 _ (by decide) rfl (by decide)) ?_
  refine HT.seq ?_
  refine HT.seq ?_
  refine HT.region ?_   -- R3
  simp (disch := first | omega | (simp <;> omega) | fail) [wrap_i64, wrap_u64, wrap_u8']
  refine HT.block ?_
  refine HT.loopK (fun k : {k : Nat // k ≤ s.length + 1 - t.length} => [.s 10 (i64 k), .s 9 (.ref 200), .o 200 (.row 3 1 (intsHV (findK (fd b s) (fd b t) k)))]) [7, 8] [] (fun k => s.length + 1 - k) (⟨0, by omega⟩) ?_ ?_   -- block 0 turned [9, 10]
  · simp (disch := first | omega | (simp <;> omega) | fail) [wrap_i64, wrap_u64, wrap_u8', show findK (fd b s) (fd b t) 0 = [] from rfl]
  rintro ⟨k, hk⟩
  simp (disch := first | omega | (simp <;> omega) | fail) [wrap_i64, wrap_u64, wrap_u8']
  refine HT.seq ?_
  refine HT.seq ?_
  refine HT.region ?_   -- R4
  simp (disch := first | omega | (simp <;> omega) | fail) [wrap_i64, wrap_u64, wrap_u8']
  refine HT.cond' ?_   -- if 23
  simp (disch := first | omega | (simp <;> omega) | fail) [wrap_i64, wrap_u64, wrap_u8']
  refine ⟨fun h23 => ?_, fun h23 => ?_⟩
  · skip
    have hk' : k + t.length ≤ s.length := by omega
    have hb := findK_length (fd b s) (fd b t) k
    refine HT.skip ?_
    simp (disch := first | omega | (simp <;> omega) | fail) [wrap_i64, wrap_u64, wrap_u8']
    refine HT.seq ?_
    refine HT.block ?_
    refine HT.seq ?_
    by_cases c1 : occ (fd b s) (fd b t) k = true
    · skip
      refine HT.region ?_   -- R6
      simp (disch := first | omega | (simp <;> omega) | fail) [wrap_i64, wrap_u64, wrap_u8', occ_cut (fd b s) t (fd b t) k (by simp), c1]
      refine HT.cond' ?_   -- if 34
      simp (disch := first | omega | (simp <;> omega) | fail) [wrap_i64, wrap_u64, wrap_u8']
      refine HT.region ?_   -- R7
      simp (disch := first | omega | (simp <;> omega) | fail) [wrap_i64, wrap_u64, wrap_u8']
      refine HT.region ?_   -- R5
      simp (disch := first | omega | (simp <;> omega) | fail) [wrap_i64, wrap_u64, wrap_u8']
      refine Round.mk' (⟨k + 1, by omega⟩) (by dsimp only; omega) rfl ?_
      simp (disch := first | omega | (simp <;> omega) | fail) [wrap_i64, wrap_u64, wrap_u8', findK_succ, c1]
    refine HT.region ?_   -- R6
    simp (disch := first | omega | (simp <;> omega) | fail) [wrap_i64, wrap_u64, wrap_u8', occ_cut (fd b s) t (fd b t) k (by simp), c1]
    refine HT.cond' ?_   -- if 34
    simp (disch := first | omega | (simp <;> omega) | fail) [wrap_i64, wrap_u64, wrap_u8']
    refine HT.skip ?_
    simp (disch := first | omega | (simp <;> omega) | fail) [wrap_i64, wrap_u64, wrap_u8']
    refine HT.region ?_   -- R5
    simp (disch := first | omega | (simp <;> omega) | fail) [wrap_i64, wrap_u64, wrap_u8']
    refine Round.mk' (⟨k + 1, by omega⟩) (by dsimp only; omega) rfl ?_
    simp (disch := first | omega | (simp <;> omega) | fail) [wrap_i64, wrap_u64, wrap_u8', findK_succ, c1]
  · skip
    obtain rfl : k = s.length + 1 - t.length := by omega
    have e0 : findV (fd b s) (fd b t) = findK (fd b s) (fd b t) (s.length + 1 - t.length) := by simp [findV]
    refine HT.exit ?_
    simp (disch := first | omega | (simp <;> omega) | fail) [wrap_i64, wrap_u64, wrap_u8']
    refine HT.seq ?_
    refine HT.region ?_   -- R8
    simp (disch := first | omega | (simp <;> omega) | fail) [wrap_i64, wrap_u64, wrap_u8']
    refine HT.ret ?_
    simp (disch := first | omega | (simp <;> omega) | fail) [wrap_i64, wrap_u64, wrap_u8', e0]
theorem occ_iff (s t : List UInt8) (i : Nat) : occ s t i = true ↔ (i + t.length ≤ s.length ∨ t = []) ∧ ∀ j, j < t.length → s[i + j]? = t[j]? := by
  unfold occ
  rw [decide_eq_true_iff]
  constructor
  · intro h
    refine ⟨?_, fun j hj => ?_⟩
    · have := congrArg List.length h
      simp at this
      by_cases e : t = []
      · exact .inr e
      · have := List.length_pos_iff.2 e; left; omega
    · conv => rhs; rw [← h]
      rw [List.getElem?_take_of_lt hj, List.getElem?_drop]
  · rintro ⟨h1, h2⟩
    apply List.ext_getElem?
    intro j
    by_cases hj : j < t.length
    · rw [List.getElem?_take_of_lt hj, List.getElem?_drop, h2 j hj]
    · rw [List.getElem?_eq_none (by rw [List.length_take]; omega), List.getElem?_eq_none (by omega)]
end Go.Hv
set_option linter.unusedVariables false
set_option linter.unusedSimpArgs false
namespace Go.Hv
open Go Go.Hv Go.Proofs
open Go.Proofs.YtlbmbnpknobjdaaGreatDoor
end Go.Hv
set_option linter.unusedVariables false
set_option linter.unusedSimpArgs false
namespace Go.Hv
open Go Go.Hv Go.Proofs
open Go.Proofs.YtlbmbnpknobjdaaGreatDoor
end Go.Hv
set_option linter.unusedVariables false
set_option linter.unusedSimpArgs false
namespace Go.Hv
open Go Go.Hv Go.Proofs
open Go.Proofs.YtlbmbnpknobjdaaGreatDoor
def W64 (l : List Int) : Prop := ∀ y ∈ l, -9223372036854775808 ≤ y ∧ y < 9223372036854775808
def folB (y x : Int) (j : Nat) : Bool := decide ((j : Int) ≤ y ∧ y - j = x)
def folV (l : List Int) (x : Int) (j : Nat) : Bool := l.any fun y => folB y x j
end Go.Hv
set_option linter.unusedVariables false
set_option linter.unusedSimpArgs false
namespace Go.Hv
open Go Go.Hv Go.Proofs
open Go.Proofs.YtlbmbnpknobjdaaGreatDoor
def GB (l : List Gram) : Prop := l.length ≤ 140737488355328 ∧ ∀ g ∈ l, g.off.length ≤ 1000 ∧ W64 g.off
theorem atV_cases (l : List Gram) (c : Int) : atV l c = [] ∨ ∃ g ∈ l, g.code = c ∧ atV l c = g.off := by
  unfold atV
  split
  · next g hg => exact .inr ⟨g, List.mem_of_find?_eq_some hg, by simpa using List.find?_some hg, rfl⟩
  · exact .inl rfl
theorem atV_GB {l : List Gram} (h : GB l) (c : Int) : (atV l c).length ≤ 1000 ∧ W64 (atV l c) := by
  rcases atV_cases l c with e | ⟨g, hg, _, e⟩
  · rw [e]; exact ⟨by simp, fun y hy => by cases hy⟩
  · rw [e]; exact h.2 g hg
def candJ (l : List Gram) (s : List UInt8) (x : Int) (j : Nat) : Bool := decide (0 ≤ x) && (List.range j).all fun i => folV (atV l (codeAt s i)) x i
def candI (l : List Gram) (s : List UInt8) (k : Nat) : List Int := (((atV l (codeAt s 0)).take k).filter fun x => candJ l s x (s.length - 2)).foldl ins []
theorem foldl_insL_inc : ∀ (r a : List Int), Inc a → Inc (r.foldl ins a)
  | [], _, h => h
  | x :: r, a, h => foldl_insL_inc r _ (ins_inc h x)
theorem candI_inc (l : List Gram) (s : List UInt8) (k : Nat) : Inc (candI l s k) := foldl_insL_inc _ _ List.Pairwise.nil
def candV (l : List Gram) (s : List UInt8) : List Int := if s.length < 3 then [] else candI l s (atV l (codeAt s 0)).length
end Go.Hv
set_option linter.unusedVariables false
set_option linter.unusedSimpArgs false
/- The codes of trigrams, looked up (layer 6), at law29's seat. -/
namespace Go.Hv
open Go Go.Hv Go.Proofs Go.RowKit
open Go.Proofs.YtlbmbnpknobjdaaGreatDoor
theorem ofV_mem (s : List UInt8) (c : Int) : c ∈ ofV s ↔ ∃ i, i < s.length - 2 ∧ codeAt s i = c := ofK_mem s _ c
theorem Code_spec (s : List UInt8) (hs : s.length ≤ 140737488355328) : SpecT Tryz.prog 91 [.str s] [i64 (codeV s), bo (decide (s.length = 3))] := by
  refine SpecT.of_HT Tryz.func91 rfl (by rw [Tryz.ntmps91]; simp) (rs := [.tmp 2, .tmp 3]) rfl (by decide) ?_
  rw [Tryz.ntmps91]
  refine HT.seq ?_
  refine HT.region ?_   -- R0
  simp (disch := first | omega | (simp <;> omega) | fail) [wrap_i64, wrap_u64, wrap_u8']
  refine HT.seq ?_
  refine HT.seq ?_
  by_cases c1 : ¬ s.length = 3
  · skip
    refine HT.region ?_   -- R1
    simp (disch := first | omega | (simp <;> omega) | fail) [wrap_i64, wrap_u64, wrap_u8']
    refine HT.cond' ?_   -- if 6
    simp (disch := first | omega | (simp <;> omega) | fail) [wrap_i64, wrap_u64, wrap_u8']
    refine HT.seq ?_
    refine HT.region ?_   -- R2
    simp (disch := first | omega | (simp <;> omega) | fail) [wrap_i64, wrap_u64, wrap_u8']
    refine HT.ret ?_
    simp (disch := first | omega | (simp <;> omega) | fail) [wrap_i64, wrap_u64, wrap_u8', codeV, c1]
  refine HT.region ?_   -- R1
  simp (disch := first | omega | (simp <;> omega) | fail) [wrap_i64, wrap_u64, wrap_u8']
  refine HT.cond' ?_   -- if 6
  simp (disch := first | omega | (simp <;> omega) | fail) [wrap_i64, wrap_u64, wrap_u8']
  refine HT.skip ?_
  simp (disch := first | omega | (simp <;> omega) | fail) [wrap_i64, wrap_u64, wrap_u8']
  refine HT.seq ?_
  refine HT.region ?_   -- R3
  simp (disch := first | omega | (simp <;> omega) | fail) [wrap_i64, wrap_u64, wrap_u8']
  refine stepK.mk (.call1 _ _ _ _ rfl Ty.hb67 rfl (Fold_spec s (by omega)) rfl rfl) ?_
  simp (disch := first | omega | (simp <;> omega) | fail) [wrap_i64, wrap_u64, wrap_u8']
  refine stepK.mk (.call1 _ _ _ _ rfl Ty.hb110 rfl (code_spec (foldS s) 0 (by simp; omega) (by simp; omega)) rfl rfl) ?_
  simp (disch := first | omega | (simp <;> omega) | fail) [wrap_i64, wrap_u64, wrap_u8']
  refine HT.ret ?_
  have c2 : s.length = 3 := by omega
  have h := codeAt_foldS (s := s) (i := 0) (by omega)
  simp [codeV, c2, h]
theorem refCode_spec (s : List UInt8) (hs : s.length ≤ 140737488355328) : SpecT Tryz.prog 34 [.str s] [i64 (codeV s), bo (decide (s.length = 3))] := by
  refine SpecT.of_HT Tryz.func34 rfl (by rw [Tryz.ntmps34]; simp) (rs := [.tmp 2, .tmp 3]) rfl (by decide) ?_
  rw [Tryz.ntmps34]
  refine HT.seq ?_
  refine HT.region ?_   -- R0
  simp (disch := first | omega | (simp <;> omega) | fail) [wrap_i64, wrap_u64, wrap_u8']
  refine HT.seq ?_
  refine HT.seq ?_
  by_cases c1 : ¬ s.length = 3
  · skip
    refine HT.region ?_   -- R1
    simp (disch := first | omega | (simp <;> omega) | fail) [wrap_i64, wrap_u64, wrap_u8']
    refine HT.cond' ?_   -- if 6
    simp (disch := first | omega | (simp <;> omega) | fail) [wrap_i64, wrap_u64, wrap_u8']
    refine HT.seq ?_
    refine HT.region ?_   -- R2
    simp (disch := first | omega | (simp <;> omega) | fail) [wrap_i64, wrap_u64, wrap_u8']
    refine HT.ret ?_
    simp (disch := first | omega | (simp <;> omega) | fail) [wrap_i64, wrap_u64, wrap_u8', codeV, c1]
  refine HT.region ?_   -- R1
  simp (disch := first | omega | (simp <;> omega) | fail) [wrap_i64, wrap_u64, wrap_u8']
  refine HT.cond' ?_   -- if 6
  simp (disch := first | omega | (simp <;> omega) | fail) [wrap_i64, wrap_u64, wrap_u8']
  refine HT.skip ?_
  simp (disch := first | omega | (simp <;> omega) | fail) [wrap_i64, wrap_u64, wrap_u8']
  refine HT.seq ?_
  refine HT.region ?_   -- R3
  simp (disch := first | omega | (simp <;> omega) | fail) [wrap_i64, wrap_u64, wrap_u8']
  refine stepK.mk (.call1 _ _ _ _ rfl Ty.hb66 rfl (refat_spec s 0 (by omega) (by omega)) rfl rfl) ?_
  simp (disch := first | omega | (simp <;> omega) | fail) [wrap_i64, wrap_u64, wrap_u8']
  refine HT.ret ?_
  have c2 : s.length = 3 := by omega
  simp [codeV, c2]
theorem At_spec (f : Bool) (l : List Gram) (c : Int) (hl : l.length ≤ 140737488355328) : Spec1 Tryz.prog 95 [.sl 2 f (gramsHV l), i64 c] (.sl 1 false (intsHV (atV l c))) := by
  refine Spec1.of_HT Tryz.func95 rfl (by rw [Tryz.ntmps95]; simp) rfl ?_
  rw [Tryz.ntmps95]
  refine HT.seq ?_
  refine HT.region ?_   -- R0
  simp (disch := first | omega | (simp <;> omega) | fail) [wrap_i64, wrap_u64, wrap_u8']
  refine HT.seq ?_
  refine HT.seq ?_
  refine HT.region ?_   -- R1
  simp (disch := first | omega | (simp <;> omega) | fail) [wrap_i64, wrap_u64, wrap_u8']
  refine HT.block ?_
  refine HT.loopK (fun k : {k : Nat // k ≤ l.length ∧ atV l c = atV (l.drop k) c} => [.s 8 (i64 k)]) [0, 1, 7] [] (fun k => l.length - k) (⟨0, by simp⟩) ?_ ?_   -- block 0 turned [8]
  · simp (disch := first | omega | (simp <;> omega) | fail) [wrap_i64, wrap_u64, wrap_u8']
  rintro ⟨k, hk, hg⟩
  simp (disch := first | omega | (simp <;> omega) | fail) [wrap_i64, wrap_u64, wrap_u8']
  refine HT.seq ?_
  refine HT.region ?_   -- R2
  simp (disch := first | omega | (simp <;> omega) | fail) [wrap_i64, wrap_u64, wrap_u8']
  refine HT.seq ?_
  refine HT.cond' ?_   -- if 9
  simp (disch := first | omega | (simp <;> omega) | fail) [wrap_i64, wrap_u64, wrap_u8']
  refine ⟨fun h9 => ?_, fun h9 => ?_⟩
  · skip
    have hk' : k < l.length := by omega
    rw [atV_drop hk'] at hg
    refine HT.skip ?_
    simp (disch := first | omega | (simp <;> omega) | fail) [wrap_i64, wrap_u64, wrap_u8']
    refine HT.seq ?_
    refine HT.block ?_
    refine HT.seq ?_
    refine HT.region ?_   -- R3
    simp (disch := first | omega | (simp <;> omega) | fail) [wrap_i64, wrap_u64, wrap_u8']
    refine HT.seq ?_
    refine HT.region ?_   -- R4
    simp (disch := first | omega | (simp <;> omega) | fail) [wrap_i64, wrap_u64, wrap_u8']
    refine HT.cond' ?_   -- if 17
    simp (disch := first | omega | (simp <;> omega) | fail) [wrap_i64, wrap_u64, wrap_u8']
    refine ⟨fun h17 => ?_, fun h17 => ?_⟩
    · skip
      refine HT.seq ?_
      refine HT.region ?_   -- R5
      simp (disch := first | omega | (simp <;> omega) | fail) [wrap_i64, wrap_u64, wrap_u8']
      refine HT.ret ?_
      simp (disch := first | omega | (simp <;> omega) | fail) [wrap_i64, wrap_u64, wrap_u8', hg, h17]
    · skip
      refine HT.skip ?_
      simp (disch := first | omega | (simp <;> omega) | fail) [wrap_i64, wrap_u64, wrap_u8']
      refine HT.region ?_   -- R6
      simp (disch := first | omega | (simp <;> omega) | fail) [wrap_i64, wrap_u64, wrap_u8']
      refine Round.mk' (⟨k + 1, by omega, by rw [hg, if_neg h17]⟩) (by dsimp only; omega) rfl ?_
      simp (disch := first | omega | (simp <;> omega) | fail) [wrap_i64, wrap_u64, wrap_u8']
  · skip
    obtain rfl : k = l.length := by omega
    rw [List.drop_length] at hg
    refine HT.exit ?_
    simp (disch := first | omega | (simp <;> omega) | fail) [wrap_i64, wrap_u64, wrap_u8']
    refine HT.seq ?_
    refine HT.region ?_   -- R7
    simp (disch := first | omega | (simp <;> omega) | fail) [wrap_i64, wrap_u64, wrap_u8']
    refine HT.weaken (HS.le_wk 4 (.sl 1 false []) (by decide) rfl rfl (HLe.nilf 0 1 true)) ?_
    refine HT.ret ?_
    simp (disch := first | omega | (simp <;> omega) | fail) [wrap_i64, wrap_u64, wrap_u8', hg, show atV [] c = [] from rfl]
end Go.Hv
set_option linter.unusedVariables false
set_option linter.unusedSimpArgs false
namespace Go.Hv
open Go Go.Hv Go.Proofs
open Go.Proofs.YtlbmbnpknobjdaaGreatDoor
theorem compact_upto {l : List Int} (hs : l.Pairwise (· ≤ ·)) : ∀ m, m ≤ l.length → Inc (Lib.compactUpTo l.toArray m) ∧ ∀ x, x ∈ Lib.compactUpTo l.toArray m ↔ ∃ j, j < m ∧ l.toArray[j]! = x
  | 0, _ => ⟨List.Pairwise.nil, fun x => by simp [Lib.compactUpTo]⟩
  | m + 1, hm => by
    obtain ⟨h1, h2⟩ := compact_upto hs m (by omega)
    rw [Lib.compactUpTo_succ]
    have hle : ∀ i j, i ≤ j → j < l.length → l.toArray[i]! ≤ l.toArray[j]! := fun i j hij hj => by
      rw [getElem!_pos l.toArray i (by simp; omega), getElem!_pos l.toArray j (by simpa using hj)]
      rcases Nat.lt_or_ge i j with h | h
      · simpa using List.pairwise_iff_getElem.1 hs i j (by omega) hj h
      · obtain rfl : i = j := by omega
        omega
    by_cases hk : Lib.keeps l.toArray m = true
    · rw [if_pos hk]
      have hlt : ∀ x ∈ Lib.compactUpTo l.toArray m, x < l.toArray[m]! := fun x hx => by
        obtain ⟨j, hj, rfl⟩ := (h2 x).1 hx
        have a1 := hle j (m - 1) (by omega) (by omega)
        have a2 := hle (m - 1) m (by omega) (by omega)
        have a3 : l.toArray[m]! ≠ l.toArray[m - 1]! := by
          rcases of_decide_eq_true hk with h | h
          · omega
          · exact h
        omega
      refine ⟨?_, fun x => ?_⟩
      · unfold Inc
        rw [List.pairwise_append]
        exact ⟨h1, List.pairwise_singleton _ _, fun a ha b hb => by simp only [List.mem_singleton] at hb; subst hb; exact hlt a ha⟩
      · rw [List.mem_append, h2, List.mem_singleton]
        constructor
        · rintro (⟨j, h, e⟩ | rfl)
          · exact ⟨j, by omega, e⟩
          · exact ⟨m, by omega, rfl⟩
        · rintro ⟨j, h, e⟩
          by_cases e' : j = m
          · subst e'; exact .inr e.symm
          · exact .inl ⟨j, by omega, e⟩
    · rw [if_neg hk, List.append_nil]
      refine ⟨h1, fun x => ?_⟩
      rw [h2]
      constructor
      · rintro ⟨j, h, e⟩; exact ⟨j, by omega, e⟩
      · rintro ⟨j, h, e⟩
        by_cases e' : j = m
        · subst e'
          have hk' : ¬ (j = 0 ∨ l.toArray[j]! ≠ l.toArray[j - 1]!) := fun h => hk (decide_eq_true h)
          have h0 : j ≠ 0 := fun h => hk' (.inl h)
          have h3 : l.toArray[j]! = l.toArray[j - 1]! := by
            rcases Classical.em (l.toArray[j]! = l.toArray[j - 1]!) with h | h
            · exact h
            · exact absurd (.inr h) hk'
          exact ⟨j - 1, by omega, by rw [← h3, e]⟩
        · exact ⟨j, by omega, e⟩
theorem mem_arr {l : List Int} (x : Int) : (∃ j, j < l.length ∧ l.toArray[j]! = x) ↔ x ∈ l := by
  constructor
  · rintro ⟨j, hj, rfl⟩
    rw [getElem!_pos l.toArray j (by simpa using hj)]
    simp
  · intro h
    obtain ⟨j, hj, rfl⟩ := List.mem_iff_getElem.1 h
    exact ⟨j, hj, by rw [getElem!_pos l.toArray j (by simpa using hj)]; simp⟩
theorem compact_sorted {l : List Int} (hs : l.Pairwise (· ≤ ·)) : Inc (Lib.compact l) ∧ ∀ x, x ∈ Lib.compact l ↔ x ∈ l := by
  obtain ⟨h1, h2⟩ := compact_upto hs l.length (Nat.le_refl _)
  exact ⟨h1, fun x => (h2 x).trans (mem_arr x)⟩
theorem mergeSort_leI (l : List Int) : (l.mergeSort leI).Pairwise (· ≤ ·) := by
  have := List.pairwise_mergeSort (le := leI) (fun a b c h1 h2 => by simp [leI] at *; omega) (fun a b => by simp [leI]; omega) l
  exact this.imp fun h => by simpa [leI] using h
theorem compact_sort (l : List Int) : Inc (Lib.compact (l.mergeSort leI)) ∧ ∀ x, x ∈ Lib.compact (l.mergeSort leI) ↔ x ∈ l := by
  obtain ⟨h1, h2⟩ := compact_sorted (mergeSort_leI l)
  exact ⟨h1, fun x => (h2 x).trans List.mem_mergeSort⟩
def rawK (s : List UInt8) (k : Nat) : List Int := (List.range k).map (codeAt s)
@[simp] theorem rawK_length (s : List UInt8) (k : Nat) : (rawK s k).length = k := by simp [rawK]
theorem rawK_succ (s : List UInt8) (k : Nat) : rawK s (k + 1) = rawK s k ++ [codeAt s k] := by unfold rawK; rw [List.range_succ, List.map_append]; rfl
theorem codes_final (s : List UInt8) : Lib.compact ((rawK s (s.length - 2)).mergeSort leI) = ofV s := by
  obtain ⟨h1, h2⟩ := compact_sort (rawK s (s.length - 2))
  refine inc_unique h1 (ofK_inc s _) fun x => ?_
  rw [h2, ofV_mem]
  simp [rawK]
theorem cut3_length {s : List UInt8} {k : Nat} (h : k + 3 ≤ s.length) : (List.drop k (List.take (k + 3) s)).length = 3 := by simp; omega
theorem codeV_cut {s : List UInt8} {k : Nat} (h : k + 3 ≤ s.length) : codeV (List.drop k (List.take (k + 3) s)) = codeAt s k := by
  unfold codeV
  rw [if_pos (cut3_length h)]
  unfold codeAt
  simp only [List.getD_eq_getElem?_getD, List.getElem?_drop, List.getElem?_take]
  simp
set_option maxHeartbeats 1000000 in
theorem Codes_spec (s : List UInt8) (hs : s.length ≤ 900000) : Spec1 Tryz.prog 60 [.str s] (.sl 1 false (intsHV (ofV s))) := by
  have hcf := codes_final s
  have hcl := Lib.compact_length_le ((rawK s (s.length - 2)).mergeSort leI)
  have hml : ((rawK s (s.length - 2)).mergeSort leI).length = s.length - 2 := by rw [List.length_mergeSort, rawK_length]
  refine Spec1.of_HT Tryz.func60 rfl (by rw [Tryz.ntmps60]; simp) rfl ?_
  rw [Tryz.ntmps60]
  refine HT.seq ?_
  refine HT.region ?_   -- R0
  simp (disch := first | omega | (simp <;> omega) | fail) [wrap_i64, wrap_u64, wrap_u8']
  refine HT.seq ?_
  refine HT.region ?_   -- R1
  simp (disch := first | omega | (simp <;> omega) | fail) [wrap_i64, wrap_u64, wrap_u8']
  refine HT.weaken (HS.le_own (t := 3) 200 3 1 _ (by decide) rfl (by decide)) ?_
  refine HT.seq ?_
  refine HT.seq ?_
  refine HT.region ?_   -- R2
  simp (disch := first | omega | (simp <;> omega) | fail) [wrap_i64, wrap_u64, wrap_u8']
  refine HT.block ?_
  refine HT.loopK (fun k : {k : Nat // k ≤ s.length - 2} => [.s 4 (i64 k), .s 3 (.ref 200), .o 200 (.row 3 1 (intsHV (rawK s k)))]) [0] [] (fun k => s.length - k) (⟨0, by omega⟩) ?_ ?_   -- block 0 turned [3, 4]
  · simp (disch := first | omega | (simp <;> omega) | fail) [wrap_i64, wrap_u64, wrap_u8', show rawK s 0 = [] from rfl]
  rintro ⟨k, hk⟩
  simp (disch := first | omega | (simp <;> omega) | fail) [wrap_i64, wrap_u64, wrap_u8']
  refine HT.seq ?_
  refine HT.seq ?_
  refine HT.region ?_   -- R3
  simp (disch := first | omega | (simp <;> omega) | fail) [wrap_i64, wrap_u64, wrap_u8']
  refine HT.cond' ?_   -- if 11
  simp (disch := first | omega | (simp <;> omega) | fail) [wrap_i64, wrap_u64, wrap_u8']
  refine ⟨fun h11 => ?_, fun h11 => ?_⟩
  · skip
    have hk' : k + 3 ≤ s.length := by omega
    have hcu := codeV_cut hk'
    have hcu3 := cut3_length hk'
    refine HT.skip ?_
    simp (disch := first | omega | (simp <;> omega) | fail) [wrap_i64, wrap_u64, wrap_u8']
    refine HT.seq ?_
    refine HT.block ?_
    refine HT.seq ?_
    refine HT.region ?_   -- R5
    simp (disch := first | omega | (simp <;> omega) | fail) [wrap_i64, wrap_u64, wrap_u8', hcu, hcu3]
    refine stepK.mk (.callT _ _ _ _ rfl Ty.hb91 rfl (Code_spec (List.drop k (List.take (k + 3) s)) (by omega)) rfl rfl) ?_
    simp (disch := first | omega | (simp <;> omega) | fail) [wrap_i64, wrap_u64, wrap_u8', hcu, hcu3]
    refine HT.seq ?_
    refine HT.region ?_   -- R6
    simp (disch := first | omega | (simp <;> omega) | fail) [wrap_i64, wrap_u64, wrap_u8']
    refine HT.cond' ?_   -- if 23
    simp (disch := first | omega | (simp <;> omega) | fail) [wrap_i64, wrap_u64, wrap_u8']
    refine HT.region ?_   -- R7
    simp (disch := first | omega | (simp <;> omega) | fail) [wrap_i64, wrap_u64, wrap_u8']
    refine HT.region ?_   -- R4
    simp (disch := first | omega | (simp <;> omega) | fail) [wrap_i64, wrap_u64, wrap_u8']
    refine Round.mk' (⟨k + 1, by omega⟩) (by dsimp only; omega) rfl ?_
    simp (disch := first | omega | (simp <;> omega) | fail) [wrap_i64, wrap_u64, wrap_u8', rawK_succ]
  · skip
    obtain rfl : k = s.length - 2 := by omega
    refine HT.exit ?_
    simp (disch := first | omega | (simp <;> omega) | fail) [wrap_i64, wrap_u64, wrap_u8']
    refine HT.seq ?_
    refine HT.region ?_   -- R8
    simp (disch := first | omega | (simp <;> omega) | fail) [wrap_i64, wrap_u64, wrap_u8']
    refine stepK.mk (.callS _ _ _ _ _ _ _ rfl Ty.hb92 (by first | rfl | simp) (by simp) (by first | rfl | simp) (Sort_spec (rawK s (s.length - 2)) (by simp; omega)) rfl) ?_
    simp (disch := first | omega | (simp <;> omega) | fail) [wrap_i64, wrap_u64, wrap_u8']
    refine HT.seq ?_
    refine HT.region ?_   -- R9
    simp (disch := first | omega | (simp <;> omega) | fail) [wrap_i64, wrap_u64, wrap_u8']
    refine stepK.mk (.callR _ _ _ _ _ _ _ rfl Ty.hb93 (by first | rfl | simp) (by simp) (by first | rfl | simp) (Compact_spec ((rawK s (s.length - 2)).mergeSort leI) (by omega) hcl) rfl) ?_
    simp (disch := first | omega | (simp <;> omega) | fail) [wrap_i64, wrap_u64, wrap_u8']
    refine HT.ret ?_
    simp (disch := first | omega | (simp <;> omega) | fail) [wrap_i64, wrap_u64, wrap_u8', hcf]
end Go.Hv
set_option linter.unusedVariables false
set_option linter.unusedSimpArgs false
namespace Go.Hv
open Go Go.Hv Go.Proofs
open Go.Proofs.YtlbmbnpknobjdaaGreatDoor
end Go.Hv
set_option linter.unusedVariables false
set_option linter.unusedSimpArgs false
namespace Go.Hv
open Go Go.Hv Go.Proofs
open Go.Proofs.YtlbmbnpknobjdaaGreatDoor
def srt (l : List Int) : List Int := l.mergeSort leI
theorem srt_mem (l : List Int) (x : Int) : x ∈ srt l ↔ x ∈ l := List.mem_mergeSort
theorem srt_length (l : List Int) : (srt l).length = l.length := List.length_mergeSort l
theorem srt_sorted (l : List Int) : (srt l).Pairwise (· ≤ ·) := mergeSort_leI l
theorem Cand11_spec (l : List Int) (x : Int) (hl : l.length ≤ 1000000) (hs : l.Pairwise (· ≤ ·)) : Spec1 Tryz.prog 96 [i64 x, .cptr [.sl 1 false (intsHV l)]] (bo (decide (x ∈ l))) := by
  refine Spec1.of_HT Tryz.func96 rfl (by rw [Tryz.ntmps96]; simp) rfl ?_
  rw [Tryz.ntmps96]
  refine HT.seq ?_
  refine HT.region ?_   -- R0
  simp (disch := first | omega | (simp <;> omega) | fail) [wrap_i64, wrap_u64, wrap_u8']
  refine HT.seq ?_
  refine HT.region ?_   -- R1
  simp (disch := first | omega | (simp <;> omega) | fail) [wrap_i64, wrap_u64, wrap_u8']
  refine stepK.mk (.callT _ _ _ _ rfl Ty.hb97 rfl (BinarySearch_spec false l x hl hs) rfl rfl) ?_
  simp (disch := first | omega | (simp <;> omega) | fail) [wrap_i64, wrap_u64, wrap_u8']
  refine HT.seq ?_
  refine HT.region ?_   -- R2
  simp (disch := first | omega | (simp <;> omega) | fail) [wrap_i64, wrap_u64, wrap_u8']
  refine HT.ret ?_
  simp (disch := first | omega | (simp <;> omega) | fail) [wrap_i64, wrap_u64, wrap_u8']
theorem Cand2_spec (x : Int) : Spec1 Tryz.prog 99 [i64 x] (bo (decide (x < 0))) := by
  refine Spec1.of_HT Tryz.func99 rfl (by rw [Tryz.ntmps99]; simp) rfl ?_
  rw [Tryz.ntmps99]
  refine HT.seq ?_
  refine HT.region ?_   -- R0
  simp (disch := first | omega | (simp <;> omega) | fail) [wrap_i64, wrap_u64, wrap_u8']
  refine HT.seq ?_
  refine HT.region ?_   -- R1
  simp (disch := first | omega | (simp <;> omega) | fail) [wrap_i64, wrap_u64, wrap_u8']
  refine HT.ret ?_
  simp (disch := first | omega | (simp <;> omega) | fail) [wrap_i64, wrap_u64, wrap_u8']
theorem Cand3_spec (l : List Int) (x : Int) (k : Nat) (hl : l.length ≤ 1000000) (hs : l.Pairwise (· ≤ ·)) (hk : k ≤ 1000000) (hx : -9223372036854775808 ≤ x ∧ x < 9223372036854775808) : Spec1 Tryz.prog 100 [i64 x, .cptr [i64 k], .cptr [.fn (.func 96) [.cptr [.sl 1 false (intsHV l)]]]] (bo (!decide (x + k ∈ l ∧ x ≤ 9223372036854775807 - k))) := by
  refine Spec1.of_HT Tryz.func100 rfl (by rw [Tryz.ntmps100]; simp) rfl ?_
  rw [Tryz.ntmps100]
  refine HT.seq ?_
  refine HT.region ?_   -- R0
  simp (disch := first | omega | (simp <;> omega) | fail) [wrap_i64, wrap_u64, wrap_u8']
  refine HT.seq ?_
  by_cases c : x > 9223372036854775807 - k
  · skip
    refine HT.region ?_   -- R1
    simp (disch := first | omega | (simp <;> omega) | fail) [wrap_i64, wrap_u64, wrap_u8', c]
    refine HT.ret ?_
    simp (disch := first | omega | (simp <;> omega) | fail) [wrap_i64, wrap_u64, wrap_u8']
  refine HT.region ?_   -- R1
  simp (disch := first | omega | (simp <;> omega) | fail) [wrap_i64, wrap_u64, wrap_u8', c]
  refine stepK.mk (.call1 _ _ _ _ rfl Ty.hb96 rfl (Cand11_spec l (x + k) hl hs) rfl rfl) ?_
  simp (disch := first | omega | (simp <;> omega) | fail) [wrap_i64, wrap_u64, wrap_u8', c]
  refine HT.ret ?_
  simp (disch := first | omega | (simp <;> omega) | fail) [wrap_i64, wrap_u64, wrap_u8']
@[simp] def candFn (l : List Int) : HV := .fn (.func 96) [.cptr [.sl 1 false (intsHV l)]]
theorem Cand1_spec (f : Bool) (l : List Gram) (s : List UInt8) (i : Nat) (hl : GB l) (hs : s.length ≤ 900000) (hi : i + 2 < s.length) : Spec1 Tryz.prog 94 [i64 i, .cptr [.str s], .cptr [.sl 2 f (gramsHV l)]] (.fn (.func 96) [.cptr [.sl 1 false (intsHV (srt (atV l (codeAt s i))))]]) := by
  have hcu := codeV_cut (s := s) (k := i) (by omega)
  have hcu3 := cut3_length (s := s) (k := i) (by omega)
  have hat := atV_GB hl (codeAt s i)
  refine Spec1.of_HT Tryz.func94 rfl (by rw [Tryz.ntmps94]; simp) rfl ?_
  rw [Tryz.ntmps94]
  refine HT.seq ?_
  refine HT.region ?_   -- R0
  simp (disch := first | omega | (simp <;> omega) | fail) [wrap_i64, wrap_u64, wrap_u8']
  refine HT.seq ?_
  refine HT.region ?_   -- R1
  simp (disch := first | omega | (simp <;> omega) | fail) [wrap_i64, wrap_u64, wrap_u8', hcu, hcu3]
  refine stepK.mk (.callT _ _ _ _ rfl Ty.hb91 rfl (Code_spec (List.drop i (List.take (i + 3) s)) (by simp; omega)) rfl rfl) ?_
  simp (disch := first | omega | (simp <;> omega) | fail) [wrap_i64, wrap_u64, wrap_u8', hcu, hcu3]
  refine HT.seq ?_
  refine HT.region ?_   -- R2
  simp (disch := first | omega | (simp <;> omega) | fail) [wrap_i64, wrap_u64, wrap_u8']
  refine stepK.mk (.call1f _ _ _ _ _ rfl Ty.hb95 rfl rfl (At_spec f l (codeAt s i) hl.1) rfl) ?_
  simp (disch := first | omega | (simp <;> omega) | fail) [wrap_i64, wrap_u64, wrap_u8']
  refine stepK.mk (.callO _ _ _ _ _ _ _ _ rfl Ty.hb58 rfl rfl (Clone_spec false (atV l (codeAt s i)) (by omega)) rfl rfl) ?_
  simp (disch := first | omega | (simp <;> omega) | fail) [wrap_i64, wrap_u64, wrap_u8']
  refine HT.seq ?_
  refine HT.region ?_   -- R3
  simp (disch := first | omega | (simp <;> omega) | fail) [wrap_i64, wrap_u64, wrap_u8']
  refine stepK.mk (.callS _ _ _ _ _ _ _ rfl Ty.hb92 (by simp) (by simp) (by first | rfl | simp) (Sort_spec (atV l (codeAt s i)) (by omega)) rfl) ?_
  simp (disch := first | omega | (simp <;> omega) | fail) [wrap_i64, wrap_u64, wrap_u8']
  refine HT.weaken (HS.le_frzref (id := 20) (xr := .sl 1 false (intsHV (srt (atV l (codeAt s i))))) (xm := .any) (by simp [srt])) ?_
  refine HT.weaken (HS.le_frzbox 7 7 (by decide) rfl rfl (by simp [isIL, isI])) ?_
  refine HT.seq ?_
  refine HT.region ?_   -- R4
  simp (disch := first | omega | (simp <;> omega) | fail) [wrap_i64, wrap_u64, wrap_u8']
  refine HT.ret ?_
  simp (disch := first | omega | (simp <;> omega) | fail) [wrap_i64, wrap_u64, wrap_u8']
def r0V (l : List Gram) (s : List UInt8) : List Int := (Lib.compact (srt (atV l (codeAt s 0)))).filter fun x => !decide (x < 0)
def offP (l : List Gram) (s : List UInt8) (i : Nat) (x : Int) : Bool := !decide (x + i ∈ srt (atV l (codeAt s i)) ∧ x ≤ 9223372036854775807 - i)
def candK (l : List Gram) (s : List UInt8) : Nat → List Int
  | 0 => r0V l s
  | k + 1 => (candK l s k).filter fun x => !offP l s (k + 1) x
theorem candK_mem (l : List Gram) (s : List UInt8) : ∀ (k : Nat) (x : Int), x ∈ candK l s k ↔ (x ∈ atV l (codeAt s 0) ∧ 0 ≤ x) ∧ ∀ i, 1 ≤ i → i ≤ k → x + i ∈ atV l (codeAt s i) ∧ x ≤ 9223372036854775807 - i
  | 0, x => by
    unfold candK r0V
    have hc : ∀ y, y ∈ Lib.compact (srt (atV l (codeAt s 0))) ↔ y ∈ atV l (codeAt s 0) := (compact_sort _).2
    rw [List.mem_filter, hc]
    simp only [Bool.not_eq_true', decide_eq_false_iff_not, Int.not_lt]
    constructor
    · intro h; exact ⟨h, fun i h1 h2 => by omega⟩
    · intro h; exact h.1
  | k + 1, x => by
    unfold candK
    rw [List.mem_filter, candK_mem l s k]
    unfold offP
    simp only [Bool.not_not, decide_eq_true_eq, srt_mem]
    constructor
    · rintro ⟨⟨h1, h2⟩, h3⟩
      refine ⟨h1, fun i a b => ?_⟩
      by_cases e : i = k + 1
      · subst e; exact h3
      · exact h2 i a (by omega)
    · rintro ⟨h1, h2⟩
      exact ⟨⟨h1, fun i a b => h2 i a (by omega)⟩, h2 (k + 1) (by omega) (Nat.le_refl _)⟩
theorem candK_inc (l : List Gram) (s : List UInt8) : ∀ k, Inc (candK l s k)
  | 0 => (compact_sort _).1.sublist List.filter_sublist
  | k + 1 => (candK_inc l s k).sublist List.filter_sublist
theorem candK_len (l : List Gram) (s : List UInt8) : ∀ k, (candK l s k).length ≤ (atV l (codeAt s 0)).length
  | 0 => by
    have h1 := List.length_filter_le (fun x => !decide (x < 0)) (Lib.compact (srt (atV l (codeAt s 0))))
    have h2 := Lib.compact_length_le (srt (atV l (codeAt s 0)))
    have h3 := srt_length (atV l (codeAt s 0))
    unfold candK r0V; omega
  | k + 1 => by
    have h1 := List.length_filter_le (fun x => !offP l s (k + 1) x) (candK l s k)
    have h2 := candK_len l s k
    unfold candK; omega
theorem ins_foldl_mem (r : List Int) : ∀ (a : List Int) (x : Int), x ∈ r.foldl ins a ↔ x ∈ a ∨ x ∈ r := by
  induction r with
  | nil => intro a x; simp
  | cons y r ih => intro a x; rw [List.foldl_cons, ih, ins_mem]; simp [or_assoc, or_comm, or_left_comm]
theorem candJ_iff (l : List Gram) (s : List UInt8) (x : Int) (j : Nat) : candJ l s x j = true ↔ 0 ≤ x ∧ ∀ i, i < j → x + i ∈ atV l (codeAt s i) := by
  unfold candJ folV folB
  simp only [Bool.and_eq_true, decide_eq_true_eq, List.all_eq_true, List.mem_range, List.any_eq_true]
  constructor
  · rintro ⟨h0, h⟩
    refine ⟨h0, fun i hi => ?_⟩
    obtain ⟨y, hy, h1, h2⟩ := h i hi
    have : x + i = y := by omega
    rw [this]; exact hy
  · rintro ⟨h0, h⟩
    exact ⟨h0, fun i hi => ⟨x + i, h i hi, by omega, by omega⟩⟩
theorem cand_eq {l : List Gram} {s : List UInt8} (hl : GB l) (h : ¬ s.length < 3) : candK l s (s.length - 3) = candV l s := by
  unfold candV
  rw [if_neg h]
  refine inc_unique (candK_inc l s _) (candI_inc l s _) fun x => ?_
  rw [candK_mem]
  unfold candI
  rw [ins_foldl_mem, List.take_length, List.mem_filter, candJ_iff]
  constructor
  · rintro ⟨⟨h1, h2⟩, h3⟩
    refine .inr ⟨h1, h2, fun i hi => ?_⟩
    by_cases e : i = 0
    · subst e; simpa using h1
    · exact (h3 i (by omega) (by omega)).1
  · rintro (h1 | ⟨h1, h2, h3⟩)
    · cases h1
    · refine ⟨⟨h1, h2⟩, fun i a b => ?_⟩
      have hm := h3 i (by omega)
      have := ((atV_GB hl (codeAt s i)).2 _ hm).2
      exact ⟨hm, by omega⟩
theorem take_drop0 (s : List UInt8) (h : 3 ≤ s.length) : (List.take 3 s).length = 3 ∧ codeV (List.take 3 s) = codeAt s 0 := by
  have h1 := cut3_length (s := s) (k := 0) (by omega)
  have h2 := codeV_cut (s := s) (k := 0) (by omega)
  simp only [List.drop_zero, Nat.zero_add] at h1 h2
  exact ⟨h1, h2⟩
set_option maxHeartbeats 4000000 in
set_option maxRecDepth 20000 in
theorem Cand_spec (f : Bool) (l : List Gram) (s : List UInt8) (hl : GB l) (hs : s.length ≤ 900000) : SpecT Tryz.prog 61 [.sl 2 f (gramsHV l), .str s] [.sl 1 false (intsHV (candV l s)), bo (decide (¬ s.length < 3))] := by
  have hfirst := atV_GB hl (codeAt s 0)
  have hcl := candK_len l s
  have hc1 : ∀ x : List Int, (Lib.compact x).length ≤ x.length := Lib.compact_length_le
  have hsl := srt_length (atV l (codeAt s 0))
  refine SpecT.of_HT Tryz.func61 rfl (by rw [Tryz.ntmps61]; simp) (rs := [.tmp 4, .tmp 5]) rfl (by decide) ?_
  rw [Tryz.ntmps61]
  refine HT.seq ?_
  refine HT.region ?_   -- R0
  simp (disch := first | omega | (simp <;> omega) | fail) [wrap_i64, wrap_u64, wrap_u8']
  refine HT.weaken (HS.le_frzbox 2 2 (by decide) rfl rfl (by simp [isIL, isI])) ?_
  simp
  refine HT.weaken (HS.le_frzbox 3 3 (by decide) rfl rfl (by simp [isIL, isI])) ?_
  simp
  refine HT.seq ?_
  refine HT.seq ?_
  by_cases c0 : s.length < 3
  · skip
    refine HT.region ?_   -- R1
    simp (disch := first | omega | (simp <;> omega) | fail) [wrap_i64, wrap_u64, wrap_u8']
    refine HT.cond' ?_   -- if 14
    simp (disch := first | omega | (simp <;> omega) | fail) [wrap_i64, wrap_u64, wrap_u8']
    refine HT.seq ?_
    refine HT.region ?_   -- R2
    simp (disch := first | omega | (simp <;> omega) | fail) [wrap_i64, wrap_u64, wrap_u8']
    refine HT.weaken (HS.le_wk 4 (.sl 1 false []) (by decide) rfl rfl (HLe.nilf 0 1 true)) ?_
    refine HT.ret ?_
    simp (disch := first | omega | (simp <;> omega) | fail) [wrap_i64, wrap_u64, wrap_u8', candV, c0]
  have ht3 := take_drop0 s (by omega)
  refine HT.region ?_   -- R1
  simp (disch := first | omega | (simp <;> omega) | fail) [wrap_i64, wrap_u64, wrap_u8']
  refine HT.cond' ?_   -- if 14
  simp (disch := first | omega | (simp <;> omega) | fail) [wrap_i64, wrap_u64, wrap_u8']
  refine HT.skip ?_
  simp (disch := first | omega | (simp <;> omega) | fail) [wrap_i64, wrap_u64, wrap_u8']
  refine HT.seq ?_
  refine HT.region ?_   -- R3
  simp (disch := first | omega | (simp <;> omega) | fail) [wrap_i64, wrap_u64, wrap_u8']
  refine HT.seq ?_
  refine HT.region ?_   -- R4
  simp (disch := first | omega | (simp <;> omega) | fail) [wrap_i64, wrap_u64, wrap_u8', ht3.1, ht3.2]
  refine stepK.mk (.callT _ _ _ _ rfl Ty.hb91 rfl (Code_spec (List.take 3 s) (by simp; omega)) rfl rfl) ?_
  simp (disch := first | omega | (simp <;> omega) | fail) [wrap_i64, wrap_u64, wrap_u8', ht3.1, ht3.2]
  refine HT.seq ?_
  refine HT.region ?_   -- R5
  simp (disch := first | omega | (simp <;> omega) | fail) [wrap_i64, wrap_u64, wrap_u8']
  refine stepK.mk (.call1f _ _ _ _ _ rfl Ty.hb95 rfl rfl (At_spec f l (codeAt s 0) hl.1) rfl) ?_
  simp (disch := first | omega | (simp <;> omega) | fail) [wrap_i64, wrap_u64, wrap_u8']
  refine stepK.mk (.callO _ _ _ _ _ _ _ _ rfl Ty.hb58 rfl rfl (Clone_spec false (atV l (codeAt s 0)) (by omega)) rfl rfl) ?_
  simp (disch := first | omega | (simp <;> omega) | fail) [wrap_i64, wrap_u64, wrap_u8']
  refine HT.seq ?_
  refine HT.region ?_   -- R6
  simp (disch := first | omega | (simp <;> omega) | fail) [wrap_i64, wrap_u64, wrap_u8']
  refine stepK.mk (.callS _ _ _ _ _ _ _ rfl Ty.hb92 (by first | rfl | simp) (by simp) (by first | rfl | simp) (Sort_spec (atV l (codeAt s 0)) (by omega)) rfl) ?_
  simp (disch := first | omega | (simp <;> omega) | fail) [wrap_i64, wrap_u64, wrap_u8']
  refine HT.seq ?_
  refine HT.region ?_   -- R7
  simp (disch := first | omega | (simp <;> omega) | fail) [wrap_i64, wrap_u64, wrap_u8']
  refine stepK.mk (.callR _ _ _ _ _ _ _ rfl Ty.hb93 (by first | rfl | simp) (by simp) (by first | rfl | simp) (Compact_spec (srt (atV l (codeAt s 0))) (by omega) (hc1 _)) rfl) ?_
  simp (disch := first | omega | (simp <;> omega) | fail) [wrap_i64, wrap_u64, wrap_u8']
  refine stepK.mk (.callR _ _ _ _ _ _ _ rfl Ty.hb98 (by first | rfl | simp) (by simp) (by first | rfl | simp) (DeleteFunc_spec 99 Ty.hb99 [] rfl (fun x => decide (x < 0)) (Lib.compact (srt (atV l (codeAt s 0)))) (by have := hc1 (srt (atV l (codeAt s 0))); omega) (fun x _ => Cand2_spec x)) rfl) ?_
  simp (disch := first | omega | (simp <;> omega) | fail) [wrap_i64, wrap_u64, wrap_u8']
  refine HT.seq ?_
  refine HT.seq ?_
  refine HT.region ?_   -- R8
  simp (disch := first | omega | (simp <;> omega) | fail) [wrap_i64, wrap_u64, wrap_u8']
  refine HT.block ?_
  refine HT.loopK (fun k : {k : Nat // k ≤ s.length - 3} => [.s 9 (.ref 25), .o 25 (.row 3 1 (intsHV (candK l s k))), .s 10 (.ptr 10 0), .o 10 (.box [i64 (k + 1)])]) [3, 6] [3] (fun k => s.length - k) (⟨0, by omega⟩) ?_ ?_   -- block 0 turned [9, 10]
  · simp (disch := first | omega | (simp <;> omega) | fail) [wrap_i64, wrap_u64, wrap_u8', candK, r0V]
  rintro ⟨k, hk⟩
  simp (disch := first | omega | (simp <;> omega) | fail) [wrap_i64, wrap_u64, wrap_u8']
  refine HT.seq ?_
  refine HT.seq ?_
  refine HT.region ?_   -- R9
  simp (disch := first | omega | (simp <;> omega) | fail) [wrap_i64, wrap_u64, wrap_u8']
  refine HT.cond' ?_   -- if 35
  simp (disch := first | omega | (simp <;> omega) | fail) [wrap_i64, wrap_u64, wrap_u8']
  refine ⟨fun h35 => ?_, fun h35 => ?_⟩
  · skip
    have hk' : k + 4 ≤ s.length := by omega
    have hat := atV_GB hl (codeAt s (k + 1))
    have hlk := hcl k
    have hsk := srt_length (atV l (codeAt s (k + 1)))
    refine HT.skip ?_
    simp (disch := first | omega | (simp <;> omega) | fail) [wrap_i64, wrap_u64, wrap_u8']
    refine HT.seq ?_
    refine HT.block ?_
    refine HT.seq ?_
    refine HT.region ?_   -- R11
    simp (disch := first | omega | (simp <;> omega) | fail) [wrap_i64, wrap_u64, wrap_u8']
    refine stepK.mk (.call1f _ _ _ _ _ rfl Ty.hb94 rfl rfl (Cand1_spec f l s (k + 1) hl hs (by omega)) rfl) ?_
    simp (disch := first | omega | (simp <;> omega) | fail) [wrap_i64, wrap_u64, wrap_u8']
    refine HT.weaken (HS.le_frzbox 10 10 (by show (10 : Nat) < 46; decide) rfl rfl (by simp [isIL, isI])) ?_
    simp
    refine HT.weaken (HS.le_frzbox 11 11 (by show (11 : Nat) < 46; decide) rfl rfl (by simp [isIL, isI])) ?_
    simp
    refine HT.region ?_   -- R12
    simp (disch := first | omega | (simp <;> omega) | fail) [wrap_i64, wrap_u64, wrap_u8']
    refine stepK.mk (.callR _ _ _ _ _ _ _ rfl Ty.hb98 (by first | rfl | simp) (by simp) (by first | rfl | simp) (DeleteFunc_spec 100 Ty.hb100 [.cptr [i64 (k + 1)], .cptr [candFn (srt (atV l (codeAt s (k + 1))))]] (by simp [isIL, isI]) (offP l s (k + 1)) (candK l s k) (by omega) (fun x hx => Cand3_spec _ x (k + 1) (by omega) (srt_sorted _) (by omega) (hfirst.2 x ((candK_mem l s k x).1 hx).1.1))) rfl) ?_
    simp (disch := first | omega | (simp <;> omega) | fail) [wrap_i64, wrap_u64, wrap_u8']
    refine HT.seq ?_
    refine HT.seq ?_
    refine HT.region ?_   -- R13
    simp (disch := first | omega | (simp <;> omega) | fail) [wrap_i64, wrap_u64, wrap_u8']
    refine HT.region ?_   -- R14
    simp (disch := first | omega | (simp <;> omega) | fail) [wrap_i64, wrap_u64, wrap_u8']
    refine HT.region ?_   -- R10
    simp (disch := first | omega | (simp <;> omega) | fail) [wrap_i64, wrap_u64, wrap_u8']
    refine Round.mk' (⟨k + 1, by omega⟩) (by dsimp only; omega) rfl ?_
    simp (disch := first | omega | (simp <;> omega) | fail) [wrap_i64, wrap_u64, wrap_u8', candK, offP]
  · skip
    obtain rfl : k = s.length - 3 := by omega
    refine HT.exit ?_
    simp (disch := first | omega | (simp <;> omega) | fail) [wrap_i64, wrap_u64, wrap_u8']
    refine HT.seq ?_
    refine HT.region ?_   -- R15
    simp (disch := first | omega | (simp <;> omega) | fail) [wrap_i64, wrap_u64, wrap_u8']
    refine HT.ret ?_
    simp (disch := first | omega | (simp <;> omega) | fail) [wrap_i64, wrap_u64, wrap_u8', cand_eq hl c0, c0]
end Go.Hv
set_option linter.unusedVariables false
set_option linter.unusedSectionVars false
set_option linter.unusedSimpArgs false
/- Conditions: trees of a kind, a number and parts. -/
namespace Go.Hv
open Go Go.RowKit
variable [GI]
inductive NeedT where
  | mk (kind gram : Int) (subs : List NeedT)
def NeedT.kind : NeedT → Int | .mk k _ _ => k
def NeedT.gram : NeedT → Int | .mk _ g _ => g
def NeedT.subs : NeedT → List NeedT | .mk _ _ s => s
mutual
def NeedT.enc (n : NeedT) : List HV :=
  match n with
  | .mk k g s => [i64 k, i64 g, .sl 3 false (needsHV s)]
  termination_by structural n
def needsHV (l : List NeedT) : List (List HV) :=
  match l with
  | [] => []
  | x :: r => x.enc :: needsHV r
  termination_by structural l
end
theorem needsHV_map (l : List NeedT) : needsHV l = l.map NeedT.enc := by
  induction l with
  | nil => rfl
  | cons x r ih => rw [needsHV, ih]; rfl
@[simp] theorem needsHV_length (l : List NeedT) : (needsHV l).length = l.length := by rw [needsHV_map]; simp
theorem NeedT.enc_eq (n : NeedT) : n.enc = [i64 n.kind, i64 n.gram, .sl 3 false (needsHV n.subs)] := by cases n; rw [NeedT.enc]; rfl
@[simp] theorem needsHV_getElem (l : List NeedT) (k : Nat) (h : k < (needsHV l).length) : (needsHV l)[k] = (l[k]'(by simpa using h)).enc := by simp [needsHV_map]
mutual
theorem isIL_need (n : NeedT) : isIL n.enc = true := by
  match n with
  | .mk k g s => rw [NeedT.enc]; simp [isIL, isI, isILL_needs s]
theorem isILL_needs (l : List NeedT) : isILL (needsHV l) = true := by
  match l with
  | [] => rfl
  | x :: r =>
    rw [needsHV, isILL_iff]
    have h := isILL_iff.1 (isILL_needs r)
    intro y hy
    rcases List.mem_cons.1 hy with rfl | hy
    · exact isIL_need x
    · exact h y hy
end
attribute [simp] isIL_need isILL_needs
inductive NeedB (B : Nat) : NeedT → Prop
  | mk (k g : Int) (s : List NeedT) (hl : s.length ≤ B) (h : ∀ x ∈ s, NeedB B x) : NeedB B (.mk k g s)
theorem NeedB.len {B : Nat} {n : NeedT} (h : NeedB B n) : n.subs.length ≤ B := by cases h with | mk k g s hl h => exact hl
theorem NeedB.sub {B : Nat} {n x : NeedT} (h : NeedB B n) (hx : x ∈ n.subs) : NeedB B x := by cases h with | mk k g s hl h => exact h x hx
/-! ### Conditions that are handed in -/
variable {H : Type} {enc : TypeId × Value → H} {P : Program} {w : World} {sp : Nat → Bool} {held : Bool} {B : Nat}
theorem sl_of_trodQ {Q : List HV → Prop} {sz : Nat} {et t : TypeId} {fuel : Nat} {cs : List Value} {x : DataW H × List MemPlace} (ht : P.underlying t = some (.slice et)) (hsz : P.cellsOf et = sz) (hpos : 0 < sz) (hby : 0 < P.bytesOf et)
    (rdr : ∀ (n : Nat), n < fuel → ∀ (cs : List Value) (x : DataW H × List MemPlace), DataW.trod enc P w 0 sp held n et cs = some x → (∀ n ∈ x.1.weights P et, n ≤ B) → ∃ hs, Q hs ∧ Reps w (fun _ => False) hs cs ∧ ∀ v ∈ cs, v.oneCell' = true)
    (h : DataW.trod enc P w 0 sp held fuel t cs = some x) (hB : ∀ n ∈ x.1.weights P t, n ≤ B) :
    ∃ es, es.length ≤ B ∧ (∀ x ∈ es, x.length = sz ∧ Q x) ∧ Reps w (fun _ => False) [.sl sz false es] cs ∧ ∀ v ∈ cs, v.oneCell' = true := by
  rcases DataW.trod_slice ht h with ⟨rfl, rfl⟩ | ⟨a, len, cap, elems, rest, n, rfl, rfl, rfl, _, hlc, hcm, hlen, hel, _, _⟩
  · exact ⟨[], Nat.zero_le _, by simp, .cons (.nil (fun h => by cases h) (fun _ => rfl)) .nil, by simp [Value.oneCell']⟩
  · simp only [DataW.weights, ht] at hB
    have hlb : elems.length ≤ B := by
      have := hB _ (List.mem_cons_self ..)
      simp only [List.length_map] at this
      have h2 : elems.length * 1 ≤ (elems.length + rest.length) * P.bytesOf et := Nat.mul_le_mul (Nat.le_add_right _ _) hby
      omega
    have hx : ∀ i, i < len → ∃ xs : List HV, ∃ cs : List Value, w.cells? 0 (a.add (i * sz)) sz = some cs ∧ Q xs ∧ Reps w (fun _ => False) xs cs ∧ ∀ v ∈ cs, v.oneCell' = true := by
      intro i hi
      have := hel i hi
      rw [hsz] at this
      cases hc : w.cells? 0 (a.add (i * sz)) sz with
      | none =>
        rw [hc] at this
        simp only [Option.bind_none] at this
        have hi' : i < elems.length := by omega
        rw [List.getElem?_eq_getElem hi'] at this
        cases this
      | some cs =>
        rw [hc] at this
        simp only [Option.bind_some] at this
        have hi' : i < elems.length := by omega
        rw [List.getElem?_eq_getElem hi'] at this
        have hb : ∀ n ∈ (elems[i]).1.weights P et, n ≤ B := fun n hn => hB n (List.mem_cons_of_mem _ (List.mem_append_left _ (weightsAll_mem (List.mem_map.2 ⟨_, List.getElem_mem hi', rfl⟩) hn)))
        obtain ⟨hs, h1, h2, h3⟩ := rdr n (Nat.lt_succ_self n) cs _ this hb
        exact ⟨hs, cs, rfl, h1, h2, h3⟩
    obtain ⟨es, hes, hp⟩ := list_choice (p := fun i xs => ∃ cs : List Value, w.cells? 0 (a.add (i * sz)) sz = some cs ∧ Q xs ∧ Reps w (fun _ => False) xs cs ∧ ∀ v ∈ cs, v.oneCell' = true) len hx
    rcases Nat.eq_zero_or_pos len with h0 | h0
    · subst h0
      have : es = [] := List.eq_nil_of_length_eq_zero hes
      subst this
      exact ⟨[], Nat.zero_le _, by simp, .cons (.nil (fun h => by cases h) (fun h => by cases h)) .nil, by simp [Value.oneCell']⟩
    · have hsp : a = ⟨a.block, a.off, none⟩ ∧ a.block < w.heap.size := by
        obtain ⟨xs, cs, hc, _⟩ := hx 0 h0
        rw [Nat.zero_mul] at hc
        unfold World.cells? at hc
        rw [if_pos (Nat.zero_le _)] at hc
        have h1 := mapM_some_length hc
        have h2 := mapM_some_get hc 0 0 (by simp [hpos])
        have hl : 0 < cs.length := by rw [h1]; simpa using hpos
        rw [List.getElem?_eq_getElem hl] at h2
        exact spot_none (by simpa [Addr.add] using h2)
      obtain ⟨hae, hbl⟩ := hsp
      have each : ∀ i xs, es[i]? = some xs → ∃ cs : List Value, cs.length = sz ∧ (∀ j, j < sz → w.cell? ⟨a.block, a.off + (i * sz + j), none⟩ = cs[j]?) ∧ Q xs ∧ Reps w (fun _ => False) xs cs ∧ ∀ v ∈ cs, v.oneCell' = true := by
        intro i xs hi
        obtain ⟨cs, hc, h1, h2, h3⟩ := hp i xs hi
        rw [hae, add_of_none] at hc
        obtain ⟨q1, q2⟩ := cells?_get hc
        exact ⟨cs, q1, fun j hj => by rw [← q2 j hj, Nat.add_assoc], h1, h2, h3⟩
      have hmem : ∀ x ∈ es, ∃ i, es[i]? = some x := fun x hx => List.mem_iff_getElem?.1 hx
      have hzl : ∀ x ∈ es, x.length = sz := fun x hx => by
        obtain ⟨i, hi⟩ := hmem x hx
        obtain ⟨cs, h1, _, _, h2, _⟩ := each i x hi
        rw [h2.length, h1]
      refine ⟨es, by omega, fun x hx => ⟨hzl x hx, ?_⟩, .cons ?_ .nil, by simp [Value.oneCell']⟩
      · obtain ⟨i, hi⟩ := hmem x hx
        obtain ⟨cs, _, _, h2, _⟩ := each i x hi
        exact h2
      · rw [hae, ← hes]
        refine .sl (fun i j => (w.cell? ⟨a.block, a.off + (i * sz + j), none⟩).getD undef) hzl (by omega) (fun h => by cases h) (fun h => h) hbl (fun i j hi hj => ?_) (fun i j hi hj => ?_) (fun i j x c hi hc => ?_)
        · obtain ⟨cs, h1, h2, _⟩ := each i es[i] (List.getElem?_eq_getElem hi)
          rw [h2 j hj, List.getElem?_eq_getElem (by omega)]; rfl
        · obtain ⟨cs, h1, h2, _, _, h3⟩ := each i es[i] (List.getElem?_eq_getElem hi)
          rw [h2 j hj, List.getElem?_eq_getElem (by omega)]
          exact h3 _ (List.getElem_mem _)
        · obtain ⟨cs, h1, h2, _, h4, _⟩ := each i x hi
          have hj : j < sz := by
            have := (List.getElem?_eq_some_iff.1 hc).1
            rw [h4.length, h1] at this; exact this
          rw [h2 j hj]
          have hv : cs[j]? = some (cs[j]'(by omega)) := List.getElem?_eq_getElem (by omega)
          rw [hv]
          exact h4.get j c _ hc hv
def needTy (P : Program) (tN : TypeId) : Bool := match P.underlying tN with
  | some (.struct gs) => match gs.toList with
    | [g1, g2, g3] => g1.offset == 0 && g2.offset == 1 && g3.offset == 2 && P.cellsOf tN == 3 && P.cellsOf g1.type == 1 && P.cellsOf g2.type == 1 && P.cellsOf g3.type == 1 && decide (0 < P.bytesOf tN) &&
      (match P.underlying g1.type, P.underlying g2.type, P.underlying g3.type with
      | some (.int .i64), some (.int .i64), some (.slice t) => t == tN
      | _, _, _ => false)
    | _ => false
  | _ => false
theorem list_of {p : NeedT → Prop} : ∀ {es : List (List HV)}, (∀ x ∈ es, ∃ n : NeedT, x = n.enc ∧ p n) → ∃ l : List NeedT, es = needsHV l ∧ ∀ n ∈ l, p n
  | [], _ => ⟨[], rfl, by simp⟩
  | x :: r, h => by
    obtain ⟨n, rfl, hn⟩ := h x (by simp)
    obtain ⟨l, rfl, hl⟩ := list_of (es := r) (p := p) (fun y hy => h y (by simp [hy]))
    exact ⟨n :: l, by rw [needsHV], fun y hy => by rcases List.mem_cons.1 hy with rfl | hy; exact hn; exact hl y hy⟩
theorem need_of_trodW {tN : TypeId} (hk : needTy P tN = true) : ∀ (fuel : Nat) (cs : List Value) (x : DataW H × List MemPlace), DataW.trod enc P w 0 sp held fuel tN cs = some x → (∀ n ∈ x.1.weights P tN, n ≤ B) →
    ∃ hs, (∃ n : NeedT, hs = n.enc ∧ NeedB B n) ∧ Reps w (fun _ => False) hs cs ∧ ∀ v ∈ cs, v.oneCell' = true := by
  intro fuel
  induction fuel using Nat.strongRecOn with
  | ind fuel ih =>
    intro cs x h hB
    unfold needTy at hk
    split at hk
    · next gs ht =>
      split at hk
      · next g1 g2 g3 hgs =>
        simp only [Bool.and_eq_true, beq_iff_eq, decide_eq_true_eq] at hk
        obtain ⟨⟨⟨⟨⟨⟨⟨⟨o1, o2⟩, o3⟩, c0⟩, c1⟩, c2⟩, c3⟩, hby⟩, hk⟩ := hk
        split at hk
        · next t' u1 u2 u3 =>
          have hk : t' = tN := by simpa using hk
          subst hk
          obtain ⟨xs, n, rfl, rfl, hl, hxl, hx⟩ := DataW.trod_struct ht h
          simp only [DataW.weights, ht] at hB
          have hg : ∀ i f, [g1, g2, g3][i]? = some f → gs[i]? = some f := fun i f hf => by rw [← hgs] at hf; rw [← Array.getElem?_toList]; exact hf
          have hsz : gs.size = 3 := by have := congrArg List.length hgs; simpa using this
          have hfld : ∀ (i : Nat) (f : Field), [g1, g2, g3][i]? = some f → ∃ y : DataW H × List MemPlace, DataW.trod enc P w 0 sp held n f.type ((cs.drop f.offset).take (P.cellsOf f.type)) = some y ∧ ∀ m ∈ y.1.weights P f.type, m ≤ B := fun i f hf => by
            have hf' := hg i f hf
            have := hx i f hf'
            have hi : i < xs.length := by rw [hxl]; exact (Array.getElem?_eq_some_iff.1 hf').1
            rw [List.getElem?_eq_getElem hi] at this
            exact ⟨_, this, fun m hm => hB m (DataW.weights_mem_each (j := i) (t := f.type) (d := (xs[i]).1) (by simp [hf']) (by simp [List.getElem?_eq_getElem hi]) m hm)⟩
          obtain ⟨y1, h1, _⟩ := hfld 0 g1 rfl
          obtain ⟨y2, h2, _⟩ := hfld 1 g2 rfl
          obtain ⟨y3, h3, hb3⟩ := hfld 2 g3 rfl
          rw [o1, c1] at h1
          rw [o2, c2] at h2
          rw [o3, c3] at h3
          obtain ⟨n1, e1, _, _⟩ := DataW.trod_int u1 h1
          obtain ⟨n2, e2, _, _⟩ := DataW.trod_int u2 h2
          obtain ⟨es, q1, q2, q3, q4⟩ := sl_of_trodQ (Q := fun hs => ∃ n : NeedT, hs = n.enc ∧ NeedB B n) u3 c0 (by decide) hby (fun m hm cs x hx hb => ih m (by omega) cs x hx hb) h3 hb3
          obtain ⟨l, rfl, hlb⟩ := list_of (fun x hx => (q2 x hx).2)
          rw [c0] at hl
          match cs, hl with
          | [v1, v2, v3], _ =>
            simp at e1 e2
            subst e1; subst e2
            refine ⟨_, ⟨.mk n1 n2 l, rfl, .mk _ _ _ (by simpa using q1) hlb⟩, ?_, ?_⟩
            · rw [NeedT.enc]
              simp at q3
              exact .cons (.lit _) (.cons (.lit _) q3)
            · intro v hv
              rcases List.mem_cons.1 hv with rfl | hv
              · rfl
              · rcases List.mem_cons.1 hv with rfl | hv
                · rfl
                · exact q4 v (by simpa using hv)
        · cases hk
      · cases hk
    · cases hk
end Go.Hv
set_option linter.unusedVariables false
set_option linter.unusedSectionVars false
set_option linter.unusedSimpArgs false
/- Conditions, in plain words: whether one is valid, whether it holds, its nodes. -/
namespace Go.Hv
open Go
mutual
theorem needInd {p : NeedT → Prop} (h : ∀ k g s, (∀ x ∈ s, p x) → p (.mk k g s)) (n : NeedT) : p n := by
  match n with
  | .mk k g s => exact h k g s (needIndL h s)
theorem needIndL {p : NeedT → Prop} (h : ∀ k g s, (∀ x ∈ s, p x) → p (.mk k g s)) (l : List NeedT) : ∀ x ∈ l, p x := by
  match l with
  | [] => intro x hx; simp at hx
  | y :: r =>
    intro x hx
    rcases List.mem_cons.1 hx with e | hx
    · rw [e]; exact needInd h y
    · exact needIndL h r x hx
end
mutual
def validN (n : NeedT) (lv : Int) : Bool :=
  match n with
  | .mk k g s => decide (lv ≤ 40) && (if k = 1 ∨ k = 2 then decide (g = 0 ∧ s.length = 0) else if k = 3 then decide (0 ≤ g ∧ g < 16777216 ∧ s.length = 0) else if k = 4 ∨ k = 5 then decide (g = 0 ∧ 2 ≤ s.length) && validsN s (lv + 1) else false)
  termination_by structural n
def validsN (l : List NeedT) (lv : Int) : Bool :=
  match l with
  | [] => true
  | x :: r => validN x lv && validsN r lv
  termination_by structural l
end
theorem validsN_iff (l : List NeedT) (lv : Int) : validsN l lv = true ↔ ∀ x ∈ l, validN x lv = true := by
  induction l with
  | nil => simp [validsN]
  | cons x r ih => rw [validsN, Bool.and_eq_true, ih]; simp
theorem validsN_take {l : List NeedT} {lv : Int} {i : Nat} (hi : i < l.length) : validsN (l.take (i + 1)) lv = (validsN (l.take i) lv && validN l[i] lv) := by
  have h : ∀ a b : List NeedT, validsN (a ++ b) lv = (validsN a lv && validsN b lv) := by
    intro a b
    induction a with
    | nil => simp [validsN]
    | cons x a ih => rw [List.cons_append, validsN, validsN, ih, Bool.and_assoc]
  rw [List.take_succ_eq_append_getElem hi, h, validsN, validsN, Bool.and_true]
mutual
def holdsN (n : NeedT) (codes : List Int) : Bool :=
  match n with
  | .mk k g s => if k = 1 then true else if k = 2 then false else if k = 3 then decide (g ∈ codes) else holdL (decide (k = 5)) (decide (k = 4)) s codes
  termination_by structural n
def holdL (o d : Bool) (l : List NeedT) (codes : List Int) : Bool :=
  match l with
  | [] => d
  | x :: r => if holdsN x codes = o then o else holdL o d r codes
  termination_by structural l
end
theorem holdL_none {o d : Bool} {codes : List Int} : ∀ {l : List NeedT}, (∀ x ∈ l, holdsN x codes ≠ o) → holdL o d l codes = d
  | [], _ => by rw [holdL]
  | x :: r, h => by rw [holdL, if_neg (h x (by simp))]; exact holdL_none fun y hy => h y (by simp [hy])
theorem holdL_some {o d : Bool} {codes : List Int} : ∀ {l : List NeedT} {x : NeedT}, x ∈ l → holdsN x codes = o → holdL o d l codes = o
  | y :: r, x, hx, h => by
    rw [holdL]
    split
    · rfl
    · next hy =>
      rcases List.mem_cons.1 hx with e | hx
      · rw [← e] at hy; exact absurd h hy
      · exact holdL_some hx h
def Undec (o : Bool) (codes : List Int) (l : List NeedT) (i : Nat) : Prop := ∀ x ∈ l.take i, holdsN x codes ≠ o
theorem Undec.zero (o : Bool) (codes : List Int) (l : List NeedT) : Undec o codes l 0 := by simp [Undec]
theorem Undec.succ {o : Bool} {codes : List Int} {l : List NeedT} {i : Nat} (h : Undec o codes l i) (hi : i < l.length) (hx : holdsN l[i] codes ≠ o) : Undec o codes l (i + 1) := by
  unfold Undec at h ⊢
  rw [List.take_succ_eq_append_getElem hi]
  intro x hm
  rcases List.mem_append.1 hm with hm | hm
  · exact h x hm
  · rw [List.mem_singleton.1 hm]; exact hx
mutual
def nodesN (n : NeedT) (lim : Int) : Int :=
  match n with
  | .mk _ _ s => nodesL s 1 lim
  termination_by structural n
def nodesL (l : List NeedT) (k lim : Int) : Int :=
  match l with
  | [] => k
  | x :: r => if k ≤ lim then nodesL r (k + nodesN x (lim - k)) lim else k
  termination_by structural l
end
mutual
theorem nodesN_le (n : NeedT) (lim : Int) : 1 ≤ nodesN n lim ∧ (nodesN n lim ≤ 1 ∨ nodesN n lim ≤ lim + 1) := by
  match n with
  | .mk k g s =>
    rw [nodesN]
    have := nodesL_le s 1 lim (by omega)
    omega
theorem nodesL_le (l : List NeedT) (k lim : Int) (hk : 1 ≤ k) : k ≤ nodesL l k lim ∧ (nodesL l k lim ≤ k ∨ nodesL l k lim ≤ lim + 1) := by
  match l with
  | [] => rw [nodesL]; omega
  | x :: r =>
    rw [nodesL]
    split
    · have h1 := nodesN_le x (lim - k)
      have h2 := nodesL_le r (k + nodesN x (lim - k)) lim (by omega)
      omega
    · omega
end
end Go.Hv
set_option linter.unusedVariables false
set_option linter.unusedSimpArgs false
/- The codes of each document, gathered out of a segment's postings (layer 29, Eval). -/
namespace Go.Hv
def fI (p : List (Int × Int)) : List Int := p.foldl (fun a x => adK a x.1) []
def gatI (p : List (Int × Int)) (c : Int) : List Int := (p.filter fun x => decide (x.1 = c)).map Prod.snd
theorem fI_snoc (p : List (Int × Int)) (c g : Int) : fI (p ++ [(c, g)]) = adK (fI p) c := by simp [fI]
theorem gatI_snoc (p : List (Int × Int)) (c g c' : Int) : gatI (p ++ [(c, g)]) c' = gatI p c' ++ (if c = c' then [g] else []) := by
  unfold gatI
  rw [List.filter_append, List.map_append]
  congr 1
  by_cases h : c = c' <;> simp [h]
theorem fI_mem (p : List (Int × Int)) (c : Int) : c ∈ fI p ↔ ∃ x ∈ p, x.1 = c := by
  have : ∀ (p : List (Int × Int)) (a : List Int), c ∈ p.foldl (fun a x => adK a x.1) a ↔ c ∈ a ∨ ∃ x ∈ p, x.1 = c := by
    intro p
    induction p with
    | nil => simp
    | cons x p ih =>
      intro a
      rw [List.foldl_cons, ih, adK_mem]
      simp [or_assoc, eq_comm]
  unfold fI; rw [this]; simp
theorem fI_nodup (p : List (Int × Int)) : (fI p).Nodup := by
  have : ∀ (p : List (Int × Int)) (a : List Int), a.Nodup → (p.foldl (fun a x => adK a x.1) a).Nodup := by
    intro p
    induction p with
    | nil => exact fun a h => h
    | cons x p ih => exact fun a h => ih _ (adK_nodup h _)
  exact this p [] (by simp)
theorem fI_length (p : List (Int × Int)) : (fI p).length ≤ p.length := by
  have : ∀ (p : List (Int × Int)) (a : List Int), (p.foldl (fun a x => adK a x.1) a).length ≤ a.length + p.length := by
    intro p
    induction p with
    | nil => exact fun a => Nat.le_refl _
    | cons x p ih =>
      intro a
      rw [List.foldl_cons]
      refine Nat.le_trans (ih _) ?_
      have : (adK a x.1).length ≤ a.length + 1 := by unfold adK; split <;> simp
      simp; omega
  have := this p []
  simpa [fI] using this
theorem gatI_length (p : List (Int × Int)) (c : Int) : (gatI p c).length ≤ p.length := by
  unfold gatI; rw [List.length_map]; exact List.length_filter_le _ _
theorem gatI_none {p : List (Int × Int)} {c : Int} (h : c ∉ fI p) : gatI p c = [] := by
  unfold gatI
  rw [List.filter_eq_nil_iff.2 (fun x hx => by
    intro h2
    exact h ((fI_mem p c).2 ⟨x, hx, of_decide_eq_true h2⟩))]
  rfl
theorem gatI_append (a b : List (Int × Int)) (c : Int) : gatI (a ++ b) c = gatI a c ++ gatI b c := by simp [gatI]
def evP (p : Post) : List (Int × Int) := p.docs.map fun x => (x.code, p.code)
def evQ (g : List Post) : List (Int × Int) := g.flatMap evP
def pJ (g : List Post) (p : Post) (k j : Nat) : List (Int × Int) := evQ (g.take k) ++ (evP p).take j
theorem pJ_zero (g : List Post) (p : Post) (k : Nat) : pJ g p k 0 = evQ (g.take k) := by simp [pJ]
theorem pJ_succ (g : List Post) (p : Post) (k : Nat) {j : Nat} (h : j < p.docs.length) : pJ g p k (j + 1) = pJ g p k j ++ [(p.docs[j].code, p.code)] := by
  have h' : j < (evP p).length := by simpa [evP] using h
  unfold pJ
  rw [List.append_assoc, List.take_succ_eq_append_getElem h']
  simp [evP]
theorem pJ_end (g : List Post) {k : Nat} (h : k < g.length) : pJ g g[k] k g[k].docs.length = evQ (g.take (k + 1)) := by
  unfold pJ
  rw [List.take_of_length_le (l := evP g[k]) (by simp [evP])]
  rw [List.take_succ_eq_append_getElem (i := k) h]
  unfold evQ
  rw [List.flatMap_append, List.flatMap_cons, List.flatMap_nil, List.append_nil]
theorem evQ_length {g : List Post} {m : Nat} (h : ∀ p ∈ g, p.docs.length ≤ m) : (evQ g).length ≤ g.length * m := by
  induction g with
  | nil => simp [evQ]
  | cons p g ih =>
    have := ih fun x hx => h x (by simp [hx])
    have hp := h p (by simp)
    unfold evQ at this ⊢
    rw [List.flatMap_cons, List.length_append, List.length_cons, Nat.succ_mul]
    have : (evP p).length = p.docs.length := by simp [evP]
    omega
theorem filter_post {l : List Doc} (hl : IncBy Doc.id l) (c : Int) {d : Doc} (hd : d ∈ l) : (postV l c).filter (fun x => decide (x.code = d.id)) = if offV d.text c = [] then [] else [⟨d.id, offV d.text c⟩] := by
  unfold postV
  induction l with
  | nil => simp at hd
  | cons x l ih =>
    have hl' := hl
    unfold IncBy at hl'
    rw [List.pairwise_cons] at hl'
    rw [List.map_cons]
    rcases List.mem_cons.1 hd with rfl | hd'
    · have hrest : (((l.map fun d => (⟨d.id, offV d.text c⟩ : Gram)).filter fun g => decide (g.off ≠ [])).filter fun x => decide (x.code = d.id)) = [] := by
        rw [List.filter_eq_nil_iff]
        intro g hg
        obtain ⟨y, hy, rfl⟩ := List.mem_map.1 (List.mem_filter.1 hg).1
        have := hl'.1 y hy
        simp; omega
      by_cases h : offV d.text c = []
      · rw [List.filter_cons_of_neg (by simpa using h), if_pos h]; exact hrest
      · rw [List.filter_cons_of_pos (by simpa using h), List.filter_cons_of_pos (by simp), if_neg h, hrest]
    · have hne : x.id ≠ d.id := by have := hl'.1 d hd'; omega
      have ih := ih hl'.2 hd'
      by_cases h : offV x.text c = []
      · rw [List.filter_cons_of_neg (by simpa using h)]; exact ih
      · rw [List.filter_cons_of_pos (by simpa using h), List.filter_cons_of_neg (by simpa using hne)]; exact ih
theorem gatI_evP {l : List Doc} (hl : IncBy Doc.id l) (c : Int) {d : Doc} (hd : d ∈ l) : gatI (evP ⟨c, postV l c⟩) d.id = if offV d.text c = [] then [] else [c] := by
  unfold gatI evP
  rw [List.filter_map, List.map_map]
  have : ((fun x : Int × Int => decide (x.1 = d.id)) ∘ fun x : Gram => (x.code, c)) = fun x => decide (x.code = d.id) := rfl
  show List.map _ (List.filter ((fun x : Int × Int => decide (x.1 = d.id)) ∘ fun x : Gram => (x.code, c)) (postV l c)) = _
  rw [this, filter_post hl c hd]
  split <;> rfl
theorem gatI_evQ {l : List Doc} (hl : IncBy Doc.id l) {d : Doc} (hd : d ∈ l) : gatI (evQ (gramsOf l)) d.id = ofV d.text := by
  have h : ∀ cs : List Int, gatI (evQ (cs.map fun c => (⟨c, postV l c⟩ : Post))) d.id = cs.filter fun c => decide (offV d.text c ≠ []) := by
    intro cs
    induction cs with
    | nil => rfl
    | cons c cs ih =>
      rw [List.map_cons]
      unfold evQ at ih ⊢
      rw [List.flatMap_cons, gatI_append, ih, gatI_evP hl c hd]
      by_cases h : offV d.text c = []
      · rw [if_pos h, List.filter_cons_of_neg (by simpa using h)]; rfl
      · rw [if_neg h, List.filter_cons_of_pos (by simpa using h)]; rfl
  unfold gramsOf
  rw [h]
  apply inc_unique
  · exact (codesV_inc l).sublist List.filter_sublist
  · exact ofK_inc _ _
  · intro c
    rw [List.mem_filter, decide_eq_true_eq, offV_ne]
    constructor
    · exact fun h => h.2
    · exact fun h => ⟨(codesV_mem l c).2 ⟨d, hd, h⟩, h⟩
end Go.Hv
set_option linter.unusedVariables false
set_option linter.unusedSimpArgs false
/- What segments answer: plain words that lean on the walks of locate (layer 29). -/
namespace Go.Hv
open Go Go.Hv Go.Proofs Go.RowKit
open Go.Proofs.YtlbmbnpknobjdaaGreatDoor
theorem findV_mem (s t : List UInt8) (x : Int) : x ∈ findV s t ↔ ∃ i : Nat, i ≤ s.length ∧ occ s t i = true ∧ x = i := by
  rw [← findK_all]
  unfold findK
  simp only [List.mem_map, List.mem_filter, List.mem_range]
  constructor
  · rintro ⟨i, ⟨h1, h2⟩, rfl⟩; exact ⟨i, by omega, h2, rfl⟩
  · rintro ⟨i, h1, h2, rfl⟩; exact ⟨i, ⟨by omega, h2⟩, rfl⟩
theorem offK_mem {s : List UInt8} {m : Nat} {c x : Int} (h : x ∈ offK s m c) : ∃ i : Nat, i < m ∧ codeAt s i = c ∧ x = (i : Int) := by
  unfold offK at h
  obtain ⟨i, hi, rfl⟩ := List.mem_map.1 h
  rw [List.mem_filter] at hi
  exact ⟨i, by simpa using hi.1, by simpa using hi.2, rfl⟩
theorem atV_gramsM (s : List UInt8) (c x : Int) : x ∈ atV (gramsV s) c ↔ ∃ j : Nat, j < s.length - 2 ∧ codeAt s j = c ∧ x = j := by
  unfold atV
  split
  · next g hg =>
    have hm := List.mem_of_find?_eq_some hg
    have hc : g.code = c := by simpa using List.find?_some hg
    obtain ⟨c', hc', rfl⟩ := List.mem_map.1 hm
    dsimp only at hc ⊢
    subst hc
    constructor
    · intro h; exact offK_mem h
    · rintro ⟨j, h1, h2, rfl⟩
      unfold offK
      exact List.mem_map.2 ⟨j, List.mem_filter.2 ⟨List.mem_range.2 h1, by simpa using h2⟩, rfl⟩
  · next hg =>
    constructor
    · intro h; cases h
    · rintro ⟨j, h1, h2, rfl⟩
      rw [List.find?_eq_none] at hg
      have := hg ⟨c, offK s (s.length - 2) c⟩ (List.mem_map.2 ⟨c, (ofV_mem s c).2 ⟨j, h1, h2⟩, rfl⟩)
      simp at this
theorem codeAt_eqq {s t : List UInt8} {i j : Nat} (hi : i + 2 < s.length) (hj : j + 2 < t.length) : codeAt s i = codeAt t j ↔ (foldB s[i] = foldB t[j] ∧ foldB s[i + 1] = foldB t[j + 1] ∧ foldB s[i + 2] = foldB t[j + 2]) := by
  rw [codeAt_eq hi, codeAt_eq hj]
  constructor
  · intro h; exact code3_inj h
  · rintro ⟨h1, h2, h3⟩; rw [h1, h2, h3]
theorem findV_inc (s t : List UInt8) : Inc (findV s t) := by
  unfold findV findK Inc
  rw [List.pairwise_map]
  refine List.Pairwise.sublist List.filter_sublist ?_
  exact List.pairwise_lt_range.imp fun h => by omega
theorem exact_cand {s t : List UInt8} (hs : s.length ≤ 900) (ht : ¬ t.length < 3) : candV (gramsV s) t = findV (foldS s) (foldS t) := by
  have hv : ∀ x : Int, x ∈ candV (gramsV s) t ↔ x ∈ atV (gramsV s) (codeAt t 0) ∧ 0 ≤ x ∧ ∀ i, i < t.length - 2 → x + i ∈ atV (gramsV s) (codeAt t i) := fun x => by
    unfold candV candI
    rw [if_neg ht, ins_foldl_mem, List.take_length, List.mem_filter, candJ_iff]
    simp
  have hinc : Inc (candV (gramsV s) t) := by unfold candV; rw [if_neg ht]; exact candI_inc _ _ _
  refine inc_unique hinc (findV_inc _ _) fun x => ?_
  rw [hv, findV_mem]
  constructor
  · rintro ⟨h1, h2, h3⟩
    obtain ⟨k, hk, _, rfl⟩ := (atV_gramsM s _ x).1 h1
    have hat : ∀ i, i < t.length - 2 → k + i < s.length - 2 ∧ codeAt s (k + i) = codeAt t i := fun i hi => by
      obtain ⟨j, hj, hc, he⟩ := (atV_gramsM s _ _).1 (h3 i hi)
      obtain rfl : j = k + i := by omega
      exact ⟨hj, hc⟩
    have hend := (hat (t.length - 3) (by omega)).1
    refine ⟨k, by simp; omega, ?_, rfl⟩
    rw [occ_iff]
    refine ⟨.inl (by simp; omega), fun j hj => ?_⟩
    have hj' : j < t.length := by simpa using hj
    have e1 : (foldS s)[k + j]? = some (foldB (s[k + j]'(by omega))) := by simp [foldS, List.getElem?_eq_getElem (show k + j < s.length by omega)]
    have e2 : (foldS t)[j]? = some (foldB t[j]) := by simp [foldS, List.getElem?_eq_getElem hj']
    rw [e1, e2]
    congr 1
    by_cases hl : j < t.length - 2
    · have h := (hat j hl)
      exact ((codeAt_eqq (by omega) (by omega)).1 h.2).1
    · have h := (hat (t.length - 3) (by omega))
      have h' := (codeAt_eqq (by omega) (by omega)).1 h.2
      by_cases e : j = t.length - 2
      · have := h'.2.1
        simp only [show k + (t.length - 3) + 1 = k + j by omega, show t.length - 3 + 1 = j by omega] at this
        exact this
      · have := h'.2.2
        simp only [show k + (t.length - 3) + 2 = k + j by omega, show t.length - 3 + 2 = j by omega] at this
        exact this
  · rintro ⟨k, hk, ho, rfl⟩
    rw [occ_iff] at ho
    obtain ⟨h1, h2⟩ := ho
    have hroom : k + t.length ≤ s.length := by
      rcases h1 with h | h
      · simpa using h
      · have := congrArg List.length h; simp at this; subst this; simp at ht
    have hb : ∀ j (hj : j < t.length), foldB (s[k + j]'(by omega)) = foldB t[j] := fun j hj => by
      have := h2 j (by simpa using hj)
      simp only [foldS, List.getElem?_map, List.getElem?_eq_getElem (show k + j < s.length by omega), List.getElem?_eq_getElem hj, Option.map_some, Option.some.injEq] at this
      exact this
    have hat : ∀ i, i < t.length - 2 → ((k : Int) + i) ∈ atV (gramsV s) (codeAt t i) := fun i hi => by
      refine (atV_gramsM s _ _).2 ⟨k + i, by omega, ?_, by omega⟩
      exact (codeAt_eqq (by omega) (by omega)).2 ⟨hb i (by omega), hb (i + 1) (by omega), hb (i + 2) (by omega)⟩
    exact ⟨by have := hat 0 (by omega); simpa using this, by omega, hat⟩
theorem candV_congr {a b : List Gram} {t : List UInt8} (h : ∀ i, i + 2 < t.length → atV a (codeAt t i) = atV b (codeAt t i)) : candV a t = candV b t := by
  unfold candV
  split
  · rfl
  · next h3 =>
    have h0 := h 0 (by omega)
    unfold candI
    rw [h0]
    congr 1
    apply List.filter_congr
    intro x hx
    unfold candJ
    congr 1
    rw [Bool.eq_iff_iff, List.all_eq_true, List.all_eq_true]
    constructor
    · intro H i hi
      have := H i hi
      rw [h i (by have := List.mem_range.1 hi; omega)] at this
      exact this
    · intro H i hi
      have := H i hi
      rw [← h i (by have := List.mem_range.1 hi; omega)] at this
      exact this
theorem cand_doc {s t : List UInt8} (hs : s.length ≤ 900) (ht : ¬ t.length < 3) : candV ((ofV t).map fun c => ⟨c, offV s c⟩) t = findV (foldS s) (foldS t) := by
  rw [← exact_cand hs ht]
  refine candV_congr fun i hi => ?_
  rw [atV_map, atV_grams, if_pos ((ofV_mem t _).2 ⟨i, by omega, rfl⟩)]
theorem find_code {s t : List UInt8} (hs : s.length ≤ 900) (ht : ¬ t.length < 3) (h : findV (foldS s) (foldS t) ≠ []) {c : Int} (hc : c ∈ ofV t) : offV s c ≠ [] := by
  rw [← exact_cand hs ht] at h
  obtain ⟨x, hx⟩ := List.exists_mem_of_ne_nil _ h
  obtain ⟨i, hi, rfl⟩ := (ofV_mem t c).1 hc
  unfold candV candI at hx
  rw [if_neg ht, ins_foldl_mem, List.take_length, List.mem_filter, candJ_iff] at hx
  have hm : x + i ∈ atV (gramsV s) (codeAt t i) := by
    rcases hx with hx | hx
    · simp at hx
    · exact hx.2.2 i hi
  rw [atV_grams] at hm
  intro e
  rw [e] at hm
  simp at hm
def find29 (l : List Doc) (t : List UInt8) : List Gram := (l.map fun d => (⟨d.id, findV (foldS d.text) (foldS t)⟩ : Gram)).filter fun g => decide (g.off ≠ [])
theorem find29_snoc (l : List Doc) (t : List UInt8) {k : Nat} (hk : k < l.length) : find29 (l.take (k + 1)) t = find29 (l.take k) t ++ if findV (foldS l[k].text) (foldS t) = [] then [] else [⟨l[k].id, findV (foldS l[k].text) (foldS t)⟩] := by
  unfold find29
  rw [List.take_succ_eq_append_getElem hk, List.map_append, List.filter_append]
  congr 1
  by_cases h : findV (foldS l[k].text) (foldS t) = [] <;> simp [h]
theorem find29_len (l : List Doc) (t : List UInt8) (k : Nat) : (find29 (l.take k) t).length ≤ l.length := by
  unfold find29
  have h1 := List.length_filter_le (fun g : Gram => decide (g.off ≠ [])) ((l.take k).map fun d => (⟨d.id, findV (foldS d.text) (foldS t)⟩ : Gram))
  rw [List.length_map, List.length_take] at h1; omega
def haveV (l : List Doc) (c : Int) : List Doc := l.filter fun d => decide (offV d.text c ≠ [])
theorem find29_have {l : List Doc} {t : List UInt8} (hl : ∀ d ∈ l, d.text.length ≤ 900) (ht : ¬ t.length < 3) {c : Int} (hc : c ∈ ofV t) : find29 (haveV l c) t = find29 l t := by
  unfold find29 haveV
  induction l with
  | nil => rfl
  | cons d l ih =>
    have ih := ih fun x hx => hl x (by simp [hx])
    have hd := hl d (by simp)
    rw [List.map_cons]
    by_cases h : offV d.text c = []
    · have hf : findV (foldS d.text) (foldS t) = [] := Classical.byContradiction fun hne => find_code hd ht hne hc h
      rw [List.filter_cons_of_neg (by simpa using h), List.filter_cons_of_neg (by simpa using hf)]
      exact ih
    · rw [List.filter_cons_of_pos (by simpa using h), List.map_cons]
      by_cases hf : findV (foldS d.text) (foldS t) = []
      · rw [List.filter_cons_of_neg (by simpa using hf), List.filter_cons_of_neg (by simpa using hf)]; exact ih
      · rw [List.filter_cons_of_pos (by simpa using hf), List.filter_cons_of_pos (by simpa using hf), ih]
def eval29 (l : List Doc) (n : NeedT) : List Int := (l.filter fun d => holdsN n (ofV d.text)).map Doc.id
end Go.Hv
set_option linter.unusedVariables false
set_option linter.unusedSimpArgs false
/- Conditions: whether one is valid, whether it holds, its nodes (layer 10). -/
namespace Go.Hv
open Go Go.Hv Go.Proofs Go.RowKit
open Go.Proofs.YtlbmbnpknobjdaaGreatDoor
@[reducible] def needC (x : NeedT) : List HV := [i64 x.kind, i64 x.gram, .sl 3 false (needsHV x.subs)]
theorem validN_eq (n : NeedT) (lv : Int) : validN n lv = (decide (lv ≤ 40) && (if n.kind = 1 ∨ n.kind = 2 then decide (n.gram = 0 ∧ n.subs.length = 0) else if n.kind = 3 then decide (0 ≤ n.gram ∧ n.gram < 16777216 ∧ n.subs.length = 0) else if n.kind = 4 ∨ n.kind = 5 then decide (n.gram = 0 ∧ 2 ≤ n.subs.length) && validsN n.subs (lv + 1) else false)) := by
  cases n; rw [validN]; rfl
theorem holdsN_eq (n : NeedT) (codes : List Int) : holdsN n codes = (if n.kind = 1 then true else if n.kind = 2 then false else if n.kind = 3 then decide (n.gram ∈ codes) else holdL (decide (n.kind = 5)) (decide (n.kind = 4)) n.subs codes) := by
  cases n; rw [holdsN]; rfl
theorem nodesN_eq (n : NeedT) (lim : Int) : nodesN n lim = nodesL n.subs 1 lim := by cases n; rw [nodesN]; rfl
theorem nodesL_drop {l : List NeedT} {i : Nat} {c lim : Int} (hi : i < l.length) (hc : c ≤ lim) : nodesL (l.drop i) c lim = nodesL (l.drop (i + 1)) (c + nodesN l[i] (lim - c)) lim := by
  rw [List.drop_eq_getElem_cons hi, nodesL, if_pos hc]
theorem nodesL_end {l : List NeedT} {i : Nat} {c lim : Int} (h : ¬ i < l.length ∨ ¬ c ≤ lim) : nodesL (l.drop i) c lim = c := by
  rcases h with h | h
  · rw [List.drop_eq_nil_of_le (by omega), nodesL]
  · cases hd : l.drop i with
    | nil => rw [nodesL]
    | cons x r => rw [nodesL, if_neg h]
set_option maxHeartbeats 1000000 in
theorem nodes_of (n : NeedT) (lim : Int) (hs : n.subs.length ≤ 140737488355328) (h0 : -1 ≤ lim) (hl : lim ≤ 1000000) (ih : ∀ x ∈ n.subs, ∀ m : Int, -1 ≤ m → m ≤ 1000000 → Spec1 Tryz.prog 27 [.agg (needC x), i64 m] (i64 (nodesN x m))) : Spec1 Tryz.prog 27 [.agg (needC n), i64 lim] (i64 (nodesN n lim)) := by
  refine Spec1.of_HT Tryz.func27 rfl (by rw [Tryz.ntmps27]; simp) rfl ?_
  rw [Tryz.ntmps27]
  refine HT.seq ?_
  refine HT.region ?_   -- R0
  simp (disch := first | omega | (simp <;> omega) | fail) [wrap_i64, wrap_u64, wrap_u8', NeedT.enc_eq]
  refine HT.seq ?_
  refine HT.region ?_   -- R1
  simp (disch := first | omega | (simp <;> omega) | fail) [wrap_i64, wrap_u64, wrap_u8', NeedT.enc_eq]
  refine HT.seq ?_
  refine HT.seq ?_
  refine HT.region ?_   -- R2
  simp (disch := first | omega | (simp <;> omega) | fail) [wrap_i64, wrap_u64, wrap_u8', NeedT.enc_eq]
  refine HT.block ?_
  refine HT.loopK (fun k : {k : Nat × Int // k.1 ≤ n.subs.length ∧ 1 ≤ k.2 ∧ (k.2 = 1 ∨ k.2 ≤ lim + 1) ∧ nodesL (n.subs.drop k.1) k.2 lim = nodesN n lim} => [.s 6 (i64 k.1.1), .s 5 (i64 k.1.2)]) [1, 2] [2] (fun k => n.subs.length - k.1.1) (⟨⟨0, 1⟩, by simp, by simp, by simp, by rw [nodesN_eq]; rfl⟩) ?_ ?_   -- block 0 turned [5, 6, 13, 14, 15]
  · simp (disch := first | omega | (simp <;> omega) | fail) [wrap_i64, wrap_u64, wrap_u8', NeedT.enc_eq]
  rintro ⟨⟨i, c⟩, hi, hc1, hc2, hc⟩
  simp (disch := first | omega | (simp <;> omega) | fail) [wrap_i64, wrap_u64, wrap_u8', NeedT.enc_eq]
  dsimp only at hi hc1 hc2 hc
  refine HT.seq ?_
  refine HT.seq ?_
  by_cases a1 : ¬ i < n.subs.length
  · skip
    refine HT.region ?_   -- R3
    simp (disch := first | omega | (simp <;> omega) | fail) [wrap_i64, wrap_u64, wrap_u8', NeedT.enc_eq]
    refine HT.cond' ?_   -- if 16
    simp (disch := first | omega | (simp <;> omega) | fail) [wrap_i64, wrap_u64, wrap_u8', NeedT.enc_eq]
    have hend : nodesN n lim = c := by rw [← hc]; exact nodesL_end (by first | exact .inl a1 | exact .inr a2)
    refine HT.exit ?_
    simp (disch := first | omega | (simp <;> omega) | fail) [wrap_i64, wrap_u64, wrap_u8', NeedT.enc_eq]
    refine HT.seq ?_
    refine HT.region ?_   -- R6
    simp (disch := first | omega | (simp <;> omega) | fail) [wrap_i64, wrap_u64, wrap_u8', NeedT.enc_eq]
    refine HT.ret ?_
    simp (disch := first | omega | (simp <;> omega) | fail) [wrap_i64, wrap_u64, wrap_u8', NeedT.enc_eq, hend]
  rw [Classical.not_not] at a1
  by_cases a2 : ¬ c ≤ lim
  · skip
    refine HT.region ?_   -- R3
    simp (disch := first | omega | (simp <;> omega) | fail) [wrap_i64, wrap_u64, wrap_u8', NeedT.enc_eq]
    refine HT.cond' ?_   -- if 16
    simp (disch := first | omega | (simp <;> omega) | fail) [wrap_i64, wrap_u64, wrap_u8', NeedT.enc_eq]
    have hend : nodesN n lim = c := by rw [← hc]; exact nodesL_end (by first | exact .inl a1 | exact .inr a2)
    refine HT.exit ?_
    simp (disch := first | omega | (simp <;> omega) | fail) [wrap_i64, wrap_u64, wrap_u8', NeedT.enc_eq]
    refine HT.seq ?_
    refine HT.region ?_   -- R6
    simp (disch := first | omega | (simp <;> omega) | fail) [wrap_i64, wrap_u64, wrap_u8', NeedT.enc_eq]
    refine HT.ret ?_
    simp (disch := first | omega | (simp <;> omega) | fail) [wrap_i64, wrap_u64, wrap_u8', NeedT.enc_eq, hend]
  rw [Classical.not_not] at a2
  have hn := nodesN_le n.subs[i] (lim - c)
  refine HT.region ?_   -- R3
  simp (disch := first | omega | (simp <;> omega) | fail) [wrap_i64, wrap_u64, wrap_u8', NeedT.enc_eq]
  refine HT.cond' ?_   -- if 16
  simp (disch := first | omega | (simp <;> omega) | fail) [wrap_i64, wrap_u64, wrap_u8', NeedT.enc_eq]
  refine HT.skip ?_
  simp (disch := first | omega | (simp <;> omega) | fail) [wrap_i64, wrap_u64, wrap_u8', NeedT.enc_eq]
  refine HT.seq ?_
  refine HT.block ?_
  refine HT.region ?_   -- R5
  simp (disch := first | omega | (simp <;> omega) | fail) [wrap_i64, wrap_u64, wrap_u8', NeedT.enc_eq]
  refine stepK.mk (.call1 _ _ _ _ rfl Ty.hb27 rfl (ih n.subs[i] (List.getElem_mem a1) (lim - c) (by omega) (by omega)) rfl rfl) ?_
  simp (disch := first | omega | (simp <;> omega) | fail) [wrap_i64, wrap_u64, wrap_u8', NeedT.enc_eq]
  refine HT.region ?_   -- R4
  simp (disch := first | omega | (simp <;> omega) | fail) [wrap_i64, wrap_u64, wrap_u8', NeedT.enc_eq]
  refine Round.mk' (⟨⟨i + 1, c + nodesN n.subs[i] (lim - c)⟩, by dsimp only; omega, by dsimp only; omega, by dsimp only; omega, by dsimp only; rw [← nodesL_drop a1 a2]; exact hc⟩) (by dsimp only; omega) rfl ?_
  simp (disch := first | omega | (simp <;> omega) | fail) [wrap_i64, wrap_u64, wrap_u8', NeedT.enc_eq]
theorem needInd' {p : NeedT → Prop} (h : ∀ n : NeedT, (∀ x ∈ n.subs, p x) → p n) (n : NeedT) : p n := needInd (fun k g s ih => h (.mk k g s) ih) n
theorem Nodes_spec (n : NeedT) : NeedB 140737488355328 n → ∀ lim : Int, -1 ≤ lim → lim ≤ 1000000 → Spec1 Tryz.prog 27 [.agg (needC n), i64 lim] (i64 (nodesN n lim)) := by
  refine needInd' (p := fun n => NeedB 140737488355328 n → ∀ lim : Int, -1 ≤ lim → lim ≤ 1000000 → Spec1 Tryz.prog 27 [.agg (needC n), i64 lim] (i64 (nodesN n lim))) (fun n ih hb lim h0 hl => ?_) n
  exact nodes_of n lim hb.len h0 hl fun x hx m h0 hl => ih x hx (hb.sub hx) m h0 hl
theorem valid_no {n : NeedT} {lv : Int} (h : 40 < lv ∨ (n.kind ≠ 3 ∧ n.gram ≠ 0) ∨ n.gram < 0 ∨ 16777216 ≤ n.gram) : validN n lv = false := by
  rw [validN_eq]
  rcases h with h | h | h | h
  · simp [show ¬ lv ≤ 40 by omega]
  · by_cases h1 : n.kind = 1 ∨ n.kind = 2
    · rw [if_pos h1]; simp [h.2]
    · rw [if_neg h1, if_neg h.1]; simp [h.2]
  · by_cases h1 : n.kind = 1 ∨ n.kind = 2
    · rw [if_pos h1]; simp [show ¬ n.gram = 0 by omega]
    · rw [if_neg h1]
      by_cases h3 : n.kind = 3
      · rw [if_pos h3]; simp [show ¬ 0 ≤ n.gram by omega]
      · rw [if_neg h3]; simp [show ¬ n.gram = 0 by omega]
  · by_cases h1 : n.kind = 1 ∨ n.kind = 2
    · rw [if_pos h1]; simp [show ¬ n.gram = 0 by omega]
    · rw [if_neg h1]
      by_cases h3 : n.kind = 3
      · rw [if_pos h3]; simp [show ¬ n.gram < 16777216 by omega]
      · rw [if_neg h3]; simp [show ¬ n.gram = 0 by omega]
theorem valid_leaf {n : NeedT} {lv : Int} (h1 : lv ≤ 40) (h2 : n.kind = 3 ∨ n.gram = 0) (h3 : 0 ≤ n.gram) (h4 : n.gram < 16777216) (hk : n.kind = 1 ∨ n.kind = 2 ∨ n.kind = 3) : validN n lv = decide (n.subs.length = 0) := by
  rw [validN_eq]
  by_cases k1 : n.kind = 1 ∨ n.kind = 2
  · have hg : n.gram = 0 := by rcases h2 with h | h; omega; exact h
    rw [if_pos k1]; simp [h1, hg]
  · rw [if_neg k1, if_pos (by omega)]; simp [h1, h3, h4]
theorem valid_node {n : NeedT} {lv : Int} (h1 : lv ≤ 40) (h2 : n.gram = 0) (hk : n.kind = 4 ∨ n.kind = 5) : validN n lv = (validsN n.subs (lv + 1) && decide (2 ≤ n.subs.length)) := by
  rw [validN_eq, if_neg (by omega), if_neg (by omega), if_pos hk]
  simp [h1, h2, Bool.and_comm]
theorem valid_other {n : NeedT} {lv : Int} (hk : ¬ (n.kind = 1 ∨ n.kind = 2 ∨ n.kind = 3 ∨ n.kind = 4 ∨ n.kind = 5)) : validN n lv = false := by
  rw [validN_eq, if_neg (by omega), if_neg (by omega), if_neg (by omega)]; simp
theorem valids_bad {l : List NeedT} {lv : Int} {i : Nat} (hi : i < l.length) (h : validN l[i] lv = false) : validsN l lv = false := by
  rw [Bool.eq_false_iff]
  intro h2
  have := (validsN_iff l lv).1 h2 l[i] (List.getElem_mem hi)
  rw [h] at this; cases this
set_option maxHeartbeats 4000000 in
theorem valid_of (n : NeedT) (lv : Int) (hs : n.subs.length ≤ 140737488355328) (h0 : 0 ≤ lv) (hl : lv ≤ 41) (ih : ∀ x ∈ n.subs, ∀ m : Int, 0 ≤ m → m ≤ 41 → Spec1 Tryz.prog 102 [.agg (needC x), i64 m] (bo (validN x m))) : Spec1 Tryz.prog 102 [.agg (needC n), i64 lv] (bo (validN n lv)) := by
  refine Spec1.of_HT Tryz.func102 rfl (by rw [Tryz.ntmps102]; simp) rfl ?_
  rw [Tryz.ntmps102]
  refine HT.seq ?_
  refine HT.region ?_   -- R0
  simp (disch := first | omega | (simp <;> omega) | fail) [wrap_i64, wrap_u64, wrap_u8', NeedT.enc_eq]
  refine HT.seq ?_
  refine HT.seq ?_
  by_cases a1 : 40 < lv
  · skip
    refine HT.region ?_   -- R1
    simp (disch := first | omega | (simp <;> omega) | fail) [wrap_i64, wrap_u64, wrap_u8', NeedT.enc_eq, a1]
    refine HT.cond' ?_   -- if 28
    simp (disch := first | omega | (simp <;> omega) | fail) [wrap_i64, wrap_u64, wrap_u8', NeedT.enc_eq]
    have hv : validN n lv = false := valid_no (by omega)
    refine HT.seq ?_
    refine HT.region ?_   -- R2
    simp (disch := first | omega | (simp <;> omega) | fail) [wrap_i64, wrap_u64, wrap_u8', NeedT.enc_eq]
    refine HT.ret ?_
    simp (disch := first | omega | (simp <;> omega) | fail) [wrap_i64, wrap_u64, wrap_u8', NeedT.enc_eq, hv]
  by_cases b3 : n.kind = 3 ∧ n.gram < 0
  · skip
    refine HT.region ?_   -- R1
    simp (disch := first | omega | (simp <;> omega) | fail) [wrap_i64, wrap_u64, wrap_u8', NeedT.enc_eq, a1, b3.1, b3.2]
    refine HT.cond' ?_   -- if 28
    simp (disch := first | omega | (simp <;> omega) | fail) [wrap_i64, wrap_u64, wrap_u8', NeedT.enc_eq]
    have hv : validN n lv = false := valid_no (by omega)
    refine HT.seq ?_
    refine HT.region ?_   -- R2
    simp (disch := first | omega | (simp <;> omega) | fail) [wrap_i64, wrap_u64, wrap_u8', NeedT.enc_eq]
    refine HT.ret ?_
    simp (disch := first | omega | (simp <;> omega) | fail) [wrap_i64, wrap_u64, wrap_u8', NeedT.enc_eq, hv]
  by_cases b4 : n.kind = 3 ∧ 16777216 ≤ n.gram
  · skip
    refine HT.region ?_   -- R1
    simp (disch := first | omega | (simp <;> omega) | fail) [wrap_i64, wrap_u64, wrap_u8', NeedT.enc_eq, a1, b4.1, b4.2, show ¬ n.gram < 0 by omega]
    refine HT.cond' ?_   -- if 28
    simp (disch := first | omega | (simp <;> omega) | fail) [wrap_i64, wrap_u64, wrap_u8', NeedT.enc_eq]
    have hv : validN n lv = false := valid_no (by omega)
    refine HT.seq ?_
    refine HT.region ?_   -- R2
    simp (disch := first | omega | (simp <;> omega) | fail) [wrap_i64, wrap_u64, wrap_u8', NeedT.enc_eq]
    refine HT.ret ?_
    simp (disch := first | omega | (simp <;> omega) | fail) [wrap_i64, wrap_u64, wrap_u8', NeedT.enc_eq, hv]
  by_cases b5 : n.kind = 3
  · skip
    refine HT.region ?_   -- R1
    simp (disch := first | omega | (simp <;> omega) | fail) [wrap_i64, wrap_u64, wrap_u8', NeedT.enc_eq, a1, show (n.kind = 3) = True from eq_true b5, show ¬ n.gram < 0 by omega, show ¬ 16777216 ≤ n.gram by omega]
    refine HT.cond' ?_   -- if 28
    simp (disch := first | omega | (simp <;> omega) | fail) [wrap_i64, wrap_u64, wrap_u8', NeedT.enc_eq]
    refine HT.skip ?_
    simp (disch := first | omega | (simp <;> omega) | fail) [wrap_i64, wrap_u64, wrap_u8', NeedT.enc_eq]
    refine HT.seq ?_
    refine HT.seq ?_
    refine HT.region ?_   -- R3
    simp (disch := first | omega | (simp <;> omega) | fail) [wrap_i64, wrap_u64, wrap_u8', NeedT.enc_eq]
    refine HT.block ?_
    refine HT.seq ?_
    refine HT.seq ?_
    refine HT.region ?_   -- R4
    simp (disch := first | omega | (simp <;> omega) | fail) [wrap_i64, wrap_u64, wrap_u8', NeedT.enc_eq]
    refine HT.cond' ?_   -- if 31
    simp (disch := first | omega | (simp <;> omega) | fail) [wrap_i64, wrap_u64, wrap_u8', NeedT.enc_eq]
    refine HT.seq ?_
    refine HT.region ?_   -- R5
    simp (disch := first | omega | (simp <;> omega) | fail) [wrap_i64, wrap_u64, wrap_u8', NeedT.enc_eq]
    refine HT.cond' ?_   -- if 31
    simp (disch := first | omega | (simp <;> omega) | fail) [wrap_i64, wrap_u64, wrap_u8', NeedT.enc_eq]
    refine HT.region ?_   -- R6
    simp (disch := first | omega | (simp <;> omega) | fail) [wrap_i64, wrap_u64, wrap_u8', NeedT.enc_eq]
    refine HT.cond' ?_   -- if 31
    simp (disch := first | omega | (simp <;> omega) | fail) [wrap_i64, wrap_u64, wrap_u8', NeedT.enc_eq]
    refine HT.seq ?_
    refine HT.region ?_   -- R7
    simp (disch := first | omega | (simp <;> omega) | fail) [wrap_i64, wrap_u64, wrap_u8', NeedT.enc_eq]
    refine HT.ret ?_
    have hv := valid_leaf (n := n) (lv := lv) (by omega) (by omega) (by omega) (by omega) (by omega)
    simp (disch := first | omega | (simp <;> omega) | fail) [wrap_i64, wrap_u64, wrap_u8', NeedT.enc_eq, hv]
  by_cases b6 : ¬ n.gram = 0
  · skip
    refine HT.region ?_   -- R1
    simp (disch := first | omega | (simp <;> omega) | fail) [wrap_i64, wrap_u64, wrap_u8', NeedT.enc_eq, a1, b6]
    refine HT.cond' ?_   -- if 28
    simp (disch := first | omega | (simp <;> omega) | fail) [wrap_i64, wrap_u64, wrap_u8', NeedT.enc_eq]
    have hv : validN n lv = false := valid_no (by omega)
    refine HT.seq ?_
    refine HT.region ?_   -- R2
    simp (disch := first | omega | (simp <;> omega) | fail) [wrap_i64, wrap_u64, wrap_u8', NeedT.enc_eq]
    refine HT.ret ?_
    simp (disch := first | omega | (simp <;> omega) | fail) [wrap_i64, wrap_u64, wrap_u8', NeedT.enc_eq, hv]
  rw [Classical.not_not] at b6
  by_cases k1 : n.kind = 1
  · skip
    refine HT.region ?_   -- R1
    simp (disch := first | omega | (simp <;> omega) | fail) [wrap_i64, wrap_u64, wrap_u8', NeedT.enc_eq, a1, b6]
    refine HT.cond' ?_   -- if 28
    simp (disch := first | omega | (simp <;> omega) | fail) [wrap_i64, wrap_u64, wrap_u8', NeedT.enc_eq]
    refine HT.skip ?_
    simp (disch := first | omega | (simp <;> omega) | fail) [wrap_i64, wrap_u64, wrap_u8', NeedT.enc_eq]
    refine HT.seq ?_
    refine HT.seq ?_
    refine HT.region ?_   -- R3
    simp (disch := first | omega | (simp <;> omega) | fail) [wrap_i64, wrap_u64, wrap_u8', NeedT.enc_eq]
    refine HT.block ?_
    refine HT.seq ?_
    refine HT.seq ?_
    refine HT.region ?_   -- R4
    simp (disch := first | omega | (simp <;> omega) | fail) [wrap_i64, wrap_u64, wrap_u8', NeedT.enc_eq]
    refine HT.cond' ?_   -- if 31
    simp (disch := first | omega | (simp <;> omega) | fail) [wrap_i64, wrap_u64, wrap_u8', NeedT.enc_eq]
    refine HT.skip ?_
    simp (disch := first | omega | (simp <;> omega) | fail) [wrap_i64, wrap_u64, wrap_u8', NeedT.enc_eq]
    refine HT.cond' ?_   -- if 31
    simp (disch := first | omega | (simp <;> omega) | fail) [wrap_i64, wrap_u64, wrap_u8', NeedT.enc_eq]
    refine HT.seq ?_
    refine HT.region ?_   -- R7
    simp (disch := first | omega | (simp <;> omega) | fail) [wrap_i64, wrap_u64, wrap_u8', NeedT.enc_eq]
    refine HT.ret ?_
    have hv := valid_leaf (n := n) (lv := lv) (by omega) (by omega) (by omega) (by omega) (by omega)
    simp (disch := first | omega | (simp <;> omega) | fail) [wrap_i64, wrap_u64, wrap_u8', NeedT.enc_eq, hv]
  by_cases k2 : n.kind = 2
  · skip
    refine HT.region ?_   -- R1
    simp (disch := first | omega | (simp <;> omega) | fail) [wrap_i64, wrap_u64, wrap_u8', NeedT.enc_eq, a1, b6]
    refine HT.cond' ?_   -- if 28
    simp (disch := first | omega | (simp <;> omega) | fail) [wrap_i64, wrap_u64, wrap_u8', NeedT.enc_eq]
    refine HT.skip ?_
    simp (disch := first | omega | (simp <;> omega) | fail) [wrap_i64, wrap_u64, wrap_u8', NeedT.enc_eq]
    refine HT.seq ?_
    refine HT.seq ?_
    refine HT.region ?_   -- R3
    simp (disch := first | omega | (simp <;> omega) | fail) [wrap_i64, wrap_u64, wrap_u8', NeedT.enc_eq]
    refine HT.block ?_
    refine HT.seq ?_
    refine HT.seq ?_
    refine HT.region ?_   -- R4
    simp (disch := first | omega | (simp <;> omega) | fail) [wrap_i64, wrap_u64, wrap_u8', NeedT.enc_eq]
    refine HT.cond' ?_   -- if 31
    simp (disch := first | omega | (simp <;> omega) | fail) [wrap_i64, wrap_u64, wrap_u8', NeedT.enc_eq]
    refine HT.seq ?_
    refine HT.region ?_   -- R5
    simp (disch := first | omega | (simp <;> omega) | fail) [wrap_i64, wrap_u64, wrap_u8', NeedT.enc_eq]
    refine HT.cond' ?_   -- if 31
    simp (disch := first | omega | (simp <;> omega) | fail) [wrap_i64, wrap_u64, wrap_u8', NeedT.enc_eq]
    refine HT.skip ?_
    simp (disch := first | omega | (simp <;> omega) | fail) [wrap_i64, wrap_u64, wrap_u8', NeedT.enc_eq]
    refine HT.cond' ?_   -- if 31
    simp (disch := first | omega | (simp <;> omega) | fail) [wrap_i64, wrap_u64, wrap_u8', NeedT.enc_eq]
    refine HT.seq ?_
    refine HT.region ?_   -- R7
    simp (disch := first | omega | (simp <;> omega) | fail) [wrap_i64, wrap_u64, wrap_u8', NeedT.enc_eq]
    refine HT.ret ?_
    have hv := valid_leaf (n := n) (lv := lv) (by omega) (by omega) (by omega) (by omega) (by omega)
    simp (disch := first | omega | (simp <;> omega) | fail) [wrap_i64, wrap_u64, wrap_u8', NeedT.enc_eq, hv]
  by_cases k4 : n.kind = 4
  · skip
    refine HT.region ?_   -- R1
    simp (disch := first | omega | (simp <;> omega) | fail) [wrap_i64, wrap_u64, wrap_u8', NeedT.enc_eq, a1, b6]
    refine HT.cond' ?_   -- if 28
    simp (disch := first | omega | (simp <;> omega) | fail) [wrap_i64, wrap_u64, wrap_u8', NeedT.enc_eq]
    refine HT.skip ?_
    simp (disch := first | omega | (simp <;> omega) | fail) [wrap_i64, wrap_u64, wrap_u8', NeedT.enc_eq]
    refine HT.seq ?_
    refine HT.seq ?_
    refine HT.region ?_   -- R3
    simp (disch := first | omega | (simp <;> omega) | fail) [wrap_i64, wrap_u64, wrap_u8', NeedT.enc_eq]
    refine HT.block ?_
    refine HT.seq ?_
    refine HT.seq ?_
    refine HT.region ?_   -- R4
    simp (disch := first | omega | (simp <;> omega) | fail) [wrap_i64, wrap_u64, wrap_u8', NeedT.enc_eq]
    refine HT.cond' ?_   -- if 31
    simp (disch := first | omega | (simp <;> omega) | fail) [wrap_i64, wrap_u64, wrap_u8', NeedT.enc_eq]
    refine HT.seq ?_
    refine HT.region ?_   -- R5
    simp (disch := first | omega | (simp <;> omega) | fail) [wrap_i64, wrap_u64, wrap_u8', NeedT.enc_eq]
    refine HT.cond' ?_   -- if 31
    simp (disch := first | omega | (simp <;> omega) | fail) [wrap_i64, wrap_u64, wrap_u8', NeedT.enc_eq]
    refine HT.region ?_   -- R6
    simp (disch := first | omega | (simp <;> omega) | fail) [wrap_i64, wrap_u64, wrap_u8', NeedT.enc_eq]
    refine HT.cond' ?_   -- if 31
    simp (disch := first | omega | (simp <;> omega) | fail) [wrap_i64, wrap_u64, wrap_u8', NeedT.enc_eq]
    refine HT.seq ?_
    refine HT.seq ?_
    refine HT.region ?_   -- R8
    simp (disch := first | omega | (simp <;> omega) | fail) [wrap_i64, wrap_u64, wrap_u8', NeedT.enc_eq]
    refine HT.cond' ?_   -- if 39
    simp (disch := first | omega | (simp <;> omega) | fail) [wrap_i64, wrap_u64, wrap_u8', NeedT.enc_eq]
    refine HT.skip ?_
    simp (disch := first | omega | (simp <;> omega) | fail) [wrap_i64, wrap_u64, wrap_u8', NeedT.enc_eq]
    refine HT.cond' ?_   -- if 39
    simp (disch := first | omega | (simp <;> omega) | fail) [wrap_i64, wrap_u64, wrap_u8', NeedT.enc_eq]
    refine HT.seq ?_
    refine HT.seq ?_
    refine HT.region ?_   -- R10
    simp (disch := first | omega | (simp <;> omega) | fail) [wrap_i64, wrap_u64, wrap_u8', NeedT.enc_eq]
    refine HT.block ?_
    refine HT.loopK (fun i : {i : Nat // i ≤ n.subs.length ∧ validsN (n.subs.take i) (lv + 1) = true} => [.s 45 (i64 i)]) [1, 2, 43, 44] [2] (fun i => n.subs.length - i) (⟨0, by omega, rfl⟩) ?_ ?_   -- block 1 turned [45]
    · simp (disch := first | omega | (simp <;> omega) | fail) [wrap_i64, wrap_u64, wrap_u8', NeedT.enc_eq]
    rintro ⟨i, hi, hg⟩
    simp (disch := first | omega | (simp <;> omega) | fail) [wrap_i64, wrap_u64, wrap_u8', NeedT.enc_eq]
    refine HT.seq ?_
    refine HT.region ?_   -- R11
    simp (disch := first | omega | (simp <;> omega) | fail) [wrap_i64, wrap_u64, wrap_u8', NeedT.enc_eq]
    refine HT.seq ?_
    refine HT.cond' ?_   -- if 46
    simp (disch := first | omega | (simp <;> omega) | fail) [wrap_i64, wrap_u64, wrap_u8', NeedT.enc_eq]
    refine ⟨fun h46 => ?_, fun h46 => ?_⟩
    · skip
      have hi' : i < n.subs.length := by omega
      refine HT.skip ?_
      simp (disch := first | omega | (simp <;> omega) | fail) [wrap_i64, wrap_u64, wrap_u8', NeedT.enc_eq]
      refine HT.seq ?_
      refine HT.block ?_
      refine HT.seq ?_
      refine HT.region ?_   -- R12
      simp (disch := first | omega | (simp <;> omega) | fail) [wrap_i64, wrap_u64, wrap_u8', NeedT.enc_eq]
      refine HT.seq ?_
      refine HT.region ?_   -- R13
      simp (disch := first | omega | (simp <;> omega) | fail) [wrap_i64, wrap_u64, wrap_u8', NeedT.enc_eq]
      refine stepK.mk (.call1 _ _ _ _ rfl Ty.hb102 rfl (ih n.subs[i] (List.getElem_mem hi') (lv + 1) (by omega) (by omega)) rfl rfl) ?_
      simp (disch := first | omega | (simp <;> omega) | fail) [wrap_i64, wrap_u64, wrap_u8', NeedT.enc_eq]
      refine HT.cond' ?_   -- if 53
      simp (disch := first | omega | (simp <;> omega) | fail) [wrap_i64, wrap_u64, wrap_u8', NeedT.enc_eq]
      refine ⟨fun h53 => ?_, fun h53 => ?_⟩
      · skip
        refine HT.seq ?_
        refine HT.region ?_   -- R14
        simp (disch := first | omega | (simp <;> omega) | fail) [wrap_i64, wrap_u64, wrap_u8', NeedT.enc_eq]
        refine HT.ret ?_
        have hv := valid_node (n := n) (lv := lv) (by omega) (by omega) (by omega)
        have hb := valids_bad hi' (by simpa using h53)
        simp (disch := first | omega | (simp <;> omega) | fail) [wrap_i64, wrap_u64, wrap_u8', NeedT.enc_eq, hv, hb]
      · skip
        refine HT.skip ?_
        simp (disch := first | omega | (simp <;> omega) | fail) [wrap_i64, wrap_u64, wrap_u8', NeedT.enc_eq]
        refine HT.region ?_   -- R15
        simp (disch := first | omega | (simp <;> omega) | fail) [wrap_i64, wrap_u64, wrap_u8', NeedT.enc_eq]
        refine Round.mk' (⟨i + 1, by omega, by rw [validsN_take hi', hg]; simpa using h53⟩) (by dsimp only; omega) rfl ?_
        simp (disch := first | omega | (simp <;> omega) | fail) [wrap_i64, wrap_u64, wrap_u8', NeedT.enc_eq]
    · skip
      obtain rfl : i = n.subs.length := by omega
      rw [List.take_length] at hg
      refine HT.exit ?_
      simp (disch := first | omega | (simp <;> omega) | fail) [wrap_i64, wrap_u64, wrap_u8', NeedT.enc_eq]
      refine HT.seq ?_
      refine HT.region ?_   -- R16
      simp (disch := first | omega | (simp <;> omega) | fail) [wrap_i64, wrap_u64, wrap_u8', NeedT.enc_eq]
      refine HT.ret ?_
      have hv := valid_node (n := n) (lv := lv) (by omega) (by omega) (by omega)
      simp (disch := first | omega | (simp <;> omega) | fail) [wrap_i64, wrap_u64, wrap_u8', NeedT.enc_eq, hv, hg]
      omega
  by_cases k5 : n.kind = 5
  · skip
    refine HT.region ?_   -- R1
    simp (disch := first | omega | (simp <;> omega) | fail) [wrap_i64, wrap_u64, wrap_u8', NeedT.enc_eq, a1, b6]
    refine HT.cond' ?_   -- if 28
    simp (disch := first | omega | (simp <;> omega) | fail) [wrap_i64, wrap_u64, wrap_u8', NeedT.enc_eq]
    refine HT.skip ?_
    simp (disch := first | omega | (simp <;> omega) | fail) [wrap_i64, wrap_u64, wrap_u8', NeedT.enc_eq]
    refine HT.seq ?_
    refine HT.seq ?_
    refine HT.region ?_   -- R3
    simp (disch := first | omega | (simp <;> omega) | fail) [wrap_i64, wrap_u64, wrap_u8', NeedT.enc_eq]
    refine HT.block ?_
    refine HT.seq ?_
    refine HT.seq ?_
    refine HT.region ?_   -- R4
    simp (disch := first | omega | (simp <;> omega) | fail) [wrap_i64, wrap_u64, wrap_u8', NeedT.enc_eq]
    refine HT.cond' ?_   -- if 31
    simp (disch := first | omega | (simp <;> omega) | fail) [wrap_i64, wrap_u64, wrap_u8', NeedT.enc_eq]
    refine HT.seq ?_
    refine HT.region ?_   -- R5
    simp (disch := first | omega | (simp <;> omega) | fail) [wrap_i64, wrap_u64, wrap_u8', NeedT.enc_eq]
    refine HT.cond' ?_   -- if 31
    simp (disch := first | omega | (simp <;> omega) | fail) [wrap_i64, wrap_u64, wrap_u8', NeedT.enc_eq]
    refine HT.region ?_   -- R6
    simp (disch := first | omega | (simp <;> omega) | fail) [wrap_i64, wrap_u64, wrap_u8', NeedT.enc_eq]
    refine HT.cond' ?_   -- if 31
    simp (disch := first | omega | (simp <;> omega) | fail) [wrap_i64, wrap_u64, wrap_u8', NeedT.enc_eq]
    refine HT.seq ?_
    refine HT.seq ?_
    refine HT.region ?_   -- R8
    simp (disch := first | omega | (simp <;> omega) | fail) [wrap_i64, wrap_u64, wrap_u8', NeedT.enc_eq]
    refine HT.cond' ?_   -- if 39
    simp (disch := first | omega | (simp <;> omega) | fail) [wrap_i64, wrap_u64, wrap_u8', NeedT.enc_eq]
    refine HT.region ?_   -- R9
    simp (disch := first | omega | (simp <;> omega) | fail) [wrap_i64, wrap_u64, wrap_u8', NeedT.enc_eq]
    refine HT.cond' ?_   -- if 39
    simp (disch := first | omega | (simp <;> omega) | fail) [wrap_i64, wrap_u64, wrap_u8', NeedT.enc_eq]
    refine HT.seq ?_
    refine HT.seq ?_
    refine HT.region ?_   -- R10
    simp (disch := first | omega | (simp <;> omega) | fail) [wrap_i64, wrap_u64, wrap_u8', NeedT.enc_eq]
    refine HT.block ?_
    refine HT.loopK (fun i : {i : Nat // i ≤ n.subs.length ∧ validsN (n.subs.take i) (lv + 1) = true} => [.s 45 (i64 i)]) [1, 2, 43, 44] [2] (fun i => n.subs.length - i) (⟨0, by omega, rfl⟩) ?_ ?_   -- block 1 turned [45]
    · simp (disch := first | omega | (simp <;> omega) | fail) [wrap_i64, wrap_u64, wrap_u8', NeedT.enc_eq]
    rintro ⟨i, hi, hg⟩
    simp (disch := first | omega | (simp <;> omega) | fail) [wrap_i64, wrap_u64, wrap_u8', NeedT.enc_eq]
    refine HT.seq ?_
    refine HT.region ?_   -- R11
    simp (disch := first | omega | (simp <;> omega) | fail) [wrap_i64, wrap_u64, wrap_u8', NeedT.enc_eq]
    refine HT.seq ?_
    refine HT.cond' ?_   -- if 46
    simp (disch := first | omega | (simp <;> omega) | fail) [wrap_i64, wrap_u64, wrap_u8', NeedT.enc_eq]
    refine ⟨fun h46 => ?_, fun h46 => ?_⟩
    · skip
      have hi' : i < n.subs.length := by omega
      refine HT.skip ?_
      simp (disch := first | omega | (simp <;> omega) | fail) [wrap_i64, wrap_u64, wrap_u8', NeedT.enc_eq]
      refine HT.seq ?_
      refine HT.block ?_
      refine HT.seq ?_
      refine HT.region ?_   -- R12
      simp (disch := first | omega | (simp <;> omega) | fail) [wrap_i64, wrap_u64, wrap_u8', NeedT.enc_eq]
      refine HT.seq ?_
      refine HT.region ?_   -- R13
      simp (disch := first | omega | (simp <;> omega) | fail) [wrap_i64, wrap_u64, wrap_u8', NeedT.enc_eq]
      refine stepK.mk (.call1 _ _ _ _ rfl Ty.hb102 rfl (ih n.subs[i] (List.getElem_mem hi') (lv + 1) (by omega) (by omega)) rfl rfl) ?_
      simp (disch := first | omega | (simp <;> omega) | fail) [wrap_i64, wrap_u64, wrap_u8', NeedT.enc_eq]
      refine HT.cond' ?_   -- if 53
      simp (disch := first | omega | (simp <;> omega) | fail) [wrap_i64, wrap_u64, wrap_u8', NeedT.enc_eq]
      refine ⟨fun h53 => ?_, fun h53 => ?_⟩
      · skip
        refine HT.seq ?_
        refine HT.region ?_   -- R14
        simp (disch := first | omega | (simp <;> omega) | fail) [wrap_i64, wrap_u64, wrap_u8', NeedT.enc_eq]
        refine HT.ret ?_
        have hv := valid_node (n := n) (lv := lv) (by omega) (by omega) (by omega)
        have hb := valids_bad hi' (by simpa using h53)
        simp (disch := first | omega | (simp <;> omega) | fail) [wrap_i64, wrap_u64, wrap_u8', NeedT.enc_eq, hv, hb]
      · skip
        refine HT.skip ?_
        simp (disch := first | omega | (simp <;> omega) | fail) [wrap_i64, wrap_u64, wrap_u8', NeedT.enc_eq]
        refine HT.region ?_   -- R15
        simp (disch := first | omega | (simp <;> omega) | fail) [wrap_i64, wrap_u64, wrap_u8', NeedT.enc_eq]
        refine Round.mk' (⟨i + 1, by omega, by rw [validsN_take hi', hg]; simpa using h53⟩) (by dsimp only; omega) rfl ?_
        simp (disch := first | omega | (simp <;> omega) | fail) [wrap_i64, wrap_u64, wrap_u8', NeedT.enc_eq]
    · skip
      obtain rfl : i = n.subs.length := by omega
      rw [List.take_length] at hg
      refine HT.exit ?_
      simp (disch := first | omega | (simp <;> omega) | fail) [wrap_i64, wrap_u64, wrap_u8', NeedT.enc_eq]
      refine HT.seq ?_
      refine HT.region ?_   -- R16
      simp (disch := first | omega | (simp <;> omega) | fail) [wrap_i64, wrap_u64, wrap_u8', NeedT.enc_eq]
      refine HT.ret ?_
      have hv := valid_node (n := n) (lv := lv) (by omega) (by omega) (by omega)
      simp (disch := first | omega | (simp <;> omega) | fail) [wrap_i64, wrap_u64, wrap_u8', NeedT.enc_eq, hv, hg]
      omega
  refine HT.region ?_   -- R1
  simp (disch := first | omega | (simp <;> omega) | fail) [wrap_i64, wrap_u64, wrap_u8', NeedT.enc_eq, a1, b6]
  refine HT.cond' ?_   -- if 28
  simp (disch := first | omega | (simp <;> omega) | fail) [wrap_i64, wrap_u64, wrap_u8', NeedT.enc_eq]
  refine HT.skip ?_
  simp (disch := first | omega | (simp <;> omega) | fail) [wrap_i64, wrap_u64, wrap_u8', NeedT.enc_eq]
  refine HT.seq ?_
  refine HT.seq ?_
  refine HT.region ?_   -- R3
  simp (disch := first | omega | (simp <;> omega) | fail) [wrap_i64, wrap_u64, wrap_u8', NeedT.enc_eq]
  refine HT.block ?_
  refine HT.seq ?_
  refine HT.seq ?_
  refine HT.region ?_   -- R4
  simp (disch := first | omega | (simp <;> omega) | fail) [wrap_i64, wrap_u64, wrap_u8', NeedT.enc_eq]
  refine HT.cond' ?_   -- if 31
  simp (disch := first | omega | (simp <;> omega) | fail) [wrap_i64, wrap_u64, wrap_u8', NeedT.enc_eq]
  refine HT.seq ?_
  refine HT.region ?_   -- R5
  simp (disch := first | omega | (simp <;> omega) | fail) [wrap_i64, wrap_u64, wrap_u8', NeedT.enc_eq]
  refine HT.cond' ?_   -- if 31
  simp (disch := first | omega | (simp <;> omega) | fail) [wrap_i64, wrap_u64, wrap_u8', NeedT.enc_eq]
  refine HT.region ?_   -- R6
  simp (disch := first | omega | (simp <;> omega) | fail) [wrap_i64, wrap_u64, wrap_u8', NeedT.enc_eq]
  refine HT.cond' ?_   -- if 31
  simp (disch := first | omega | (simp <;> omega) | fail) [wrap_i64, wrap_u64, wrap_u8', NeedT.enc_eq]
  refine HT.seq ?_
  refine HT.seq ?_
  refine HT.region ?_   -- R8
  simp (disch := first | omega | (simp <;> omega) | fail) [wrap_i64, wrap_u64, wrap_u8', NeedT.enc_eq]
  refine HT.cond' ?_   -- if 39
  simp (disch := first | omega | (simp <;> omega) | fail) [wrap_i64, wrap_u64, wrap_u8', NeedT.enc_eq]
  refine HT.region ?_   -- R9
  simp (disch := first | omega | (simp <;> omega) | fail) [wrap_i64, wrap_u64, wrap_u8', NeedT.enc_eq]
  refine HT.cond' ?_   -- if 39
  simp (disch := first | omega | (simp <;> omega) | fail) [wrap_i64, wrap_u64, wrap_u8', NeedT.enc_eq]
  refine HT.skip ?_
  simp (disch := first | omega | (simp <;> omega) | fail) [wrap_i64, wrap_u64, wrap_u8', NeedT.enc_eq]
  refine HT.seq ?_
  refine HT.region ?_   -- R17
  simp (disch := first | omega | (simp <;> omega) | fail) [wrap_i64, wrap_u64, wrap_u8', NeedT.enc_eq]
  refine HT.ret ?_
  have hv := valid_other (n := n) (lv := lv) (by omega)
  simp (disch := first | omega | (simp <;> omega) | fail) [wrap_i64, wrap_u64, wrap_u8', NeedT.enc_eq, hv]
theorem valid_spec (n : NeedT) : NeedB 140737488355328 n → ∀ lv : Int, 0 ≤ lv → lv ≤ 41 → Spec1 Tryz.prog 102 [.agg (needC n), i64 lv] (bo (validN n lv)) := by
  refine needInd' (p := fun n => NeedB 140737488355328 n → ∀ lv : Int, 0 ≤ lv → lv ≤ 41 → Spec1 Tryz.prog 102 [.agg (needC n), i64 lv] (bo (validN n lv))) (fun n ih hb lv h0 hl => ?_) n
  exact valid_of n lv hb.len h0 hl fun x hx m h0 hl => ih x hx (hb.sub hx) m h0 hl
theorem Rright_spec (n : NeedT) (hb : NeedB 140737488355328 n) : Spec1 Tryz.prog 63 [.agg (needC n)] (bo (validN n 1)) := by
  refine Spec1.of_HT Tryz.func63 rfl (by rw [Tryz.ntmps63]; simp) rfl ?_
  rw [Tryz.ntmps63]
  refine HT.seq ?_
  refine HT.region ?_   -- R0
  simp (disch := first | omega | (simp <;> omega) | fail) [wrap_i64, wrap_u64, wrap_u8']
  refine HT.seq ?_
  refine HT.region ?_   -- R1
  simp (disch := first | omega | (simp <;> omega) | fail) [wrap_i64, wrap_u64, wrap_u8']
  refine stepK.mk (.call1 _ _ _ _ rfl Ty.hb102 rfl (valid_spec n hb 1 (by decide) (by decide)) rfl rfl) ?_
  simp (disch := first | omega | (simp <;> omega) | fail) [wrap_i64, wrap_u64, wrap_u8']
  refine HT.ret ?_
  simp (disch := first | omega | (simp <;> omega) | fail) [wrap_i64, wrap_u64, wrap_u8']
theorem holds_loop {n : NeedT} {codes : List Int} (h1 : ¬ n.kind = 1) (h2 : ¬ n.kind = 2) (h3 : ¬ n.kind = 3) : holdsN n codes = holdL (decide (n.kind = 5)) (decide (n.kind = 4)) n.subs codes := by
  rw [holdsN_eq, if_neg h1, if_neg h2, if_neg h3]
theorem undec_end {o d : Bool} {codes : List Int} {l : List NeedT} (h : Undec o codes l l.length) : holdL o d l codes = d := holdL_none fun x hx => h x (by rw [List.take_length]; exact hx)
theorem EvalC_spec (f : Bool) (codes : List Int) (c : Int) (hc : codes.length ≤ 140737488355328) : Spec1 Tryz.prog 69 [i64 c, .cptr [.sl 1 f (intsHV codes)]] (bo (decide (c ∈ codes))) := by
  refine Spec1.of_HT Tryz.func69 rfl (by rw [Tryz.ntmps69]; simp) rfl ?_
  rw [Tryz.ntmps69]
  refine HT.seq ?_
  refine HT.region ?_   -- R0
  simp (disch := first | omega | (simp <;> omega) | fail) [wrap_i64, wrap_u64, wrap_u8']
  refine HT.seq ?_
  refine HT.region ?_   -- R1
  simp (disch := first | omega | (simp <;> omega) | fail) [wrap_i64, wrap_u64, wrap_u8']
  refine stepK.mk (.call1f _ _ _ _ _ rfl Ty.hb70 rfl rfl (Contains_spec f codes c hc) rfl) ?_
  simp (disch := first | omega | (simp <;> omega) | fail) [wrap_i64, wrap_u64, wrap_u8']
  refine HT.ret ?_
  simp (disch := first | omega | (simp <;> omega) | fail) [wrap_i64, wrap_u64, wrap_u8']
set_option maxHeartbeats 4000000 in
theorem holds_of (n : NeedT) (f : Bool) (codes : List Int) (hc : codes.length ≤ 140737488355328) (hs : n.subs.length ≤ 140737488355328) (ih : ∀ x ∈ n.subs, Spec1 Tryz.prog 68 [.agg (needC x), .fn (.func 69) [.cptr [.sl 1 f (intsHV codes)]]] (bo (holdsN x codes))) : Spec1 Tryz.prog 68 [.agg (needC n), .fn (.func 69) [.cptr [.sl 1 f (intsHV codes)]]] (bo (holdsN n codes)) := by
  refine Spec1.of_HT Tryz.func68 rfl (by rw [Tryz.ntmps68]; simp) rfl ?_
  rw [Tryz.ntmps68]
  refine HT.seq ?_
  refine HT.region ?_   -- R0
  simp (disch := first | omega | (simp <;> omega) | fail) [wrap_i64, wrap_u64, wrap_u8', NeedT.enc_eq]
  refine HT.seq ?_
  refine HT.seq ?_
  refine HT.region ?_   -- R1
  simp (disch := first | omega | (simp <;> omega) | fail) [wrap_i64, wrap_u64, wrap_u8', NeedT.enc_eq]
  refine HT.block ?_
  refine HT.seq ?_
  refine HT.region ?_   -- R2
  simp (disch := first | omega | (simp <;> omega) | fail) [wrap_i64, wrap_u64, wrap_u8', NeedT.enc_eq]
  refine HT.cond' ?_   -- if 9
  simp (disch := first | omega | (simp <;> omega) | fail) [wrap_i64, wrap_u64, wrap_u8', NeedT.enc_eq]
  refine ⟨fun h9 => ?_, fun h9 => ?_⟩
  · skip
    refine HT.seq ?_
    refine HT.region ?_   -- R3
    simp (disch := first | omega | (simp <;> omega) | fail) [wrap_i64, wrap_u64, wrap_u8', NeedT.enc_eq]
    refine HT.ret ?_
    simp (disch := first | omega | (simp <;> omega) | fail) [wrap_i64, wrap_u64, wrap_u8', NeedT.enc_eq, holdsN_eq, h9]
  · skip
    refine HT.seq ?_
    refine HT.region ?_   -- R4
    simp (disch := first | omega | (simp <;> omega) | fail) [wrap_i64, wrap_u64, wrap_u8', NeedT.enc_eq]
    refine HT.cond' ?_   -- if 11
    simp (disch := first | omega | (simp <;> omega) | fail) [wrap_i64, wrap_u64, wrap_u8', NeedT.enc_eq]
    refine ⟨fun h11 => ?_, fun h11 => ?_⟩
    · skip
      refine HT.seq ?_
      refine HT.region ?_   -- R5
      simp (disch := first | omega | (simp <;> omega) | fail) [wrap_i64, wrap_u64, wrap_u8', NeedT.enc_eq]
      refine HT.ret ?_
      simp (disch := first | omega | (simp <;> omega) | fail) [wrap_i64, wrap_u64, wrap_u8', NeedT.enc_eq, holdsN_eq, h11]
    · skip
      refine HT.seq ?_
      refine HT.region ?_   -- R6
      simp (disch := first | omega | (simp <;> omega) | fail) [wrap_i64, wrap_u64, wrap_u8', NeedT.enc_eq]
      refine HT.cond' ?_   -- if 13
      simp (disch := first | omega | (simp <;> omega) | fail) [wrap_i64, wrap_u64, wrap_u8', NeedT.enc_eq]
      refine ⟨fun h13 => ?_, fun h13 => ?_⟩
      · skip
        refine HT.seq ?_
        refine HT.region ?_   -- R7
        simp (disch := first | omega | (simp <;> omega) | fail) [wrap_i64, wrap_u64, wrap_u8', NeedT.enc_eq]
        refine stepK.mk (.call1 _ _ _ _ rfl Ty.hb69 rfl (EvalC_spec f codes n.gram hc) rfl rfl) ?_
        simp (disch := first | omega | (simp <;> omega) | fail) [wrap_i64, wrap_u64, wrap_u8', NeedT.enc_eq]
        refine HT.ret ?_
        simp (disch := first | omega | (simp <;> omega) | fail) [wrap_i64, wrap_u64, wrap_u8', NeedT.enc_eq, holdsN_eq, h13]
      · skip
        refine HT.skip ?_
        simp (disch := first | omega | (simp <;> omega) | fail) [wrap_i64, wrap_u64, wrap_u8', NeedT.enc_eq]
        refine HT.seq ?_
        refine HT.seq ?_
        refine HT.region ?_   -- R8
        simp (disch := first | omega | (simp <;> omega) | fail) [wrap_i64, wrap_u64, wrap_u8', NeedT.enc_eq]
        refine HT.block ?_
        refine HT.loopK (fun i : {i : Nat // i ≤ n.subs.length ∧ Undec (decide (n.kind = 5)) codes n.subs i} => [.s 22 (i64 i)]) [1, 2, 20, 21] [2] (fun i => n.subs.length - i) (⟨0, by omega, Undec.zero _ _ _⟩) ?_ ?_   -- block 1 turned [22]
        · simp (disch := first | omega | (simp <;> omega) | fail) [wrap_i64, wrap_u64, wrap_u8', NeedT.enc_eq]
        rintro ⟨i, hi, hg⟩
        simp (disch := first | omega | (simp <;> omega) | fail) [wrap_i64, wrap_u64, wrap_u8', NeedT.enc_eq]
        refine HT.seq ?_
        refine HT.region ?_   -- R9
        simp (disch := first | omega | (simp <;> omega) | fail) [wrap_i64, wrap_u64, wrap_u8', NeedT.enc_eq]
        refine HT.seq ?_
        refine HT.cond' ?_   -- if 23
        simp (disch := first | omega | (simp <;> omega) | fail) [wrap_i64, wrap_u64, wrap_u8', NeedT.enc_eq]
        refine ⟨fun h23 => ?_, fun h23 => ?_⟩
        · skip
          have hi' : i < n.subs.length := by omega
          refine HT.skip ?_
          simp (disch := first | omega | (simp <;> omega) | fail) [wrap_i64, wrap_u64, wrap_u8', NeedT.enc_eq]
          refine HT.seq ?_
          refine HT.block ?_
          refine HT.seq ?_
          refine HT.region ?_   -- R10
          simp (disch := first | omega | (simp <;> omega) | fail) [wrap_i64, wrap_u64, wrap_u8', NeedT.enc_eq]
          refine HT.seq ?_
          refine HT.draw [.batch [0, 1, 2, 3, 4, 5, 6]] (by kernel_rfl) ?_   -- R11
          simp (disch := first | omega | (simp <;> omega) | fail) [wrap_i64, wrap_u64, wrap_u8', NeedT.enc_eq]
          refine stepK.mk (.call1 _ _ _ rfl Ty.hb68 rfl rfl (ih n.subs[i] (List.getElem_mem hi'))) ?_
          simp (disch := first | omega | (simp <;> omega) | fail) [wrap_i64, wrap_u64, wrap_u8', NeedT.enc_eq]
          refine HT.cond' ?_   -- if 32
          simp (disch := first | omega | (simp <;> omega) | fail) [wrap_i64, wrap_u64, wrap_u8', NeedT.enc_eq]
          refine ⟨fun h32 => ?_, fun h32 => ?_⟩
          · skip
            refine HT.seq ?_
            refine HT.region ?_   -- R12
            simp (disch := first | omega | (simp <;> omega) | fail) [wrap_i64, wrap_u64, wrap_u8', NeedT.enc_eq]
            refine HT.ret ?_
            have hh := holdL_some (d := decide (n.kind = 4)) (List.getElem_mem hi') h32
            simp (disch := first | omega | (simp <;> omega) | fail) [wrap_i64, wrap_u64, wrap_u8', NeedT.enc_eq, holds_loop h9 h11 h13, hh]
          · skip
            refine HT.skip ?_
            simp (disch := first | omega | (simp <;> omega) | fail) [wrap_i64, wrap_u64, wrap_u8', NeedT.enc_eq]
            refine HT.region ?_   -- R13
            simp (disch := first | omega | (simp <;> omega) | fail) [wrap_i64, wrap_u64, wrap_u8', NeedT.enc_eq]
            refine Round.mk' (⟨i + 1, by omega, hg.succ hi' h32⟩) (by dsimp only; omega) rfl ?_
            simp (disch := first | omega | (simp <;> omega) | fail) [wrap_i64, wrap_u64, wrap_u8', NeedT.enc_eq]
        · skip
          obtain rfl : i = n.subs.length := by omega
          refine HT.exit ?_
          simp (disch := first | omega | (simp <;> omega) | fail) [wrap_i64, wrap_u64, wrap_u8', NeedT.enc_eq]
          refine HT.seq ?_
          refine HT.region ?_   -- R14
          simp (disch := first | omega | (simp <;> omega) | fail) [wrap_i64, wrap_u64, wrap_u8', NeedT.enc_eq]
          refine HT.ret ?_
          simp (disch := first | omega | (simp <;> omega) | fail) [wrap_i64, wrap_u64, wrap_u8', NeedT.enc_eq, holds_loop h9 h11 h13, undec_end hg]
theorem holds_spec (f : Bool) (codes : List Int) (hc : codes.length ≤ 140737488355328) (n : NeedT) : NeedB 140737488355328 n → Spec1 Tryz.prog 68 [.agg (needC n), .fn (.func 69) [.cptr [.sl 1 f (intsHV codes)]]] (bo (holdsN n codes)) := by
  refine needInd' (p := fun n => NeedB 140737488355328 n → Spec1 Tryz.prog 68 [.agg (needC n), .fn (.func 69) [.cptr [.sl 1 f (intsHV codes)]]] (bo (holdsN n codes))) (fun n ih hb => ?_) n
  exact holds_of n f codes hc hb.len fun x hx => ih x hx (hb.sub hx)
theorem Eval_spec (n : NeedT) (f : Bool) (codes : List Int) (hb : NeedB 140737488355328 n) (hc : codes.length ≤ 140737488355328) : Spec1 Tryz.prog 37 [.agg (needC n), .sl 1 f (intsHV codes)] (bo (validN n 1 && holdsN n codes)) := by
  refine Spec1.of_HT Tryz.func37 rfl (by rw [Tryz.ntmps37]; simp) rfl ?_
  rw [Tryz.ntmps37]
  refine HT.seq ?_
  refine HT.region ?_   -- R0
  simp (disch := first | omega | (simp <;> omega) | fail) [wrap_i64, wrap_u64, wrap_u8']
  refine HT.weaken (HS.le_frzbox 3 3 (by decide) rfl rfl (by simp [isIL, isI])) ?_
  refine HT.seq ?_
  by_cases v : validN n 1 = false
  · skip
    refine HT.region ?_   -- R1
    simp (disch := first | omega | (simp <;> omega) | fail) [wrap_i64, wrap_u64, wrap_u8', v]
    refine stepK.mk (.call1 _ _ _ _ rfl Ty.hb63 rfl (Rright_spec n hb) rfl rfl) ?_
    simp (disch := first | omega | (simp <;> omega) | fail) [wrap_i64, wrap_u64, wrap_u8', v]
    refine HT.ret ?_
    simp (disch := first | omega | (simp <;> omega) | fail) [wrap_i64, wrap_u64, wrap_u8', v]
  rw [Bool.not_eq_false] at v
  refine HT.region ?_   -- R1
  simp (disch := first | omega | (simp <;> omega) | fail) [wrap_i64, wrap_u64, wrap_u8', v]
  refine stepK.mk (.call1 _ _ _ _ rfl Ty.hb63 rfl (Rright_spec n hb) rfl rfl) ?_
  simp (disch := first | omega | (simp <;> omega) | fail) [wrap_i64, wrap_u64, wrap_u8', v]
  refine stepK.mk (.call1f _ _ _ _ _ rfl Ty.hb68 rfl rfl (holds_spec f codes hc n hb) rfl) ?_
  simp (disch := first | omega | (simp <;> omega) | fail) [wrap_i64, wrap_u64, wrap_u8', v]
  refine HT.ret ?_
  simp (disch := first | omega | (simp <;> omega) | fail) [wrap_i64, wrap_u64, wrap_u8', v]
end Go.Hv
set_option linter.unusedVariables false
set_option linter.unusedSimpArgs false
/- Find and Eval of a segment, walked (layer 29). -/
namespace Go.Hv
open Go Go.Hv Go.Proofs Go.RowKit
open Go.Proofs.YtlbmbnpknobjdaaGreatDoor
def glV (t : List UInt8) (d : Doc) : List Gram := (ofV t).map fun c => ⟨c, offV d.text c⟩
@[simp] theorem glV_length (t : List UInt8) (d : Doc) : (glV t d).length = (ofV t).length := by simp [glV]
theorem glV_succ (t : List UInt8) (d : Doc) {j : Nat} (hj : j < (ofV t).length) : (glV t d).take (j + 1) = (glV t d).take j ++ [⟨(ofV t)[j], offV d.text (ofV t)[j]⟩] := by
  rw [List.take_succ_eq_append_getElem (by simpa using hj)]
  simp [glV]
theorem glV_all (t : List UInt8) (d : Doc) : (glV t d).take (ofV t).length = glV t d := by rw [← glV_length t d, List.take_length]
theorem offV_len' (s : List UInt8) (c : Int) : (offV s c).length ≤ s.length := by
  unfold offV
  have := offK_length s (s.length - 2) c
  omega
theorem glV_GB {t : List UInt8} {d : Doc} (ht : t.length ≤ 900) (hd : d.text.length ≤ 900) : GB (glV t d) := by
  refine ⟨by have := ofV_length t; rw [glV_length]; omega, fun g hg => ?_⟩
  obtain ⟨c, _, rfl⟩ := List.mem_map.1 hg
  refine ⟨by have := offV_len' d.text c; show (offV d.text c).length ≤ _; omega, fun y hy => ?_⟩
  obtain ⟨i, hi, _, rfl⟩ := offK_mem (show y ∈ offK d.text (d.text.length - 2) c from hy)
  omega
theorem ofV_pos {t : List UInt8} (ht : ¬ t.length < 3) : 0 < (ofV t).length := by
  rcases Nat.eq_zero_or_pos (ofV t).length with h | h
  · have h0 : ofV t = [] := List.eq_nil_of_length_eq_zero h
    have := (ofV_mem t (codeAt t 0)).2 ⟨0, by omega, rfl⟩
    rw [h0] at this; simp at this
  · exact h
theorem have_sub (l : List Doc) (c : Int) : ∀ d ∈ haveV l c, d ∈ l := fun d hd => (List.mem_filter.1 hd).1
theorem docsV_have (l : List Doc) (c : Int) : docsV (segV l).grams c = (haveV l c).map Doc.id := docsV_seg l c
theorem find29_all (l : List Doc) (t : List UInt8) : find29 (l.take l.length) t = find29 l t := by rw [List.take_length]
set_option maxRecDepth 20000 in
set_option maxHeartbeats 8000000 in
theorem Find_seg (l : List Doc) (t : List UInt8) (hl : IncBy Doc.id l) (h64 : l.length ≤ 64) (hx : ∀ d ∈ l, d.text.length ≤ 900) (ht : t.length ≤ 900) (hT : SegT (segV l)) : Spec1 Tryz.prog 29 [.agg (segV l).enc, .str t] (.sl 2 false (gramsHV (find29 l t))) := by
  have hof := ofV_length t
  refine Spec1.of_HT Tryz.func29 rfl (by rw [Tryz.ntmps29]; simp) rfl ?_
  rw [Tryz.ntmps29]
  refine HT.seq ?_
  refine HT.region ?_   -- R0
  simp (disch := first | omega | (simp <;> omega) | fail) [wrap_i64, wrap_u64, wrap_u8']
  refine HT.seq ?_
  refine HT.region ?_   -- R1
  simp (disch := first | omega | (simp <;> omega) | fail) [wrap_i64, wrap_u64, wrap_u8']
  refine HT.weaken (HS.le_own (t := 5) 200 62 2 _ (by decide) rfl (by decide)) ?_
  refine HT.seq ?_
  refine HT.seq ?_
  refine HT.region ?_   -- R2
  simp (disch := first | omega | (simp <;> omega) | fail) [wrap_i64, wrap_u64, wrap_u8']
  refine HT.cond' ?_   -- if 19
  simp (disch := first | omega | (simp <;> omega) | fail) [wrap_i64, wrap_u64, wrap_u8']
  refine ⟨fun h19 => ?_, fun h19 => ?_⟩
  · skip
    refine HT.seq ?_
    refine HT.seq ?_
    refine HT.region ?_   -- R3
    simp (disch := first | omega | (simp <;> omega) | fail) [wrap_i64, wrap_u64, wrap_u8', show (segV l).docs = l from rfl]
    refine HT.block ?_
    refine HT.loopK (fun k : {k : Nat // k ≤ l.length} => [.s 23 (i64 k), .s 5 (.ref 200), .o 200 (.row 62 2 (gramsHV (find29 (l.take k) t)))]) [1, 21, 22] [] (fun k => l.length - k) (⟨0, by omega⟩) ?_ ?_   -- block 0 turned [5, 23]
    · simp (disch := first | omega | (simp <;> omega) | fail) [wrap_i64, wrap_u64, wrap_u8', show find29 [] t = [] from rfl]
    rintro ⟨k, hk⟩
    simp (disch := first | omega | (simp <;> omega) | fail) [wrap_i64, wrap_u64, wrap_u8']
    refine HT.seq ?_
    refine HT.region ?_   -- R4
    simp (disch := first | omega | (simp <;> omega) | fail) [wrap_i64, wrap_u64, wrap_u8']
    refine HT.seq ?_
    refine HT.cond' ?_   -- if 24
    simp (disch := first | omega | (simp <;> omega) | fail) [wrap_i64, wrap_u64, wrap_u8']
    refine ⟨fun h24 => ?_, fun h24 => ?_⟩
    · skip
      have hk' : k < l.length := by omega
      have hxk := hx _ (List.getElem_mem hk')
      have hfl := find29_len l t k
      refine HT.skip ?_
      simp (disch := first | omega | (simp <;> omega) | fail) [wrap_i64, wrap_u64, wrap_u8']
      refine HT.seq ?_
      refine HT.block ?_
      refine HT.seq ?_
      refine HT.region ?_   -- R5
      simp (disch := first | omega | (simp <;> omega) | fail) [wrap_i64, wrap_u64, wrap_u8']
      refine HT.seq ?_
      refine HT.region ?_   -- R6
      simp (disch := first | omega | (simp <;> omega) | fail) [wrap_i64, wrap_u64, wrap_u8']
      refine stepK.mk (.call1f _ _ _ _ _ rfl Ty.hb59 rfl rfl (Find_spec l[k].text t true (by omega) (by omega)) rfl) ?_
      simp (disch := first | omega | (simp <;> omega) | fail) [wrap_i64, wrap_u64, wrap_u8', fd]
      refine HT.seq ?_
      refine HT.region ?_   -- R7
      simp (disch := first | omega | (simp <;> omega) | fail) [wrap_i64, wrap_u64, wrap_u8']
      refine HT.cond' ?_   -- if 33
      simp (disch := first | omega | (simp <;> omega) | fail) [wrap_i64, wrap_u64, wrap_u8']
      refine ⟨fun h33 => ?_, fun h33 => ?_⟩
      · skip
        have hne : ¬ findV (foldS l[k].text) (foldS t) = [] := by intro e; simp [e] at h33
        refine HT.region ?_   -- R8
        simp (disch := first | omega | (simp <;> omega) | fail) [wrap_i64, wrap_u64, wrap_u8']
        refine HT.region ?_   -- R9
        simp (disch := first | omega | (simp <;> omega) | fail) [wrap_i64, wrap_u64, wrap_u8']
        refine Round.mk' (⟨k + 1, by omega⟩) (by dsimp only; omega) rfl ?_
        simp (disch := first | omega | (simp <;> omega) | fail) [wrap_i64, wrap_u64, wrap_u8', find29_snoc l t hk', fd]
        all_goals first | (rw [if_neg hne]; done) | (rw [if_neg hne]; simp; done) | (rw [if_pos he]; done) | (rw [if_pos he]; simp; done)
      · skip
        have he : findV (foldS l[k].text) (foldS t) = [] := by first | exact h33 | simpa using h33 | (apply List.eq_nil_of_length_eq_zero; omega)
        refine HT.skip ?_
        simp (disch := first | omega | (simp <;> omega) | fail) [wrap_i64, wrap_u64, wrap_u8']
        refine HT.region ?_   -- R9
        simp (disch := first | omega | (simp <;> omega) | fail) [wrap_i64, wrap_u64, wrap_u8']
        refine Round.mk' (⟨k + 1, by omega⟩) (by dsimp only; omega) rfl ?_
        simp (disch := first | omega | (simp <;> omega) | fail) [wrap_i64, wrap_u64, wrap_u8', find29_snoc l t hk', fd]
        all_goals first | (rw [if_neg hne]; done) | (rw [if_neg hne]; simp; done) | (rw [if_pos he]; done) | (rw [if_pos he]; simp; done)
    · skip
      obtain rfl : k = l.length := by omega
      refine HT.exit ?_
      simp (disch := first | omega | (simp <;> omega) | fail) [wrap_i64, wrap_u64, wrap_u8']
      refine HT.seq ?_
      refine HT.region ?_   -- R10
      simp (disch := first | omega | (simp <;> omega) | fail) [wrap_i64, wrap_u64, wrap_u8']
      refine HT.ret ?_
      simp (disch := first | omega | (simp <;> omega) | fail) [wrap_i64, wrap_u64, wrap_u8', find29_all]
  · skip
    have h3 : ¬ t.length < 3 := by omega
    have hpos := ofV_pos h3
    have hdv := docsV_have l (ofV t)[0]
    have hml : (haveV l (ofV t)[0]).length ≤ l.length := List.length_filter_le _ _
    have hfin := find29_have hx h3 (List.getElem_mem hpos)
    refine HT.skip ?_
    simp (disch := first | omega | (simp <;> omega) | fail) [wrap_i64, wrap_u64, wrap_u8']
    refine HT.seq ?_
    refine HT.region ?_   -- R11
    simp (disch := first | omega | (simp <;> omega) | fail) [wrap_i64, wrap_u64, wrap_u8']
    refine stepK.mk (.call1f _ _ _ _ _ rfl Ty.hb60 rfl rfl (Codes_spec t (by omega)) rfl) ?_
    simp (disch := first | omega | (simp <;> omega) | fail) [wrap_i64, wrap_u64, wrap_u8']
    refine HT.seq ?_
    refine HT.seq ?_
    refine HT.draw [.batch [0, 1, 2, 3, 4, 5, 6]] (by kernel_rfl) ?_   -- R12
    simp (disch := first | omega | (simp <;> omega) | fail) [wrap_i64, wrap_u64, wrap_u8', hpos]
    refine stepK.mk (.call1 _ _ _ rfl Ty.hb23 rfl rfl (Docs_spec (segV l) (ofV t)[0] hT.1)) ?_
    simp (disch := first | omega | (simp <;> omega) | fail) [wrap_i64, wrap_u64, wrap_u8', hpos, hdv]
    refine HT.block ?_
    refine HT.loopK (fun k : {k : Nat // k ≤ (haveV l (ofV t)[0]).length} => [.s 51 (i64 k), .s 5 (.ref 200), .o 200 (.row 62 2 (gramsHV (find29 ((haveV l (ofV t)[0]).take k) t)))]) [1, 2, 9, 49, 50] [2] (fun k => (haveV l (ofV t)[0]).length - k) (⟨0, by omega⟩) ?_ ?_   -- block 2 turned [5, 51, 79, 80, 81]
    · simp (disch := first | omega | (simp <;> omega) | fail) [wrap_i64, wrap_u64, wrap_u8', show find29 [] t = [] from rfl]
    rintro ⟨k, hk⟩
    simp (disch := first | omega | (simp <;> omega) | fail) [wrap_i64, wrap_u64, wrap_u8']
    refine HT.seq ?_
    refine HT.region ?_   -- R13
    simp (disch := first | omega | (simp <;> omega) | fail) [wrap_i64, wrap_u64, wrap_u8']
    refine HT.seq ?_
    refine HT.cond' ?_   -- if 52
    simp (disch := first | omega | (simp <;> omega) | fail) [wrap_i64, wrap_u64, wrap_u8']
    refine ⟨fun h52 => ?_, fun h52 => ?_⟩
    · skip
      have hk' : k < (haveV l (ofV t)[0]).length := by omega
      have hmem := have_sub l (ofV t)[0] _ (List.getElem_mem hk')
      have hxk := hx _ hmem
      have hfl := find29_len (haveV l (ofV t)[0]) t k
      have hats := fun c => atsV_seg hl c hmem
      have hcd := cand_doc (t := t) hxk h3
      have hGB := glV_GB ht hxk
      refine HT.skip ?_
      simp (disch := first | omega | (simp <;> omega) | fail) [wrap_i64, wrap_u64, wrap_u8']
      refine HT.seq ?_
      refine HT.block ?_
      refine HT.seq ?_
      refine HT.region ?_   -- R14
      simp (disch := first | omega | (simp <;> omega) | fail) [wrap_i64, wrap_u64, wrap_u8']
      refine HT.seq ?_
      refine HT.region ?_   -- R15
      simp (disch := first | omega | (simp <;> omega) | fail) [wrap_i64, wrap_u64, wrap_u8']
      refine HT.weaken (HS.le_own (t := 12) 201 67 2 _ (by decide) rfl (by decide)) ?_
      refine HT.seq ?_
      refine HT.seq ?_
      refine HT.region ?_   -- R16
      simp (disch := first | omega | (simp <;> omega) | fail) [wrap_i64, wrap_u64, wrap_u8']
      refine HT.block ?_
      refine HT.loopK (fun j : {j : Nat // j ≤ (ofV t).length} => [.s 57 (i64 j), .s 12 (.ref 201), .o 201 (.row 67 2 (gramsHV ((glV t (haveV l (ofV t)[0])[k]).take j)))]) [1, 2, 5, 9, 11, 49, 50, 51, 55, 56, 79, 80, 81] [2, 200] (fun j => (ofV t).length - j) (⟨0, by omega⟩) ?_ ?_   -- block 4 turned [12, 57]
      · simp (disch := first | omega | (simp <;> omega) | fail) [wrap_i64, wrap_u64, wrap_u8']
      rintro ⟨j, hj⟩
      simp (disch := first | omega | (simp <;> omega) | fail) [wrap_i64, wrap_u64, wrap_u8']
      refine HT.seq ?_
      refine HT.region ?_   -- R17
      simp (disch := first | omega | (simp <;> omega) | fail) [wrap_i64, wrap_u64, wrap_u8']
      refine HT.seq ?_
      refine HT.cond' ?_   -- if 58
      simp (disch := first | omega | (simp <;> omega) | fail) [wrap_i64, wrap_u64, wrap_u8']
      refine ⟨fun h58 => ?_, fun h58 => ?_⟩
      · skip
        have hj' : j < (ofV t).length := by omega
        refine HT.skip ?_
        simp (disch := first | omega | (simp <;> omega) | fail) [wrap_i64, wrap_u64, wrap_u8']
        refine HT.seq ?_
        refine HT.block ?_
        refine HT.seq ?_
        refine HT.region ?_   -- R18
        simp (disch := first | omega | (simp <;> omega) | fail) [wrap_i64, wrap_u64, wrap_u8']
        refine HT.region ?_   -- R19
        simp (disch := first | omega | (simp <;> omega) | fail) [wrap_i64, wrap_u64, wrap_u8']
        refine stepK.mk (.call1f _ _ _ _ _ rfl Ty.hb25 rfl rfl (At_seg (segV l) (ofV t)[j] (haveV l (ofV t)[0])[k].id hT) rfl) ?_
        simp (disch := first | omega | (simp <;> omega) | fail) [wrap_i64, wrap_u64, wrap_u8', show (segV l).grams = gramsOf l from rfl, hats]
        refine HT.region ?_   -- R20
        simp (disch := first | omega | (simp <;> omega) | fail) [wrap_i64, wrap_u64, wrap_u8']
        refine Round.mk' (⟨j + 1, by omega⟩) (by dsimp only; omega) rfl ?_
        simp (disch := first | omega | (simp <;> omega) | fail) [wrap_i64, wrap_u64, wrap_u8', glV_succ t _ hj', show (segV l).grams = gramsOf l from rfl]
      · skip
        obtain rfl : j = (ofV t).length := by omega
        refine HT.exit ?_
        simp (disch := first | omega | (simp <;> omega) | fail) [wrap_i64, wrap_u64, wrap_u8']
        refine HT.weaken (HS.le_frzref (id := 201) (xr := .sl 2 false (gramsHV (glV t (haveV l (ofV t)[0])[k]))) (xm := .any) (by simp [glV_all])) ?_
        refine HT.seq ?_
        refine HT.region ?_   -- R21
        simp (disch := first | omega | (simp <;> omega) | fail) [wrap_i64, wrap_u64, wrap_u8']
        refine stepK.mk (.callTf _ _ _ _ _ rfl Ty.hb61 rfl rfl (Cand_spec false (glV t (haveV l (ofV t)[0])[k]) t hGB (by omega)) rfl) ?_
        simp (disch := first | omega | (simp <;> omega) | fail) [wrap_i64, wrap_u64, wrap_u8', show candV (glV t (haveV l (ofV t)[0])[k]) t = findV (foldS (haveV l (ofV t)[0])[k].text) (foldS t) from hcd, h3]
        refine HT.seq ?_
        refine HT.region ?_   -- R22
        simp (disch := first | omega | (simp <;> omega) | fail) [wrap_i64, wrap_u64, wrap_u8']
        refine HT.cond' ?_   -- if 82
        simp (disch := first | omega | (simp <;> omega) | fail) [wrap_i64, wrap_u64, wrap_u8']
        refine ⟨fun h82 => ?_, fun h82 => ?_⟩
        · skip
          have hne : ¬ findV (foldS (haveV l (ofV t)[0])[k].text) (foldS t) = [] := by intro e; simp [e] at h82
          refine HT.region ?_   -- R23
          simp (disch := first | omega | (simp <;> omega) | fail) [wrap_i64, wrap_u64, wrap_u8']
          refine HT.region ?_   -- R24
          simp (disch := first | omega | (simp <;> omega) | fail) [wrap_i64, wrap_u64, wrap_u8']
          refine Round.mk' (⟨k + 1, by omega⟩) (by dsimp only; omega) rfl ?_
          simp (disch := first | omega | (simp <;> omega) | fail) [wrap_i64, wrap_u64, wrap_u8', find29_snoc (haveV l (ofV t)[0]) t hk']
          all_goals first | (rw [if_neg hne]; done) | (rw [if_neg hne]; simp; done) | (rw [if_pos he]; done) | (rw [if_pos he]; simp; done)
        · skip
          have he : findV (foldS (haveV l (ofV t)[0])[k].text) (foldS t) = [] := by first | exact h82 | simpa using h82 | (apply List.eq_nil_of_length_eq_zero; omega)
          refine HT.skip ?_
          simp (disch := first | omega | (simp <;> omega) | fail) [wrap_i64, wrap_u64, wrap_u8']
          refine HT.region ?_   -- R24
          simp (disch := first | omega | (simp <;> omega) | fail) [wrap_i64, wrap_u64, wrap_u8']
          refine Round.mk' (⟨k + 1, by omega⟩) (by dsimp only; omega) rfl ?_
          simp (disch := first | omega | (simp <;> omega) | fail) [wrap_i64, wrap_u64, wrap_u8', find29_snoc (haveV l (ofV t)[0]) t hk']
          all_goals first | (rw [if_neg hne]; done) | (rw [if_neg hne]; simp; done) | (rw [if_pos he]; done) | (rw [if_pos he]; simp; done)
    · skip
      obtain rfl : k = (haveV l (ofV t)[0]).length := by omega
      refine HT.exit ?_
      simp (disch := first | omega | (simp <;> omega) | fail) [wrap_i64, wrap_u64, wrap_u8']
      refine HT.seq ?_
      refine HT.region ?_   -- R25
      simp (disch := first | omega | (simp <;> omega) | fail) [wrap_i64, wrap_u64, wrap_u8']
      refine HT.ret ?_
      simp (disch := first | omega | (simp <;> omega) | fail) [wrap_i64, wrap_u64, wrap_u8', find29_all, hfin]
def evalR (l : List Doc) (n : NeedT) : List Int := if validN n 1 = true then eval29 l n else []
theorem eval29_snoc (n : NeedT) {l : List Doc} {k : Nat} (hk : k < l.length) : eval29 (l.take (k + 1)) n = eval29 (l.take k) n ++ if holdsN n (ofV l[k].text) = true then [l[k].id] else [] := by
  unfold eval29
  rw [List.take_succ_eq_append_getElem hk, List.filter_append, List.map_append]
  congr 1
  by_cases h : holdsN n (ofV l[k].text) = true <;> simp [h]
theorem eval29_len (n : NeedT) (l : List Doc) (k : Nat) : (eval29 (l.take k) n).length ≤ l.length := by
  unfold eval29
  have h1 := List.length_filter_le (fun d : Doc => holdsN n (ofV d.text)) (l.take k)
  rw [List.length_take] at h1; rw [List.length_map]; omega
theorem eval29_all (n : NeedT) (l : List Doc) : eval29 (l.take l.length) n = eval29 l n := by rw [List.take_length]
end Go.Hv
set_option linter.unusedVariables false
set_option linter.unusedSimpArgs false
/- The law SegmentSizes, given alive (layer 29). -/
namespace Go.Hv
open Go Go.Hv Go.Proofs Go.RowKit
open Go.Proofs.YtlbmbnpknobjdaaGreatDoor
end Go.Hv
