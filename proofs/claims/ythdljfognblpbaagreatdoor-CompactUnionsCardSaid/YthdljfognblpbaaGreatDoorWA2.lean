import Derived.Test.YthdljfognblpbaaGreatDoorWA1
import Derived.Lib.ReflectliteSwap
import Derived.Lib.ReflectliteSlice
set_option linter.unusedVariables false
set_option linter.unusedSimpArgs false
namespace Go.Hv
open Go Go.Hv Go.Proofs
open Go.Proofs.YthdljfognblpbaaGreatDoor
@[simp] theorem gramsHV_drop (l : List Gram) (n : Nat) : (gramsHV l).drop n = gramsHV (l.drop n) := by simp [gramsHV]
@[simp] theorem postsHV_drop (l : List Post) (n : Nat) : (postsHV l).drop n = postsHV (l.drop n) := by simp [postsHV]
@[simp] theorem gramsHV_tail1 (v : Gram) (y : List Gram) : (List.take (y.length + 1) (gramsHV (v :: y))).tail = gramsHV y := by simp [gramsHV, List.take_of_length_le]
@[simp] theorem postsHV_tail1 (v : Post) (y : List Post) : (List.take (y.length + 1) (postsHV (v :: y))).tail = postsHV y := by simp [postsHV, List.take_of_length_le]
set_option maxHeartbeats 4000000 in
theorem mergeG_spec (a b : List Gram) (ha : a.length ≤ 400000) (hb : b.length ≤ 400000) : Spec1 Tryz.prog 53 [.sl 2 false (gramsHV a), .sl 2 false (gramsHV b), .fn (.func 54) [], .fn (.func 55) []] (.sl 2 false (gramsHV (mergeBy Gram.code bothG a b))) := by
  refine Spec1.of_HT Tryz.func53 rfl (by rw [Tryz.ntmps53]; simp) rfl ?_
  rw [Tryz.ntmps53]
  refine HT.seq ?_
  refine HT.region ?_   -- R0
  simp (disch := first | omega | (simp <;> omega) | fail) [wrap_i64, wrap_u64, wrap_u8']
  refine HT.seq ?_
  refine HT.region ?_   -- R1
  simp (disch := first | omega | (simp <;> omega) | fail) [wrap_i64, wrap_u64, wrap_u8']
  refine HT.weaken (HS.le_own (t := 9) 200 58 2 _ (by decide) rfl (by decide)) ?_
  refine HT.seq ?_
  refine HT.block ?_
  refine HT.loopK (fun k : {k : List Gram × List Gram × List Gram // k.2.2 ++ mergeBy Gram.code bothG k.1 k.2.1 = mergeBy Gram.code bothG a b ∧ k.2.2.length + k.1.length + k.2.1.length ≤ a.length + b.length} => [.s 0 (.sl 2 false (gramsHV k.1.1)), .s 1 (.sl 2 false (gramsHV k.1.2.1)), .s 9 (.ref 200), .o 200 (.row 58 2 (gramsHV k.1.2.2))]) [2, 3] [] (fun k => k.1.1.length + k.1.2.1.length) (⟨⟨a, b, []⟩, by simp⟩) ?_ ?_   -- block 0 turned [0, 1, 9, 14, 15, 16, 38, 39, 40, 41, 42, 43, 44, 45, 46, 47, 48, 49, 50, 51, 52, 53, 68, 69, 70, 71, 72, 73, 74, 75, 76, 77, 78]
  · simp (disch := first | omega | (simp <;> omega) | fail) [wrap_i64, wrap_u64, wrap_u8']
  rintro ⟨⟨x, y, o⟩, hh, hlen⟩
  simp (disch := first | omega | (simp <;> omega) | fail) [wrap_i64, wrap_u64, wrap_u8']
  refine HT.seq ?_
  refine HT.seq ?_
  dsimp only at hh hlen
  by_cases e0 : x = [] ∧ y = []
  · skip
    obtain ⟨rfl, rfl⟩ := e0
    have ho' : o = mergeBy Gram.code bothG a b := by simpa using hh
    refine HT.region ?_   -- R2
    simp (disch := first | omega | (simp <;> omega) | fail) [wrap_i64, wrap_u64, wrap_u8']
    refine HT.cond' ?_   -- if 17
    simp (disch := first | omega | (simp <;> omega) | fail) [wrap_i64, wrap_u64, wrap_u8']
    refine HT.exit ?_
    simp (disch := first | omega | (simp <;> omega) | fail) [wrap_i64, wrap_u64, wrap_u8']
    refine HT.seq ?_
    refine HT.region ?_   -- R8
    simp (disch := first | omega | (simp <;> omega) | fail) [wrap_i64, wrap_u64, wrap_u8']
    refine HT.ret ?_
    simp (disch := first | omega | (simp <;> omega) | fail) [wrap_i64, wrap_u64, wrap_u8', ho']
  by_cases e1 : x = []
  · skip
    subst e1
    obtain ⟨v, y', rfl⟩ := List.exists_cons_of_ne_nil (fun h => e0 ⟨rfl, h⟩)
    simp only [List.length_cons] at hlen
    refine HT.region ?_   -- R2
    simp (disch := first | omega | (simp <;> omega) | fail) [wrap_i64, wrap_u64, wrap_u8']
    refine HT.cond' ?_   -- if 17
    simp (disch := first | omega | (simp <;> omega) | fail) [wrap_i64, wrap_u64, wrap_u8']
    refine HT.skip ?_
    simp (disch := first | omega | (simp <;> omega) | fail) [wrap_i64, wrap_u64, wrap_u8']
    refine HT.block ?_
    refine HT.block ?_
    refine HT.seq ?_
    refine HT.draw [.batch [0, 1, 2, 3, 4, 5, 6, 7, 8, 9, 10, 11, 12, 13, 14, 15, 16, 17, 18, 19, 20, 21]] (by kernel_rfl) ?_   -- R4
    simp -dsimp (disch := first | omega | (simp <;> omega) | fail) [wrap_i64, wrap_u64, wrap_u8']
    refine HT.cond' ?_   -- if 33
    simp (disch := first | omega | (simp <;> omega) | fail) [wrap_i64, wrap_u64, wrap_u8']
    refine HT.seq ?_
    refine HT.draw [.batch [0, 1, 2, 3, 4, 5, 6, 7, 8, 9, 10, 11, 12, 13, 14, 15, 16]] (by kernel_rfl) ?_   -- R6
    simp -dsimp (disch := first | omega | (simp <;> omega) | fail) [wrap_i64, wrap_u64, wrap_u8']
    refine HT.cond' ?_   -- if 63
    simp (disch := first | omega | (simp <;> omega) | fail) [wrap_i64, wrap_u64, wrap_u8']
    refine HT.draw [.take 0, .take 1, .take 6, .take 7, .batch [2, 3, 4], .one 5, .batch [8, 9]] (by kernel_rfl) ?_   -- R7
    simp (disch := first | omega | (simp <;> omega) | fail) [wrap_i64, wrap_u64, wrap_u8']
    first | (have _t : u.code < v.code := e3; refine Round.mk' (⟨⟨x', v :: y', o ++ [u]⟩, by dsimp only; rw [← hh, mergeBy_cons, if_pos e3]; simp, by dsimp only at hlen ⊢; simp only [List.length_append, List.length_cons, List.length_nil] at hlen ⊢; omega⟩) (by simp) rfl ?_) | (have _t : v.code < u.code := e4; refine Round.mk' (⟨⟨u :: x', y', o ++ [v]⟩, by dsimp only; rw [← hh, mergeBy_cons, if_neg e3, if_pos e4]; simp, by dsimp only at hlen ⊢; simp only [List.length_append, List.length_cons, List.length_nil] at hlen ⊢; omega⟩) (by simp) rfl ?_) | (have _t : ¬ v.code < u.code := e4; refine Round.mk' (⟨⟨x', y', o ++ [bothG u v]⟩, by dsimp only; rw [← hh, mergeBy_cons, if_neg e3, if_neg e4]; simp, by dsimp only at hlen ⊢; simp only [List.length_append, List.length_cons, List.length_nil] at hlen ⊢; omega⟩) (by simp; omega) rfl ?_) | (have _t := u; refine Round.mk' (⟨⟨x', [], o ++ [u]⟩, by dsimp only; rw [← hh]; simp, by dsimp only at hlen ⊢; simp only [List.length_append, List.length_cons, List.length_nil] at hlen ⊢; omega⟩) (by simp) rfl ?_) | (refine Round.mk' (⟨⟨[], y', o ++ [v]⟩, by dsimp only; rw [← hh]; simp, by dsimp only at hlen ⊢; simp only [List.length_append, List.length_cons, List.length_nil] at hlen ⊢; omega⟩) (by simp) rfl ?_)
    simp (disch := first | omega | (simp <;> omega) | fail) [wrap_i64, wrap_u64, wrap_u8', gramsHV_snoc', bothG]
  obtain ⟨u, x', rfl⟩ := List.exists_cons_of_ne_nil e1
  by_cases e2 : y = []
  · skip
    subst e2
    simp only [List.length_cons] at hlen
    refine HT.region ?_   -- R2
    simp (disch := first | omega | (simp <;> omega) | fail) [wrap_i64, wrap_u64, wrap_u8']
    refine HT.cond' ?_   -- if 17
    simp (disch := first | omega | (simp <;> omega) | fail) [wrap_i64, wrap_u64, wrap_u8']
    refine HT.skip ?_
    simp (disch := first | omega | (simp <;> omega) | fail) [wrap_i64, wrap_u64, wrap_u8']
    refine HT.block ?_
    refine HT.block ?_
    refine HT.seq ?_
    refine HT.draw [.batch [0, 1, 2, 3, 4, 5, 6, 7, 8, 9, 10, 11, 12, 13, 14, 15, 16, 17, 18, 19, 20, 21]] (by kernel_rfl) ?_   -- R4
    simp -dsimp (disch := first | omega | (simp <;> omega) | fail) [wrap_i64, wrap_u64, wrap_u8']
    refine HT.cond' ?_   -- if 33
    simp (disch := first | omega | (simp <;> omega) | fail) [wrap_i64, wrap_u64, wrap_u8']
    refine HT.draw [.take 0, .take 1, .take 6, .take 7, .batch [2, 3, 4], .one 5, .batch [8, 9]] (by kernel_rfl) ?_   -- R5
    simp (disch := first | omega | (simp <;> omega) | fail) [wrap_i64, wrap_u64, wrap_u8']
    first | (have _t : u.code < v.code := e3; refine Round.mk' (⟨⟨x', v :: y', o ++ [u]⟩, by dsimp only; rw [← hh, mergeBy_cons, if_pos e3]; simp, by dsimp only at hlen ⊢; simp only [List.length_append, List.length_cons, List.length_nil] at hlen ⊢; omega⟩) (by simp) rfl ?_) | (have _t : v.code < u.code := e4; refine Round.mk' (⟨⟨u :: x', y', o ++ [v]⟩, by dsimp only; rw [← hh, mergeBy_cons, if_neg e3, if_pos e4]; simp, by dsimp only at hlen ⊢; simp only [List.length_append, List.length_cons, List.length_nil] at hlen ⊢; omega⟩) (by simp) rfl ?_) | (have _t : ¬ v.code < u.code := e4; refine Round.mk' (⟨⟨x', y', o ++ [bothG u v]⟩, by dsimp only; rw [← hh, mergeBy_cons, if_neg e3, if_neg e4]; simp, by dsimp only at hlen ⊢; simp only [List.length_append, List.length_cons, List.length_nil] at hlen ⊢; omega⟩) (by simp; omega) rfl ?_) | (have _t := u; refine Round.mk' (⟨⟨x', [], o ++ [u]⟩, by dsimp only; rw [← hh]; simp, by dsimp only at hlen ⊢; simp only [List.length_append, List.length_cons, List.length_nil] at hlen ⊢; omega⟩) (by simp) rfl ?_) | (refine Round.mk' (⟨⟨[], y', o ++ [v]⟩, by dsimp only; rw [← hh]; simp, by dsimp only at hlen ⊢; simp only [List.length_append, List.length_cons, List.length_nil] at hlen ⊢; omega⟩) (by simp) rfl ?_)
    simp (disch := first | omega | (simp <;> omega) | fail) [wrap_i64, wrap_u64, wrap_u8', gramsHV_snoc', bothG]
  obtain ⟨v, y', rfl⟩ := List.exists_cons_of_ne_nil e2
  simp only [List.length_cons] at hlen
  by_cases e3 : u.code < v.code
  · skip
    refine HT.region ?_   -- R2
    simp (disch := first | omega | (simp <;> omega) | fail) [wrap_i64, wrap_u64, wrap_u8']
    refine HT.cond' ?_   -- if 17
    simp (disch := first | omega | (simp <;> omega) | fail) [wrap_i64, wrap_u64, wrap_u8']
    refine HT.skip ?_
    simp (disch := first | omega | (simp <;> omega) | fail) [wrap_i64, wrap_u64, wrap_u8']
    refine HT.block ?_
    refine HT.block ?_
    refine HT.seq ?_
    refine HT.draw [.batch [0, 1, 2, 3, 4, 5, 6, 7, 8, 9, 10, 11, 12, 13, 14, 15, 16, 17, 18, 19, 20, 21]] (by kernel_rfl) ?_   -- R4
    simp -dsimp (disch := first | omega | (simp <;> omega) | fail) [wrap_i64, wrap_u64, wrap_u8']
    refine stepK.mk (.call1 _ _ _ rfl Ty.hb54 rfl rfl (UnionC21_spec u)) ?_
    simp -dsimp (disch := first | omega | (simp <;> omega) | fail) [wrap_i64, wrap_u64, wrap_u8']
    refine stepK.mk (.call1 _ _ _ rfl Ty.hb54 rfl rfl (UnionC21_spec v)) ?_
    simp -dsimp (disch := first | omega | (simp <;> omega) | fail) [wrap_i64, wrap_u64, wrap_u8']
    refine HT.cond' ?_   -- if 33
    simp (disch := first | omega | (simp <;> omega) | fail) [wrap_i64, wrap_u64, wrap_u8']
    refine HT.draw [.take 0, .take 1, .take 6, .take 7, .batch [2, 3, 4], .one 5, .batch [8, 9]] (by kernel_rfl) ?_   -- R5
    simp (disch := first | omega | (simp <;> omega) | fail) [wrap_i64, wrap_u64, wrap_u8']
    first | (have _t : u.code < v.code := e3; refine Round.mk' (⟨⟨x', v :: y', o ++ [u]⟩, by dsimp only; rw [← hh, mergeBy_cons, if_pos e3]; simp, by dsimp only at hlen ⊢; simp only [List.length_append, List.length_cons, List.length_nil] at hlen ⊢; omega⟩) (by simp) rfl ?_) | (have _t : v.code < u.code := e4; refine Round.mk' (⟨⟨u :: x', y', o ++ [v]⟩, by dsimp only; rw [← hh, mergeBy_cons, if_neg e3, if_pos e4]; simp, by dsimp only at hlen ⊢; simp only [List.length_append, List.length_cons, List.length_nil] at hlen ⊢; omega⟩) (by simp) rfl ?_) | (have _t : ¬ v.code < u.code := e4; refine Round.mk' (⟨⟨x', y', o ++ [bothG u v]⟩, by dsimp only; rw [← hh, mergeBy_cons, if_neg e3, if_neg e4]; simp, by dsimp only at hlen ⊢; simp only [List.length_append, List.length_cons, List.length_nil] at hlen ⊢; omega⟩) (by simp; omega) rfl ?_) | (have _t := u; refine Round.mk' (⟨⟨x', [], o ++ [u]⟩, by dsimp only; rw [← hh]; simp, by dsimp only at hlen ⊢; simp only [List.length_append, List.length_cons, List.length_nil] at hlen ⊢; omega⟩) (by simp) rfl ?_) | (refine Round.mk' (⟨⟨[], y', o ++ [v]⟩, by dsimp only; rw [← hh]; simp, by dsimp only at hlen ⊢; simp only [List.length_append, List.length_cons, List.length_nil] at hlen ⊢; omega⟩) (by simp) rfl ?_)
    simp (disch := first | omega | (simp <;> omega) | fail) [wrap_i64, wrap_u64, wrap_u8', gramsHV_snoc', bothG]
  by_cases e4 : v.code < u.code
  · skip
    refine HT.region ?_   -- R2
    simp (disch := first | omega | (simp <;> omega) | fail) [wrap_i64, wrap_u64, wrap_u8']
    refine HT.cond' ?_   -- if 17
    simp (disch := first | omega | (simp <;> omega) | fail) [wrap_i64, wrap_u64, wrap_u8']
    refine HT.skip ?_
    simp (disch := first | omega | (simp <;> omega) | fail) [wrap_i64, wrap_u64, wrap_u8']
    refine HT.block ?_
    refine HT.block ?_
    refine HT.seq ?_
    refine HT.draw [.batch [0, 1, 2, 3, 4, 5, 6, 7, 8, 9, 10, 11, 12, 13, 14, 15, 16, 17, 18, 19, 20, 21]] (by kernel_rfl) ?_   -- R4
    simp -dsimp (disch := first | omega | (simp <;> omega) | fail) [wrap_i64, wrap_u64, wrap_u8']
    refine stepK.mk (.call1 _ _ _ rfl Ty.hb54 rfl rfl (UnionC21_spec u)) ?_
    simp -dsimp (disch := first | omega | (simp <;> omega) | fail) [wrap_i64, wrap_u64, wrap_u8']
    refine stepK.mk (.call1 _ _ _ rfl Ty.hb54 rfl rfl (UnionC21_spec v)) ?_
    simp -dsimp (disch := first | omega | (simp <;> omega) | fail) [wrap_i64, wrap_u64, wrap_u8']
    refine HT.cond' ?_   -- if 33
    simp (disch := first | omega | (simp <;> omega) | fail) [wrap_i64, wrap_u64, wrap_u8']
    refine HT.seq ?_
    refine HT.draw [.batch [0, 1, 2, 3, 4, 5, 6, 7, 8, 9, 10, 11, 12, 13, 14, 15, 16]] (by kernel_rfl) ?_   -- R6
    simp -dsimp (disch := first | omega | (simp <;> omega) | fail) [wrap_i64, wrap_u64, wrap_u8']
    refine stepK.mk (.call1 _ _ _ rfl Ty.hb54 rfl rfl (UnionC21_spec v)) ?_
    simp -dsimp (disch := first | omega | (simp <;> omega) | fail) [wrap_i64, wrap_u64, wrap_u8']
    refine stepK.mk (.call1 _ _ _ rfl Ty.hb54 rfl rfl (UnionC21_spec u)) ?_
    simp -dsimp (disch := first | omega | (simp <;> omega) | fail) [wrap_i64, wrap_u64, wrap_u8']
    refine HT.cond' ?_   -- if 63
    simp (disch := first | omega | (simp <;> omega) | fail) [wrap_i64, wrap_u64, wrap_u8']
    refine HT.draw [.take 0, .take 1, .take 6, .take 7, .batch [2, 3, 4], .one 5, .batch [8, 9]] (by kernel_rfl) ?_   -- R7
    simp (disch := first | omega | (simp <;> omega) | fail) [wrap_i64, wrap_u64, wrap_u8']
    first | (have _t : u.code < v.code := e3; refine Round.mk' (⟨⟨x', v :: y', o ++ [u]⟩, by dsimp only; rw [← hh, mergeBy_cons, if_pos e3]; simp, by dsimp only at hlen ⊢; simp only [List.length_append, List.length_cons, List.length_nil] at hlen ⊢; omega⟩) (by simp) rfl ?_) | (have _t : v.code < u.code := e4; refine Round.mk' (⟨⟨u :: x', y', o ++ [v]⟩, by dsimp only; rw [← hh, mergeBy_cons, if_neg e3, if_pos e4]; simp, by dsimp only at hlen ⊢; simp only [List.length_append, List.length_cons, List.length_nil] at hlen ⊢; omega⟩) (by simp) rfl ?_) | (have _t : ¬ v.code < u.code := e4; refine Round.mk' (⟨⟨x', y', o ++ [bothG u v]⟩, by dsimp only; rw [← hh, mergeBy_cons, if_neg e3, if_neg e4]; simp, by dsimp only at hlen ⊢; simp only [List.length_append, List.length_cons, List.length_nil] at hlen ⊢; omega⟩) (by simp; omega) rfl ?_) | (have _t := u; refine Round.mk' (⟨⟨x', [], o ++ [u]⟩, by dsimp only; rw [← hh]; simp, by dsimp only at hlen ⊢; simp only [List.length_append, List.length_cons, List.length_nil] at hlen ⊢; omega⟩) (by simp) rfl ?_) | (refine Round.mk' (⟨⟨[], y', o ++ [v]⟩, by dsimp only; rw [← hh]; simp, by dsimp only at hlen ⊢; simp only [List.length_append, List.length_cons, List.length_nil] at hlen ⊢; omega⟩) (by simp) rfl ?_)
    simp (disch := first | omega | (simp <;> omega) | fail) [wrap_i64, wrap_u64, wrap_u8', gramsHV_snoc', bothG]
  refine HT.region ?_   -- R2
  simp (disch := first | omega | (simp <;> omega) | fail) [wrap_i64, wrap_u64, wrap_u8']
  refine HT.cond' ?_   -- if 17
  simp (disch := first | omega | (simp <;> omega) | fail) [wrap_i64, wrap_u64, wrap_u8']
  refine HT.skip ?_
  simp (disch := first | omega | (simp <;> omega) | fail) [wrap_i64, wrap_u64, wrap_u8']
  refine HT.block ?_
  refine HT.block ?_
  refine HT.seq ?_
  refine HT.draw [.batch [0, 1, 2, 3, 4, 5, 6, 7, 8, 9, 10, 11, 12, 13, 14, 15, 16, 17, 18, 19, 20, 21]] (by kernel_rfl) ?_   -- R4
  simp -dsimp (disch := first | omega | (simp <;> omega) | fail) [wrap_i64, wrap_u64, wrap_u8']
  refine stepK.mk (.call1 _ _ _ rfl Ty.hb54 rfl rfl (UnionC21_spec u)) ?_
  simp -dsimp (disch := first | omega | (simp <;> omega) | fail) [wrap_i64, wrap_u64, wrap_u8']
  refine stepK.mk (.call1 _ _ _ rfl Ty.hb54 rfl rfl (UnionC21_spec v)) ?_
  simp -dsimp (disch := first | omega | (simp <;> omega) | fail) [wrap_i64, wrap_u64, wrap_u8']
  refine HT.cond' ?_   -- if 33
  simp (disch := first | omega | (simp <;> omega) | fail) [wrap_i64, wrap_u64, wrap_u8']
  refine HT.seq ?_
  refine HT.draw [.batch [0, 1, 2, 3, 4, 5, 6, 7, 8, 9, 10, 11, 12, 13, 14, 15, 16]] (by kernel_rfl) ?_   -- R6
  simp -dsimp (disch := first | omega | (simp <;> omega) | fail) [wrap_i64, wrap_u64, wrap_u8']
  refine stepK.mk (.call1 _ _ _ rfl Ty.hb54 rfl rfl (UnionC21_spec v)) ?_
  simp -dsimp (disch := first | omega | (simp <;> omega) | fail) [wrap_i64, wrap_u64, wrap_u8']
  refine stepK.mk (.call1 _ _ _ rfl Ty.hb54 rfl rfl (UnionC21_spec u)) ?_
  simp -dsimp (disch := first | omega | (simp <;> omega) | fail) [wrap_i64, wrap_u64, wrap_u8']
  refine HT.cond' ?_   -- if 63
  simp (disch := first | omega | (simp <;> omega) | fail) [wrap_i64, wrap_u64, wrap_u8']
  refine HT.draw [.take 0, .take 1, .take 2, .take 5, .take 11, .take 12, .take 13, .take 14, .batch [3, 4, 6, 7, 8, 9], .one 10, .batch [15, 16, 17]] (by kernel_rfl) ?_   -- R3
  simp (disch := first | omega | (simp <;> omega) | fail) [wrap_i64, wrap_u64, wrap_u8']
  refine stepK.mk (.call1 _ _ _ rfl Ty.hb55 rfl rfl (UnionC22_spec u v)) ?_
  simp (disch := first | omega | (simp <;> omega) | fail) [wrap_i64, wrap_u64, wrap_u8']
  first | (have _t : u.code < v.code := e3; refine Round.mk' (⟨⟨x', v :: y', o ++ [u]⟩, by dsimp only; rw [← hh, mergeBy_cons, if_pos e3]; simp, by dsimp only at hlen ⊢; simp only [List.length_append, List.length_cons, List.length_nil] at hlen ⊢; omega⟩) (by simp) rfl ?_) | (have _t : v.code < u.code := e4; refine Round.mk' (⟨⟨u :: x', y', o ++ [v]⟩, by dsimp only; rw [← hh, mergeBy_cons, if_neg e3, if_pos e4]; simp, by dsimp only at hlen ⊢; simp only [List.length_append, List.length_cons, List.length_nil] at hlen ⊢; omega⟩) (by simp) rfl ?_) | (have _t : ¬ v.code < u.code := e4; refine Round.mk' (⟨⟨x', y', o ++ [bothG u v]⟩, by dsimp only; rw [← hh, mergeBy_cons, if_neg e3, if_neg e4]; simp, by dsimp only at hlen ⊢; simp only [List.length_append, List.length_cons, List.length_nil] at hlen ⊢; omega⟩) (by simp; omega) rfl ?_) | (have _t := u; refine Round.mk' (⟨⟨x', [], o ++ [u]⟩, by dsimp only; rw [← hh]; simp, by dsimp only at hlen ⊢; simp only [List.length_append, List.length_cons, List.length_nil] at hlen ⊢; omega⟩) (by simp) rfl ?_) | (refine Round.mk' (⟨⟨[], y', o ++ [v]⟩, by dsimp only; rw [← hh]; simp, by dsimp only at hlen ⊢; simp only [List.length_append, List.length_cons, List.length_nil] at hlen ⊢; omega⟩) (by simp) rfl ?_)
  simp (disch := first | omega | (simp <;> omega) | fail) [wrap_i64, wrap_u64, wrap_u8', gramsHV_snoc', bothG]
theorem UnionC2_spec (p q : Post) (hp : p.docs.length ≤ 400000) (hq : q.docs.length ≤ 400000) : Spec1 Tryz.prog 52 [.agg p.enc, .agg q.enc] (.agg (bothP p q).enc) := by
  refine Spec1.of_HT Tryz.func52 rfl (by rw [Tryz.ntmps52]; simp) rfl ?_
  rw [Tryz.ntmps52]
  refine HT.seq ?_
  refine HT.region ?_   -- R0
  simp (disch := first | omega | (simp <;> omega) | fail) [wrap_i64, wrap_u64, wrap_u8']
  refine HT.seq ?_
  refine HT.region ?_   -- R1
  simp (disch := first | omega | (simp <;> omega) | fail) [wrap_i64, wrap_u64, wrap_u8']
  refine stepK.mk (.call1f _ _ _ _ _ rfl Ty.hb53 rfl rfl (mergeG_spec p.docs q.docs hp hq) rfl) ?_
  simp (disch := first | omega | (simp <;> omega) | fail) [wrap_i64, wrap_u64, wrap_u8']
  refine HT.seq ?_
  refine HT.region ?_   -- R2
  simp (disch := first | omega | (simp <;> omega) | fail) [wrap_i64, wrap_u64, wrap_u8']
  refine HT.ret ?_
  simp (disch := first | omega | (simp <;> omega) | fail) [wrap_i64, wrap_u64, wrap_u8', bothP]
set_option maxHeartbeats 4000000 in
theorem mergeP_spec (a b : List Post) (ha : a.length ≤ 400000) (hb : b.length ≤ 400000) (hA : ∀ p ∈ a, p.docs.length ≤ 400000) (hB : ∀ p ∈ b, p.docs.length ≤ 400000) : Spec1 Tryz.prog 50 [.sl 2 false (postsHV a), .sl 2 false (postsHV b), .fn (.func 51) [], .fn (.func 52) []] (.sl 2 false (postsHV (mergeBy Post.code bothP a b))) := by
  refine Spec1.of_HT Tryz.func50 rfl (by rw [Tryz.ntmps50]; simp) rfl ?_
  rw [Tryz.ntmps50]
  refine HT.seq ?_
  refine HT.region ?_   -- R0
  simp (disch := first | omega | (simp <;> omega) | fail) [wrap_i64, wrap_u64, wrap_u8']
  refine HT.seq ?_
  refine HT.region ?_   -- R1
  simp (disch := first | omega | (simp <;> omega) | fail) [wrap_i64, wrap_u64, wrap_u8']
  refine HT.weaken (HS.le_own (t := 9) 200 56 2 _ (by decide) rfl (by decide)) ?_
  refine HT.seq ?_
  refine HT.block ?_
  refine HT.loopK (fun k : {k : List Post × List Post × List Post // k.2.2 ++ mergeBy Post.code bothP k.1 k.2.1 = mergeBy Post.code bothP a b ∧ k.2.2.length + k.1.length + k.2.1.length ≤ a.length + b.length ∧ (∀ p ∈ k.1, p.docs.length ≤ 400000) ∧ ∀ p ∈ k.2.1, p.docs.length ≤ 400000} => [.s 0 (.sl 2 false (postsHV k.1.1)), .s 1 (.sl 2 false (postsHV k.1.2.1)), .s 9 (.ref 200), .o 200 (.row 56 2 (postsHV k.1.2.2))]) [2, 3] [] (fun k => k.1.1.length + k.1.2.1.length) (⟨⟨a, b, []⟩, by simp, by simp, hA, hB⟩) ?_ ?_   -- block 0 turned [0, 1, 9, 14, 15, 16, 38, 39, 40, 41, 42, 43, 44, 45, 46, 47, 48, 49, 50, 51, 52, 53, 68, 69, 70, 71, 72, 73, 74, 75, 76, 77, 78]
  · simp (disch := first | omega | (simp <;> omega) | fail) [wrap_i64, wrap_u64, wrap_u8']
  rintro ⟨⟨x, y, o⟩, hh, hlen, hlA, hlB⟩
  simp (disch := first | omega | (simp <;> omega) | fail) [wrap_i64, wrap_u64, wrap_u8']
  refine HT.seq ?_
  refine HT.seq ?_
  dsimp only at hh hlen hlA hlB
  by_cases e0 : x = [] ∧ y = []
  · skip
    obtain ⟨rfl, rfl⟩ := e0
    have ho' : o = mergeBy Post.code bothP a b := by simpa using hh
    refine HT.region ?_   -- R2
    simp (disch := first | omega | (simp <;> omega) | fail) [wrap_i64, wrap_u64, wrap_u8']
    refine HT.cond' ?_   -- if 17
    simp (disch := first | omega | (simp <;> omega) | fail) [wrap_i64, wrap_u64, wrap_u8']
    refine HT.exit ?_
    simp (disch := first | omega | (simp <;> omega) | fail) [wrap_i64, wrap_u64, wrap_u8']
    refine HT.seq ?_
    refine HT.region ?_   -- R8
    simp (disch := first | omega | (simp <;> omega) | fail) [wrap_i64, wrap_u64, wrap_u8']
    refine HT.ret ?_
    simp (disch := first | omega | (simp <;> omega) | fail) [wrap_i64, wrap_u64, wrap_u8', ho']
  by_cases e1 : x = []
  · skip
    subst e1
    obtain ⟨v, y', rfl⟩ := List.exists_cons_of_ne_nil (fun h => e0 ⟨rfl, h⟩)
    simp only [List.length_cons] at hlen
    refine HT.region ?_   -- R2
    simp (disch := first | omega | (simp <;> omega) | fail) [wrap_i64, wrap_u64, wrap_u8']
    refine HT.cond' ?_   -- if 17
    simp (disch := first | omega | (simp <;> omega) | fail) [wrap_i64, wrap_u64, wrap_u8']
    refine HT.skip ?_
    simp (disch := first | omega | (simp <;> omega) | fail) [wrap_i64, wrap_u64, wrap_u8']
    refine HT.block ?_
    refine HT.block ?_
    refine HT.seq ?_
    refine HT.draw [.batch [0, 1, 2, 3, 4, 5, 6, 7, 8, 9, 10, 11, 12, 13, 14, 15, 16, 17, 18, 19, 20, 21]] (by kernel_rfl) ?_   -- R4
    simp -dsimp (disch := first | omega | (simp <;> omega) | fail) [wrap_i64, wrap_u64, wrap_u8']
    refine HT.cond' ?_   -- if 33
    simp (disch := first | omega | (simp <;> omega) | fail) [wrap_i64, wrap_u64, wrap_u8']
    refine HT.seq ?_
    refine HT.draw [.batch [0, 1, 2, 3, 4, 5, 6, 7, 8, 9, 10, 11, 12, 13, 14, 15, 16]] (by kernel_rfl) ?_   -- R6
    simp -dsimp (disch := first | omega | (simp <;> omega) | fail) [wrap_i64, wrap_u64, wrap_u8']
    refine HT.cond' ?_   -- if 63
    simp (disch := first | omega | (simp <;> omega) | fail) [wrap_i64, wrap_u64, wrap_u8']
    refine HT.draw [.take 0, .take 1, .take 6, .take 7, .batch [2, 3, 4], .one 5, .batch [8, 9]] (by kernel_rfl) ?_   -- R7
    simp (disch := first | omega | (simp <;> omega) | fail) [wrap_i64, wrap_u64, wrap_u8']
    first | (have _t : u.code < v.code := e3; refine Round.mk' (⟨⟨x', v :: y', o ++ [u]⟩, by dsimp only; rw [← hh, mergeBy_cons, if_pos e3]; simp, by dsimp only at hlen ⊢; simp only [List.length_append, List.length_cons, List.length_nil] at hlen ⊢; omega, fun p hp => hlA p (by first | exact List.mem_cons_of_mem _ hp | exact hp | (simp at hp; done)), fun p hp => hlB p (by first | exact List.mem_cons_of_mem _ hp | exact hp | (simp at hp; done))⟩) (by simp) rfl ?_) | (have _t : v.code < u.code := e4; refine Round.mk' (⟨⟨u :: x', y', o ++ [v]⟩, by dsimp only; rw [← hh, mergeBy_cons, if_neg e3, if_pos e4]; simp, by dsimp only at hlen ⊢; simp only [List.length_append, List.length_cons, List.length_nil] at hlen ⊢; omega, fun p hp => hlA p (by first | exact List.mem_cons_of_mem _ hp | exact hp | (simp at hp; done)), fun p hp => hlB p (by first | exact List.mem_cons_of_mem _ hp | exact hp | (simp at hp; done))⟩) (by simp) rfl ?_) | (have _t : ¬ v.code < u.code := e4; refine Round.mk' (⟨⟨x', y', o ++ [bothP u v]⟩, by dsimp only; rw [← hh, mergeBy_cons, if_neg e3, if_neg e4]; simp, by dsimp only at hlen ⊢; simp only [List.length_append, List.length_cons, List.length_nil] at hlen ⊢; omega, fun p hp => hlA p (by first | exact List.mem_cons_of_mem _ hp | exact hp | (simp at hp; done)), fun p hp => hlB p (by first | exact List.mem_cons_of_mem _ hp | exact hp | (simp at hp; done))⟩) (by simp; omega) rfl ?_) | (have _t := u; refine Round.mk' (⟨⟨x', [], o ++ [u]⟩, by dsimp only; rw [← hh]; simp, by dsimp only at hlen ⊢; simp only [List.length_append, List.length_cons, List.length_nil] at hlen ⊢; omega, fun p hp => hlA p (by first | exact List.mem_cons_of_mem _ hp | exact hp | (simp at hp; done)), fun p hp => hlB p (by first | exact List.mem_cons_of_mem _ hp | exact hp | (simp at hp; done))⟩) (by simp) rfl ?_) | (refine Round.mk' (⟨⟨[], y', o ++ [v]⟩, by dsimp only; rw [← hh]; simp, by dsimp only at hlen ⊢; simp only [List.length_append, List.length_cons, List.length_nil] at hlen ⊢; omega, fun p hp => hlA p (by first | exact List.mem_cons_of_mem _ hp | exact hp | (simp at hp; done)), fun p hp => hlB p (by first | exact List.mem_cons_of_mem _ hp | exact hp | (simp at hp; done))⟩) (by simp) rfl ?_)
    simp (disch := first | omega | (simp <;> omega) | fail) [wrap_i64, wrap_u64, wrap_u8', postsHV_snoc', bothP]
  obtain ⟨u, x', rfl⟩ := List.exists_cons_of_ne_nil e1
  by_cases e2 : y = []
  · skip
    subst e2
    simp only [List.length_cons] at hlen
    refine HT.region ?_   -- R2
    simp (disch := first | omega | (simp <;> omega) | fail) [wrap_i64, wrap_u64, wrap_u8']
    refine HT.cond' ?_   -- if 17
    simp (disch := first | omega | (simp <;> omega) | fail) [wrap_i64, wrap_u64, wrap_u8']
    refine HT.skip ?_
    simp (disch := first | omega | (simp <;> omega) | fail) [wrap_i64, wrap_u64, wrap_u8']
    refine HT.block ?_
    refine HT.block ?_
    refine HT.seq ?_
    refine HT.draw [.batch [0, 1, 2, 3, 4, 5, 6, 7, 8, 9, 10, 11, 12, 13, 14, 15, 16, 17, 18, 19, 20, 21]] (by kernel_rfl) ?_   -- R4
    simp -dsimp (disch := first | omega | (simp <;> omega) | fail) [wrap_i64, wrap_u64, wrap_u8']
    refine HT.cond' ?_   -- if 33
    simp (disch := first | omega | (simp <;> omega) | fail) [wrap_i64, wrap_u64, wrap_u8']
    refine HT.draw [.take 0, .take 1, .take 6, .take 7, .batch [2, 3, 4], .one 5, .batch [8, 9]] (by kernel_rfl) ?_   -- R5
    simp (disch := first | omega | (simp <;> omega) | fail) [wrap_i64, wrap_u64, wrap_u8']
    first | (have _t : u.code < v.code := e3; refine Round.mk' (⟨⟨x', v :: y', o ++ [u]⟩, by dsimp only; rw [← hh, mergeBy_cons, if_pos e3]; simp, by dsimp only at hlen ⊢; simp only [List.length_append, List.length_cons, List.length_nil] at hlen ⊢; omega, fun p hp => hlA p (by first | exact List.mem_cons_of_mem _ hp | exact hp | (simp at hp; done)), fun p hp => hlB p (by first | exact List.mem_cons_of_mem _ hp | exact hp | (simp at hp; done))⟩) (by simp) rfl ?_) | (have _t : v.code < u.code := e4; refine Round.mk' (⟨⟨u :: x', y', o ++ [v]⟩, by dsimp only; rw [← hh, mergeBy_cons, if_neg e3, if_pos e4]; simp, by dsimp only at hlen ⊢; simp only [List.length_append, List.length_cons, List.length_nil] at hlen ⊢; omega, fun p hp => hlA p (by first | exact List.mem_cons_of_mem _ hp | exact hp | (simp at hp; done)), fun p hp => hlB p (by first | exact List.mem_cons_of_mem _ hp | exact hp | (simp at hp; done))⟩) (by simp) rfl ?_) | (have _t : ¬ v.code < u.code := e4; refine Round.mk' (⟨⟨x', y', o ++ [bothP u v]⟩, by dsimp only; rw [← hh, mergeBy_cons, if_neg e3, if_neg e4]; simp, by dsimp only at hlen ⊢; simp only [List.length_append, List.length_cons, List.length_nil] at hlen ⊢; omega, fun p hp => hlA p (by first | exact List.mem_cons_of_mem _ hp | exact hp | (simp at hp; done)), fun p hp => hlB p (by first | exact List.mem_cons_of_mem _ hp | exact hp | (simp at hp; done))⟩) (by simp; omega) rfl ?_) | (have _t := u; refine Round.mk' (⟨⟨x', [], o ++ [u]⟩, by dsimp only; rw [← hh]; simp, by dsimp only at hlen ⊢; simp only [List.length_append, List.length_cons, List.length_nil] at hlen ⊢; omega, fun p hp => hlA p (by first | exact List.mem_cons_of_mem _ hp | exact hp | (simp at hp; done)), fun p hp => hlB p (by first | exact List.mem_cons_of_mem _ hp | exact hp | (simp at hp; done))⟩) (by simp) rfl ?_) | (refine Round.mk' (⟨⟨[], y', o ++ [v]⟩, by dsimp only; rw [← hh]; simp, by dsimp only at hlen ⊢; simp only [List.length_append, List.length_cons, List.length_nil] at hlen ⊢; omega, fun p hp => hlA p (by first | exact List.mem_cons_of_mem _ hp | exact hp | (simp at hp; done)), fun p hp => hlB p (by first | exact List.mem_cons_of_mem _ hp | exact hp | (simp at hp; done))⟩) (by simp) rfl ?_)
    simp (disch := first | omega | (simp <;> omega) | fail) [wrap_i64, wrap_u64, wrap_u8', postsHV_snoc', bothP]
  obtain ⟨v, y', rfl⟩ := List.exists_cons_of_ne_nil e2
  simp only [List.length_cons] at hlen
  by_cases e3 : u.code < v.code
  · skip
    refine HT.region ?_   -- R2
    simp (disch := first | omega | (simp <;> omega) | fail) [wrap_i64, wrap_u64, wrap_u8']
    refine HT.cond' ?_   -- if 17
    simp (disch := first | omega | (simp <;> omega) | fail) [wrap_i64, wrap_u64, wrap_u8']
    refine HT.skip ?_
    simp (disch := first | omega | (simp <;> omega) | fail) [wrap_i64, wrap_u64, wrap_u8']
    refine HT.block ?_
    refine HT.block ?_
    refine HT.seq ?_
    refine HT.draw [.batch [0, 1, 2, 3, 4, 5, 6, 7, 8, 9, 10, 11, 12, 13, 14, 15, 16, 17, 18, 19, 20, 21]] (by kernel_rfl) ?_   -- R4
    simp -dsimp (disch := first | omega | (simp <;> omega) | fail) [wrap_i64, wrap_u64, wrap_u8']
    refine stepK.mk (.call1 _ _ _ rfl Ty.hb51 rfl rfl (UnionC1_spec u)) ?_
    simp -dsimp (disch := first | omega | (simp <;> omega) | fail) [wrap_i64, wrap_u64, wrap_u8']
    refine stepK.mk (.call1 _ _ _ rfl Ty.hb51 rfl rfl (UnionC1_spec v)) ?_
    simp -dsimp (disch := first | omega | (simp <;> omega) | fail) [wrap_i64, wrap_u64, wrap_u8']
    refine HT.cond' ?_   -- if 33
    simp (disch := first | omega | (simp <;> omega) | fail) [wrap_i64, wrap_u64, wrap_u8']
    refine HT.draw [.take 0, .take 1, .take 6, .take 7, .batch [2, 3, 4], .one 5, .batch [8, 9]] (by kernel_rfl) ?_   -- R5
    simp (disch := first | omega | (simp <;> omega) | fail) [wrap_i64, wrap_u64, wrap_u8']
    first | (have _t : u.code < v.code := e3; refine Round.mk' (⟨⟨x', v :: y', o ++ [u]⟩, by dsimp only; rw [← hh, mergeBy_cons, if_pos e3]; simp, by dsimp only at hlen ⊢; simp only [List.length_append, List.length_cons, List.length_nil] at hlen ⊢; omega, fun p hp => hlA p (by first | exact List.mem_cons_of_mem _ hp | exact hp | (simp at hp; done)), fun p hp => hlB p (by first | exact List.mem_cons_of_mem _ hp | exact hp | (simp at hp; done))⟩) (by simp) rfl ?_) | (have _t : v.code < u.code := e4; refine Round.mk' (⟨⟨u :: x', y', o ++ [v]⟩, by dsimp only; rw [← hh, mergeBy_cons, if_neg e3, if_pos e4]; simp, by dsimp only at hlen ⊢; simp only [List.length_append, List.length_cons, List.length_nil] at hlen ⊢; omega, fun p hp => hlA p (by first | exact List.mem_cons_of_mem _ hp | exact hp | (simp at hp; done)), fun p hp => hlB p (by first | exact List.mem_cons_of_mem _ hp | exact hp | (simp at hp; done))⟩) (by simp) rfl ?_) | (have _t : ¬ v.code < u.code := e4; refine Round.mk' (⟨⟨x', y', o ++ [bothP u v]⟩, by dsimp only; rw [← hh, mergeBy_cons, if_neg e3, if_neg e4]; simp, by dsimp only at hlen ⊢; simp only [List.length_append, List.length_cons, List.length_nil] at hlen ⊢; omega, fun p hp => hlA p (by first | exact List.mem_cons_of_mem _ hp | exact hp | (simp at hp; done)), fun p hp => hlB p (by first | exact List.mem_cons_of_mem _ hp | exact hp | (simp at hp; done))⟩) (by simp; omega) rfl ?_) | (have _t := u; refine Round.mk' (⟨⟨x', [], o ++ [u]⟩, by dsimp only; rw [← hh]; simp, by dsimp only at hlen ⊢; simp only [List.length_append, List.length_cons, List.length_nil] at hlen ⊢; omega, fun p hp => hlA p (by first | exact List.mem_cons_of_mem _ hp | exact hp | (simp at hp; done)), fun p hp => hlB p (by first | exact List.mem_cons_of_mem _ hp | exact hp | (simp at hp; done))⟩) (by simp) rfl ?_) | (refine Round.mk' (⟨⟨[], y', o ++ [v]⟩, by dsimp only; rw [← hh]; simp, by dsimp only at hlen ⊢; simp only [List.length_append, List.length_cons, List.length_nil] at hlen ⊢; omega, fun p hp => hlA p (by first | exact List.mem_cons_of_mem _ hp | exact hp | (simp at hp; done)), fun p hp => hlB p (by first | exact List.mem_cons_of_mem _ hp | exact hp | (simp at hp; done))⟩) (by simp) rfl ?_)
    simp (disch := first | omega | (simp <;> omega) | fail) [wrap_i64, wrap_u64, wrap_u8', postsHV_snoc', bothP]
  by_cases e4 : v.code < u.code
  · skip
    refine HT.region ?_   -- R2
    simp (disch := first | omega | (simp <;> omega) | fail) [wrap_i64, wrap_u64, wrap_u8']
    refine HT.cond' ?_   -- if 17
    simp (disch := first | omega | (simp <;> omega) | fail) [wrap_i64, wrap_u64, wrap_u8']
    refine HT.skip ?_
    simp (disch := first | omega | (simp <;> omega) | fail) [wrap_i64, wrap_u64, wrap_u8']
    refine HT.block ?_
    refine HT.block ?_
    refine HT.seq ?_
    refine HT.draw [.batch [0, 1, 2, 3, 4, 5, 6, 7, 8, 9, 10, 11, 12, 13, 14, 15, 16, 17, 18, 19, 20, 21]] (by kernel_rfl) ?_   -- R4
    simp -dsimp (disch := first | omega | (simp <;> omega) | fail) [wrap_i64, wrap_u64, wrap_u8']
    refine stepK.mk (.call1 _ _ _ rfl Ty.hb51 rfl rfl (UnionC1_spec u)) ?_
    simp -dsimp (disch := first | omega | (simp <;> omega) | fail) [wrap_i64, wrap_u64, wrap_u8']
    refine stepK.mk (.call1 _ _ _ rfl Ty.hb51 rfl rfl (UnionC1_spec v)) ?_
    simp -dsimp (disch := first | omega | (simp <;> omega) | fail) [wrap_i64, wrap_u64, wrap_u8']
    refine HT.cond' ?_   -- if 33
    simp (disch := first | omega | (simp <;> omega) | fail) [wrap_i64, wrap_u64, wrap_u8']
    refine HT.seq ?_
    refine HT.draw [.batch [0, 1, 2, 3, 4, 5, 6, 7, 8, 9, 10, 11, 12, 13, 14, 15, 16]] (by kernel_rfl) ?_   -- R6
    simp -dsimp (disch := first | omega | (simp <;> omega) | fail) [wrap_i64, wrap_u64, wrap_u8']
    refine stepK.mk (.call1 _ _ _ rfl Ty.hb51 rfl rfl (UnionC1_spec v)) ?_
    simp -dsimp (disch := first | omega | (simp <;> omega) | fail) [wrap_i64, wrap_u64, wrap_u8']
    refine stepK.mk (.call1 _ _ _ rfl Ty.hb51 rfl rfl (UnionC1_spec u)) ?_
    simp -dsimp (disch := first | omega | (simp <;> omega) | fail) [wrap_i64, wrap_u64, wrap_u8']
    refine HT.cond' ?_   -- if 63
    simp (disch := first | omega | (simp <;> omega) | fail) [wrap_i64, wrap_u64, wrap_u8']
    refine HT.draw [.take 0, .take 1, .take 6, .take 7, .batch [2, 3, 4], .one 5, .batch [8, 9]] (by kernel_rfl) ?_   -- R7
    simp (disch := first | omega | (simp <;> omega) | fail) [wrap_i64, wrap_u64, wrap_u8']
    first | (have _t : u.code < v.code := e3; refine Round.mk' (⟨⟨x', v :: y', o ++ [u]⟩, by dsimp only; rw [← hh, mergeBy_cons, if_pos e3]; simp, by dsimp only at hlen ⊢; simp only [List.length_append, List.length_cons, List.length_nil] at hlen ⊢; omega, fun p hp => hlA p (by first | exact List.mem_cons_of_mem _ hp | exact hp | (simp at hp; done)), fun p hp => hlB p (by first | exact List.mem_cons_of_mem _ hp | exact hp | (simp at hp; done))⟩) (by simp) rfl ?_) | (have _t : v.code < u.code := e4; refine Round.mk' (⟨⟨u :: x', y', o ++ [v]⟩, by dsimp only; rw [← hh, mergeBy_cons, if_neg e3, if_pos e4]; simp, by dsimp only at hlen ⊢; simp only [List.length_append, List.length_cons, List.length_nil] at hlen ⊢; omega, fun p hp => hlA p (by first | exact List.mem_cons_of_mem _ hp | exact hp | (simp at hp; done)), fun p hp => hlB p (by first | exact List.mem_cons_of_mem _ hp | exact hp | (simp at hp; done))⟩) (by simp) rfl ?_) | (have _t : ¬ v.code < u.code := e4; refine Round.mk' (⟨⟨x', y', o ++ [bothP u v]⟩, by dsimp only; rw [← hh, mergeBy_cons, if_neg e3, if_neg e4]; simp, by dsimp only at hlen ⊢; simp only [List.length_append, List.length_cons, List.length_nil] at hlen ⊢; omega, fun p hp => hlA p (by first | exact List.mem_cons_of_mem _ hp | exact hp | (simp at hp; done)), fun p hp => hlB p (by first | exact List.mem_cons_of_mem _ hp | exact hp | (simp at hp; done))⟩) (by simp; omega) rfl ?_) | (have _t := u; refine Round.mk' (⟨⟨x', [], o ++ [u]⟩, by dsimp only; rw [← hh]; simp, by dsimp only at hlen ⊢; simp only [List.length_append, List.length_cons, List.length_nil] at hlen ⊢; omega, fun p hp => hlA p (by first | exact List.mem_cons_of_mem _ hp | exact hp | (simp at hp; done)), fun p hp => hlB p (by first | exact List.mem_cons_of_mem _ hp | exact hp | (simp at hp; done))⟩) (by simp) rfl ?_) | (refine Round.mk' (⟨⟨[], y', o ++ [v]⟩, by dsimp only; rw [← hh]; simp, by dsimp only at hlen ⊢; simp only [List.length_append, List.length_cons, List.length_nil] at hlen ⊢; omega, fun p hp => hlA p (by first | exact List.mem_cons_of_mem _ hp | exact hp | (simp at hp; done)), fun p hp => hlB p (by first | exact List.mem_cons_of_mem _ hp | exact hp | (simp at hp; done))⟩) (by simp) rfl ?_)
    simp (disch := first | omega | (simp <;> omega) | fail) [wrap_i64, wrap_u64, wrap_u8', postsHV_snoc', bothP]
  refine HT.region ?_   -- R2
  simp (disch := first | omega | (simp <;> omega) | fail) [wrap_i64, wrap_u64, wrap_u8']
  refine HT.cond' ?_   -- if 17
  simp (disch := first | omega | (simp <;> omega) | fail) [wrap_i64, wrap_u64, wrap_u8']
  refine HT.skip ?_
  simp (disch := first | omega | (simp <;> omega) | fail) [wrap_i64, wrap_u64, wrap_u8']
  refine HT.block ?_
  refine HT.block ?_
  refine HT.seq ?_
  refine HT.draw [.batch [0, 1, 2, 3, 4, 5, 6, 7, 8, 9, 10, 11, 12, 13, 14, 15, 16, 17, 18, 19, 20, 21]] (by kernel_rfl) ?_   -- R4
  simp -dsimp (disch := first | omega | (simp <;> omega) | fail) [wrap_i64, wrap_u64, wrap_u8']
  refine stepK.mk (.call1 _ _ _ rfl Ty.hb51 rfl rfl (UnionC1_spec u)) ?_
  simp -dsimp (disch := first | omega | (simp <;> omega) | fail) [wrap_i64, wrap_u64, wrap_u8']
  refine stepK.mk (.call1 _ _ _ rfl Ty.hb51 rfl rfl (UnionC1_spec v)) ?_
  simp -dsimp (disch := first | omega | (simp <;> omega) | fail) [wrap_i64, wrap_u64, wrap_u8']
  refine HT.cond' ?_   -- if 33
  simp (disch := first | omega | (simp <;> omega) | fail) [wrap_i64, wrap_u64, wrap_u8']
  refine HT.seq ?_
  refine HT.draw [.batch [0, 1, 2, 3, 4, 5, 6, 7, 8, 9, 10, 11, 12, 13, 14, 15, 16]] (by kernel_rfl) ?_   -- R6
  simp -dsimp (disch := first | omega | (simp <;> omega) | fail) [wrap_i64, wrap_u64, wrap_u8']
  refine stepK.mk (.call1 _ _ _ rfl Ty.hb51 rfl rfl (UnionC1_spec v)) ?_
  simp -dsimp (disch := first | omega | (simp <;> omega) | fail) [wrap_i64, wrap_u64, wrap_u8']
  refine stepK.mk (.call1 _ _ _ rfl Ty.hb51 rfl rfl (UnionC1_spec u)) ?_
  simp -dsimp (disch := first | omega | (simp <;> omega) | fail) [wrap_i64, wrap_u64, wrap_u8']
  refine HT.cond' ?_   -- if 63
  simp (disch := first | omega | (simp <;> omega) | fail) [wrap_i64, wrap_u64, wrap_u8']
  refine HT.draw [.take 0, .take 1, .take 2, .take 5, .take 11, .take 12, .take 13, .take 14, .batch [3, 4, 6, 7, 8, 9], .one 10, .batch [15, 16, 17]] (by kernel_rfl) ?_   -- R3
  simp (disch := first | omega | (simp <;> omega) | fail) [wrap_i64, wrap_u64, wrap_u8']
  refine stepK.mk (.call1 _ _ _ rfl Ty.hb52 rfl rfl (UnionC2_spec u v (hlA u (by simp)) (hlB v (by simp)))) ?_
  simp (disch := first | omega | (simp <;> omega) | fail) [wrap_i64, wrap_u64, wrap_u8']
  first | (have _t : u.code < v.code := e3; refine Round.mk' (⟨⟨x', v :: y', o ++ [u]⟩, by dsimp only; rw [← hh, mergeBy_cons, if_pos e3]; simp, by dsimp only at hlen ⊢; simp only [List.length_append, List.length_cons, List.length_nil] at hlen ⊢; omega, fun p hp => hlA p (by first | exact List.mem_cons_of_mem _ hp | exact hp | (simp at hp; done)), fun p hp => hlB p (by first | exact List.mem_cons_of_mem _ hp | exact hp | (simp at hp; done))⟩) (by simp) rfl ?_) | (have _t : v.code < u.code := e4; refine Round.mk' (⟨⟨u :: x', y', o ++ [v]⟩, by dsimp only; rw [← hh, mergeBy_cons, if_neg e3, if_pos e4]; simp, by dsimp only at hlen ⊢; simp only [List.length_append, List.length_cons, List.length_nil] at hlen ⊢; omega, fun p hp => hlA p (by first | exact List.mem_cons_of_mem _ hp | exact hp | (simp at hp; done)), fun p hp => hlB p (by first | exact List.mem_cons_of_mem _ hp | exact hp | (simp at hp; done))⟩) (by simp) rfl ?_) | (have _t : ¬ v.code < u.code := e4; refine Round.mk' (⟨⟨x', y', o ++ [bothP u v]⟩, by dsimp only; rw [← hh, mergeBy_cons, if_neg e3, if_neg e4]; simp, by dsimp only at hlen ⊢; simp only [List.length_append, List.length_cons, List.length_nil] at hlen ⊢; omega, fun p hp => hlA p (by first | exact List.mem_cons_of_mem _ hp | exact hp | (simp at hp; done)), fun p hp => hlB p (by first | exact List.mem_cons_of_mem _ hp | exact hp | (simp at hp; done))⟩) (by simp; omega) rfl ?_) | (have _t := u; refine Round.mk' (⟨⟨x', [], o ++ [u]⟩, by dsimp only; rw [← hh]; simp, by dsimp only at hlen ⊢; simp only [List.length_append, List.length_cons, List.length_nil] at hlen ⊢; omega, fun p hp => hlA p (by first | exact List.mem_cons_of_mem _ hp | exact hp | (simp at hp; done)), fun p hp => hlB p (by first | exact List.mem_cons_of_mem _ hp | exact hp | (simp at hp; done))⟩) (by simp) rfl ?_) | (refine Round.mk' (⟨⟨[], y', o ++ [v]⟩, by dsimp only; rw [← hh]; simp, by dsimp only at hlen ⊢; simp only [List.length_append, List.length_cons, List.length_nil] at hlen ⊢; omega, fun p hp => hlA p (by first | exact List.mem_cons_of_mem _ hp | exact hp | (simp at hp; done)), fun p hp => hlB p (by first | exact List.mem_cons_of_mem _ hp | exact hp | (simp at hp; done))⟩) (by simp) rfl ?_)
  simp (disch := first | omega | (simp <;> omega) | fail) [wrap_i64, wrap_u64, wrap_u8', postsHV_snoc', bothP]
theorem Union_spec (a b : List Post) (ha : a.length ≤ 400000) (hb : b.length ≤ 400000) (hA : ∀ p ∈ a, p.docs.length ≤ 400000) (hB : ∀ p ∈ b, p.docs.length ≤ 400000) : Spec1 Tryz.prog 23 [.sl 2 false (postsHV a), .sl 2 false (postsHV b)] (.sl 2 false (postsHV (unionV a b))) := by
  refine Spec1.of_HT Tryz.func23 rfl (by rw [Tryz.ntmps23]; simp) rfl ?_
  rw [Tryz.ntmps23]
  refine HT.seq ?_
  refine HT.region ?_   -- R0
  simp (disch := first | omega | (simp <;> omega) | fail) [wrap_i64, wrap_u64, wrap_u8']
  refine HT.seq ?_
  refine HT.region ?_   -- R1
  simp (disch := first | omega | (simp <;> omega) | fail) [wrap_i64, wrap_u64, wrap_u8']
  refine stepK.mk (.call1f _ _ _ _ _ rfl Ty.hb50 rfl rfl (mergeP_spec a b ha hb hA hB) rfl) ?_
  simp (disch := first | omega | (simp <;> omega) | fail) [wrap_i64, wrap_u64, wrap_u8']
  refine HT.ret ?_
  simp (disch := first | omega | (simp <;> omega) | fail) [wrap_i64, wrap_u64, wrap_u8', unionV]
end Go.Hv
set_option linter.unusedVariables false
set_option linter.unusedSimpArgs false
namespace Go.Hv
open Go Go.Hv Go.Proofs
open Go.Proofs.YthdljfognblpbaaGreatDoor
theorem mb_nilB {α : Type} {f : α → Int} {both : α → α → α} {a b : List α} {i j : Nat} (hi : i < a.length) (hj : b.length ≤ j) : mergeBy f both (a.drop i) (b.drop j) = a[i] :: mergeBy f both (a.drop (i + 1)) (b.drop j) := by
  rw [List.drop_eq_nil_of_le hj, List.drop_eq_getElem_cons hi]; simp
theorem mb_nilA {α : Type} {f : α → Int} {both : α → α → α} {a b : List α} {i j : Nat} (hi : a.length ≤ i) (hj : j < b.length) : mergeBy f both (a.drop i) (b.drop j) = b[j] :: mergeBy f both (a.drop i) (b.drop (j + 1)) := by
  rw [List.drop_eq_nil_of_le hi, List.drop_eq_getElem_cons hj]; simp
theorem mb_lt {α : Type} {f : α → Int} {both : α → α → α} {a b : List α} {i j : Nat} (hi : i < a.length) (hj : j < b.length) (h : f a[i] < f b[j]) : mergeBy f both (a.drop i) (b.drop j) = a[i] :: mergeBy f both (a.drop (i + 1)) (b.drop j) := by
  rw [List.drop_eq_getElem_cons hi, List.drop_eq_getElem_cons hj, mergeBy_cons, if_pos h]
theorem mb_gt {α : Type} {f : α → Int} {both : α → α → α} {a b : List α} {i j : Nat} (hi : i < a.length) (hj : j < b.length) (h1 : ¬ f a[i] < f b[j]) (h : f b[j] < f a[i]) : mergeBy f both (a.drop i) (b.drop j) = b[j] :: mergeBy f both (a.drop i) (b.drop (j + 1)) := by
  rw [List.drop_eq_getElem_cons hi, List.drop_eq_getElem_cons hj, mergeBy_cons, if_neg h1, if_pos h]
theorem mb_eq {α : Type} {f : α → Int} {both : α → α → α} {a b : List α} {i j : Nat} (hi : i < a.length) (hj : j < b.length) (h1 : ¬ f a[i] < f b[j]) (h : ¬ f b[j] < f a[i]) : mergeBy f both (a.drop i) (b.drop j) = both a[i] b[j] :: mergeBy f both (a.drop (i + 1)) (b.drop (j + 1)) := by
  rw [List.drop_eq_getElem_cons hi, List.drop_eq_getElem_cons hj, mergeBy_cons, if_neg h1, if_neg h]
theorem mr_nilB {a b : List Gram} {i j : Nat} (hi : i < a.length) (hj : b.length ≤ j) : mergeR (a.drop i) (b.drop j) = a[i] :: mergeR (a.drop (i + 1)) (b.drop j) := by
  rw [List.drop_eq_nil_of_le hj, List.drop_eq_getElem_cons hi]; simp
theorem mr_nilA {a b : List Gram} {i j : Nat} (hi : a.length ≤ i) (hj : j < b.length) : mergeR (a.drop i) (b.drop j) = b[j] :: mergeR (a.drop i) (b.drop (j + 1)) := by
  rw [List.drop_eq_nil_of_le hi, List.drop_eq_getElem_cons hj]; simp
theorem mr_lt {a b : List Gram} {i j : Nat} (hi : i < a.length) (hj : j < b.length) (h : a[i].code < b[j].code) : mergeR (a.drop i) (b.drop j) = a[i] :: mergeR (a.drop (i + 1)) (b.drop j) := by
  rw [List.drop_eq_getElem_cons hi, List.drop_eq_getElem_cons hj, mergeR_cons, if_pos h]
theorem mr_ge {a b : List Gram} {i j : Nat} (hi : i < a.length) (hj : j < b.length) (h1 : ¬ a[i].code < b[j].code) : mergeR (a.drop i) (b.drop j) = b[j] :: mergeR (a.drop i) (b.drop (j + 1)) := by
  rw [List.drop_eq_getElem_cons hi, List.drop_eq_getElem_cons hj, mergeR_cons, if_neg h1]
theorem agreeX {α : Type} {a b : List α} {k : Nat} (hg : ∀ i, i < k → a[i]? = b[i]?) (h : a[k]? = b[k]?) : ∀ i, i < k + 1 → a[i]? = b[i]? := fun i hi => by
  by_cases e : i = k
  · subst e; exact h
  · exact hg i (by omega)
theorem extX {α : Type} {a b : List α} (hl : a.length = b.length) (hg : ∀ i, i < a.length → a[i]? = b[i]?) : a = b := by
  apply List.ext_getElem?
  intro i
  rcases Nat.lt_or_ge i a.length with h | h
  · exact hg i h
  · rw [List.getElem?_eq_none h, List.getElem?_eq_none (by omega)]
set_option maxHeartbeats 4000000 in
theorem both_spec (a b : List Gram) (ha : a.length ≤ 400000) (hb : b.length ≤ 400000) : Spec1 Tryz.prog 56 [.sl 2 false (gramsHV a), .sl 2 false (gramsHV b)] (.sl 2 false (gramsHV (mergeR a b))) := by
  refine Spec1.of_HT Tryz.func56 rfl (by rw [Tryz.ntmps56]; simp) rfl ?_
  rw [Tryz.ntmps56]
  refine HT.seq ?_
  refine HT.region ?_   -- R0
  simp (disch := first | omega | (simp <;> omega) | fail) [wrap_i64, wrap_u64, wrap_u8']
  refine HT.seq ?_
  refine HT.region ?_   -- R1
  simp (disch := first | omega | (simp <;> omega) | fail) [wrap_i64, wrap_u64, wrap_u8']
  refine HT.weaken (HS.le_own (t := 5) 200 58 2 _ (by decide) rfl (by decide)) ?_
  refine HT.seq ?_
  refine HT.region ?_   -- R2
  simp (disch := first | omega | (simp <;> omega) | fail) [wrap_i64, wrap_u64, wrap_u8']
  refine HT.seq ?_
  refine HT.region ?_   -- R3
  simp (disch := first | omega | (simp <;> omega) | fail) [wrap_i64, wrap_u64, wrap_u8']
  refine HT.seq ?_
  refine HT.block ?_
  refine HT.loopK (fun k : {k : Nat × Nat × List Gram // k.2.2 ++ mergeR (a.drop k.1) (b.drop k.2.1) = mergeR a b ∧ k.1 ≤ a.length ∧ k.2.1 ≤ b.length ∧ k.2.2.length = k.1 + k.2.1} => [.s 6 (i64 k.1.1), .s 7 (i64 k.1.2.1), .s 5 (.ref 200), .o 200 (.row 58 2 (gramsHV k.1.2.2))]) [0, 1] [] (fun k => (a.length - k.1.1) + (b.length - k.1.2.1)) (⟨⟨0, 0, []⟩, by simp⟩) ?_ ?_   -- block 0 turned [5, 6, 7, 13, 14, 15, 16, 23, 24, 25, 26, 27, 28, 29, 30, 31, 32, 33, 34, 35, 36, 37, 38, 39]
  · simp (disch := first | omega | (simp <;> omega) | fail) [wrap_i64, wrap_u64, wrap_u8']
  rintro ⟨⟨i, j, o⟩, hh, hi, hj, hlen⟩
  simp (disch := first | omega | (simp <;> omega) | fail) [wrap_i64, wrap_u64, wrap_u8']
  refine HT.seq ?_
  refine HT.seq ?_
  dsimp only at hh hi hj hlen
  by_cases e0 : a.length ≤ i ∧ b.length ≤ j
  · skip
    have ho' : o = mergeR a b := by
      rw [List.drop_eq_nil_of_le e0.1, List.drop_eq_nil_of_le e0.2] at hh
      simpa using hh
    refine HT.region ?_   -- R4
    simp (disch := first | omega | (simp <;> omega) | fail) [wrap_i64, wrap_u64, wrap_u8']
    refine HT.cond' ?_   -- if 17
    simp (disch := first | omega | (simp <;> omega) | fail) [wrap_i64, wrap_u64, wrap_u8']
    refine HT.exit ?_
    simp (disch := first | omega | (simp <;> omega) | fail) [wrap_i64, wrap_u64, wrap_u8']
    refine HT.seq ?_
    refine HT.region ?_   -- R10
    simp (disch := first | omega | (simp <;> omega) | fail) [wrap_i64, wrap_u64, wrap_u8']
    refine HT.ret ?_
    simp (disch := first | omega | (simp <;> omega) | fail) [wrap_i64, wrap_u64, wrap_u8', ho']
  by_cases e1 : b.length ≤ j
  · skip
    have hi' : i < a.length := by omega
    refine HT.region ?_   -- R4
    simp (disch := first | omega | (simp <;> omega) | fail) [wrap_i64, wrap_u64, wrap_u8']
    refine HT.cond' ?_   -- if 17
    simp (disch := first | omega | (simp <;> omega) | fail) [wrap_i64, wrap_u64, wrap_u8']
    refine HT.skip ?_
    simp (disch := first | omega | (simp <;> omega) | fail) [wrap_i64, wrap_u64, wrap_u8']
    refine HT.block ?_
    refine HT.seq ?_
    refine HT.draw [.batch [0, 1, 2, 3, 4, 5, 6, 7, 8, 9, 10, 11, 12, 13, 14, 15, 16, 17, 18, 19, 20, 21, 22]] (by kernel_rfl) ?_   -- R5
    simp -dsimp (disch := first | omega | (simp <;> omega) | fail) [wrap_i64, wrap_u64, wrap_u8']
    refine HT.cond' ?_   -- if 40
    simp (disch := first | omega | (simp <;> omega) | fail) [wrap_i64, wrap_u64, wrap_u8']
    refine HT.seq ?_
    refine HT.region ?_   -- R6
    simp (disch := first | omega | (simp <;> omega) | fail) [wrap_i64, wrap_u64, wrap_u8']
    refine HT.region ?_   -- R7
    simp (disch := first | omega | (simp <;> omega) | fail) [wrap_i64, wrap_u64, wrap_u8']
    first | (have _t := he3; refine Round.mk' (⟨⟨i + 1, j, o ++ [a[i]]⟩, by dsimp only; rw [← hh, mr_lt hi' hj' he3]; simp, by dsimp only; omega, by dsimp only; omega, by dsimp only; rw [List.length_append]; simp; omega⟩) (by dsimp only; omega) rfl ?_) | (have _t := he4; refine Round.mk' (⟨⟨i, j + 1, o ++ [b[j]]⟩, by dsimp only; rw [← hh, mr_ge hi' hj' he4]; simp, by dsimp only; omega, by dsimp only; omega, by dsimp only; rw [List.length_append]; simp; omega⟩) (by dsimp only; omega) rfl ?_) | (have _t := hi'; refine Round.mk' (⟨⟨i + 1, j, o ++ [a[i]]⟩, by dsimp only; rw [← hh, mr_nilB hi' e1]; simp, by dsimp only; omega, by dsimp only; omega, by dsimp only; rw [List.length_append]; simp; omega⟩) (by dsimp only; omega) rfl ?_) | (refine Round.mk' (⟨⟨i, j + 1, o ++ [b[j]]⟩, by dsimp only; rw [← hh, mr_nilA e2 hj']; simp, by dsimp only; omega, by dsimp only; omega, by dsimp only; rw [List.length_append]; simp; omega⟩) (by dsimp only; omega) rfl ?_)
    simp (disch := first | omega | (simp <;> omega) | fail) [wrap_i64, wrap_u64, wrap_u8', gramsHV_snoc']
  have hj' : j < b.length := by omega
  by_cases e2 : a.length ≤ i
  · skip
    refine HT.region ?_   -- R4
    simp (disch := first | omega | (simp <;> omega) | fail) [wrap_i64, wrap_u64, wrap_u8']
    refine HT.cond' ?_   -- if 17
    simp (disch := first | omega | (simp <;> omega) | fail) [wrap_i64, wrap_u64, wrap_u8']
    refine HT.skip ?_
    simp (disch := first | omega | (simp <;> omega) | fail) [wrap_i64, wrap_u64, wrap_u8']
    refine HT.block ?_
    refine HT.seq ?_
    refine HT.draw [.batch [0, 1, 2, 3, 4, 5, 6, 7, 8, 9, 10, 11, 12, 13, 14, 15, 16, 17, 18, 19, 20, 21, 22]] (by kernel_rfl) ?_   -- R5
    simp -dsimp (disch := first | omega | (simp <;> omega) | fail) [wrap_i64, wrap_u64, wrap_u8']
    refine HT.cond' ?_   -- if 40
    simp (disch := first | omega | (simp <;> omega) | fail) [wrap_i64, wrap_u64, wrap_u8']
    refine HT.seq ?_
    refine HT.region ?_   -- R8
    simp (disch := first | omega | (simp <;> omega) | fail) [wrap_i64, wrap_u64, wrap_u8']
    refine HT.region ?_   -- R9
    simp (disch := first | omega | (simp <;> omega) | fail) [wrap_i64, wrap_u64, wrap_u8']
    first | (have _t := he3; refine Round.mk' (⟨⟨i + 1, j, o ++ [a[i]]⟩, by dsimp only; rw [← hh, mr_lt hi' hj' he3]; simp, by dsimp only; omega, by dsimp only; omega, by dsimp only; rw [List.length_append]; simp; omega⟩) (by dsimp only; omega) rfl ?_) | (have _t := he4; refine Round.mk' (⟨⟨i, j + 1, o ++ [b[j]]⟩, by dsimp only; rw [← hh, mr_ge hi' hj' he4]; simp, by dsimp only; omega, by dsimp only; omega, by dsimp only; rw [List.length_append]; simp; omega⟩) (by dsimp only; omega) rfl ?_) | (have _t := hi'; refine Round.mk' (⟨⟨i + 1, j, o ++ [a[i]]⟩, by dsimp only; rw [← hh, mr_nilB hi' e1]; simp, by dsimp only; omega, by dsimp only; omega, by dsimp only; rw [List.length_append]; simp; omega⟩) (by dsimp only; omega) rfl ?_) | (refine Round.mk' (⟨⟨i, j + 1, o ++ [b[j]]⟩, by dsimp only; rw [← hh, mr_nilA e2 hj']; simp, by dsimp only; omega, by dsimp only; omega, by dsimp only; rw [List.length_append]; simp; omega⟩) (by dsimp only; omega) rfl ?_)
    simp (disch := first | omega | (simp <;> omega) | fail) [wrap_i64, wrap_u64, wrap_u8', gramsHV_snoc']
  have hi' : i < a.length := by omega
  by_cases e3 : a[i].code < b[j].code
  · skip
    have he3 := e3
    refine HT.region ?_   -- R4
    simp (disch := first | omega | (simp <;> omega) | fail) [wrap_i64, wrap_u64, wrap_u8']
    refine HT.cond' ?_   -- if 17
    simp (disch := first | omega | (simp <;> omega) | fail) [wrap_i64, wrap_u64, wrap_u8']
    refine HT.skip ?_
    simp (disch := first | omega | (simp <;> omega) | fail) [wrap_i64, wrap_u64, wrap_u8']
    refine HT.block ?_
    refine HT.seq ?_
    refine HT.draw [.batch [0, 1, 2, 3, 4, 5, 6, 7, 8, 9, 10, 11, 12, 13, 14, 15, 16, 17, 18, 19, 20, 21, 22]] (by kernel_rfl) ?_   -- R5
    simp -dsimp (disch := first | omega | (simp <;> omega) | fail) [wrap_i64, wrap_u64, wrap_u8']
    refine HT.cond' ?_   -- if 40
    simp (disch := first | omega | (simp <;> omega) | fail) [wrap_i64, wrap_u64, wrap_u8']
    refine HT.seq ?_
    refine HT.region ?_   -- R6
    simp (disch := first | omega | (simp <;> omega) | fail) [wrap_i64, wrap_u64, wrap_u8']
    refine HT.region ?_   -- R7
    simp (disch := first | omega | (simp <;> omega) | fail) [wrap_i64, wrap_u64, wrap_u8']
    first | (have _t := he3; refine Round.mk' (⟨⟨i + 1, j, o ++ [a[i]]⟩, by dsimp only; rw [← hh, mr_lt hi' hj' he3]; simp, by dsimp only; omega, by dsimp only; omega, by dsimp only; rw [List.length_append]; simp; omega⟩) (by dsimp only; omega) rfl ?_) | (have _t := he4; refine Round.mk' (⟨⟨i, j + 1, o ++ [b[j]]⟩, by dsimp only; rw [← hh, mr_ge hi' hj' he4]; simp, by dsimp only; omega, by dsimp only; omega, by dsimp only; rw [List.length_append]; simp; omega⟩) (by dsimp only; omega) rfl ?_) | (have _t := hi'; refine Round.mk' (⟨⟨i + 1, j, o ++ [a[i]]⟩, by dsimp only; rw [← hh, mr_nilB hi' e1]; simp, by dsimp only; omega, by dsimp only; omega, by dsimp only; rw [List.length_append]; simp; omega⟩) (by dsimp only; omega) rfl ?_) | (refine Round.mk' (⟨⟨i, j + 1, o ++ [b[j]]⟩, by dsimp only; rw [← hh, mr_nilA e2 hj']; simp, by dsimp only; omega, by dsimp only; omega, by dsimp only; rw [List.length_append]; simp; omega⟩) (by dsimp only; omega) rfl ?_)
    simp (disch := first | omega | (simp <;> omega) | fail) [wrap_i64, wrap_u64, wrap_u8', gramsHV_snoc']
  have he4 := e3
  refine HT.region ?_   -- R4
  simp (disch := first | omega | (simp <;> omega) | fail) [wrap_i64, wrap_u64, wrap_u8']
  refine HT.cond' ?_   -- if 17
  simp (disch := first | omega | (simp <;> omega) | fail) [wrap_i64, wrap_u64, wrap_u8']
  refine HT.skip ?_
  simp (disch := first | omega | (simp <;> omega) | fail) [wrap_i64, wrap_u64, wrap_u8']
  refine HT.block ?_
  refine HT.seq ?_
  refine HT.draw [.batch [0, 1, 2, 3, 4, 5, 6, 7, 8, 9, 10, 11, 12, 13, 14, 15, 16, 17, 18, 19, 20, 21, 22]] (by kernel_rfl) ?_   -- R5
  simp -dsimp (disch := first | omega | (simp <;> omega) | fail) [wrap_i64, wrap_u64, wrap_u8']
  refine HT.cond' ?_   -- if 40
  simp (disch := first | omega | (simp <;> omega) | fail) [wrap_i64, wrap_u64, wrap_u8']
  refine HT.seq ?_
  refine HT.region ?_   -- R8
  simp (disch := first | omega | (simp <;> omega) | fail) [wrap_i64, wrap_u64, wrap_u8']
  refine HT.region ?_   -- R9
  simp (disch := first | omega | (simp <;> omega) | fail) [wrap_i64, wrap_u64, wrap_u8']
  first | (have _t := he3; refine Round.mk' (⟨⟨i + 1, j, o ++ [a[i]]⟩, by dsimp only; rw [← hh, mr_lt hi' hj' he3]; simp, by dsimp only; omega, by dsimp only; omega, by dsimp only; rw [List.length_append]; simp; omega⟩) (by dsimp only; omega) rfl ?_) | (have _t := he4; refine Round.mk' (⟨⟨i, j + 1, o ++ [b[j]]⟩, by dsimp only; rw [← hh, mr_ge hi' hj' he4]; simp, by dsimp only; omega, by dsimp only; omega, by dsimp only; rw [List.length_append]; simp; omega⟩) (by dsimp only; omega) rfl ?_) | (have _t := hi'; refine Round.mk' (⟨⟨i + 1, j, o ++ [a[i]]⟩, by dsimp only; rw [← hh, mr_nilB hi' e1]; simp, by dsimp only; omega, by dsimp only; omega, by dsimp only; rw [List.length_append]; simp; omega⟩) (by dsimp only; omega) rfl ?_) | (refine Round.mk' (⟨⟨i, j + 1, o ++ [b[j]]⟩, by dsimp only; rw [← hh, mr_nilA e2 hj']; simp, by dsimp only; omega, by dsimp only; omega, by dsimp only; rw [List.length_append]; simp; omega⟩) (by dsimp only; omega) rfl ?_)
  simp (disch := first | omega | (simp <;> omega) | fail) [wrap_i64, wrap_u64, wrap_u8', gramsHV_snoc']
end Go.Hv
set_option linter.unusedVariables false
set_option linter.unusedSimpArgs false
namespace Go.Hv
open Go Go.Hv Go.Proofs
open Go.Proofs.YthdljfognblpbaaGreatDoor
def SegB (n : Nat) (s : Seg) : Prop := s.docs.length ≤ n ∧ s.grams.length ≤ n ∧ ∀ p ∈ s.grams, p.docs.length ≤ n
def gK (dead : List Int) (l : List Gram) : List Gram := l.filter fun g => aliveB dead g.code
def filtP (dead : List Int) (gs : List Post) : List Post := (gs.map fun p => (⟨p.code, gK dead p.docs⟩ : Post)).filter fun p => decide (p.docs ≠ [])
theorem filtP_succ {dead : List Int} {gs : List Post} {k : Nat} (hk : k < gs.length) : filtP dead (gs.take (k + 1)) = filtP dead (gs.take k) ++ if gK dead gs[k].docs = [] then [] else [⟨gs[k].code, gK dead gs[k].docs⟩] := by
  unfold filtP
  rw [List.take_succ_eq_append_getElem hk, List.map_append, List.filter_append]
  congr 1
  by_cases h : gK dead gs[k].docs = [] <;> simp [h]
theorem gK_length (dead : List Int) (l : List Gram) : (gK dead l).length ≤ l.length := List.length_filter_le _ _
theorem filtP_length (dead : List Int) (gs : List Post) (k : Nat) : (filtP dead (gs.take k)).length ≤ gs.length := by
  unfold filtP
  have h1 := List.length_filter_le (fun p : Post => decide (p.docs ≠ [])) ((gs.take k).map fun p => (⟨p.code, gK dead p.docs⟩ : Post))
  rw [List.length_map, List.length_take] at h1
  omega
theorem gram_eqX {g h : Gram} (h1 : g.code = h.code) (h2 : g.off = h.off) : g = h := by cases g; cases h; simp_all
theorem post_eq {g h : Post} (h1 : g.code = h.code) (h2 : g.docs = h.docs) : g = h := by cases g; cases h; simp_all
theorem pos_ne {α : Type} {l : List α} (h : 0 < l.length) : ¬ l = [] := fun e => by rw [e] at h; simp at h
theorem npos_eq {α : Type} {l : List α} (h : ¬ 0 < l.length) : l = [] := List.eq_nil_of_length_eq_zero (by omega)
set_option maxHeartbeats 4000000 in
theorem refUnion_spec (a b : List Post) (ha : a.length ≤ 400000) (hb : b.length ≤ 400000) (hA : ∀ p ∈ a, p.docs.length ≤ 400000) (hB : ∀ p ∈ b, p.docs.length ≤ 400000) : Spec1 Tryz.prog 24 [.sl 2 false (postsHV a), .sl 2 false (postsHV b)] (.sl 2 false (postsHV (unionR a b))) := by
  refine Spec1.of_HT Tryz.func24 rfl (by rw [Tryz.ntmps24]; simp) rfl ?_
  rw [Tryz.ntmps24]
  refine HT.seq ?_
  refine HT.region ?_   -- R0
  simp (disch := first | omega | (simp <;> omega) | fail) [wrap_i64, wrap_u64, wrap_u8']
  refine HT.seq ?_
  refine HT.region ?_   -- R1
  simp (disch := first | omega | (simp <;> omega) | fail) [wrap_i64, wrap_u64, wrap_u8']
  refine HT.weaken (HS.le_own (t := 5) 200 56 2 _ (by decide) rfl (by decide)) ?_
  refine HT.seq ?_
  refine HT.region ?_   -- R2
  simp (disch := first | omega | (simp <;> omega) | fail) [wrap_i64, wrap_u64, wrap_u8']
  refine HT.seq ?_
  refine HT.region ?_   -- R3
  simp (disch := first | omega | (simp <;> omega) | fail) [wrap_i64, wrap_u64, wrap_u8']
  refine HT.seq ?_
  refine HT.block ?_
  refine HT.loopK (fun k : {k : Nat × Nat × List Post // k.2.2 ++ mergeBy Post.code bothR (a.drop k.1) (b.drop k.2.1) = mergeBy Post.code bothR a b ∧ k.1 ≤ a.length ∧ k.2.1 ≤ b.length ∧ k.2.2.length ≤ k.1 + k.2.1} => [.s 6 (i64 k.1.1), .s 7 (i64 k.1.2.1), .s 5 (.ref 200), .o 200 (.row 56 2 (postsHV k.1.2.2))]) [0, 1] [] (fun k => (a.length - k.1.1) + (b.length - k.1.2.1)) (⟨⟨0, 0, []⟩, by simp⟩) ?_ ?_   -- block 0 turned [5, 6, 7, 13, 14, 15, 16, 23, 24, 25, 26, 27, 28, 29, 30, 31, 32, 33, 34, 35, 36, 37, 38, 39, 55, 56, 57, 58, 59, 60, 61, 62, 63, 64, 65]
  · simp (disch := first | omega | (simp <;> omega) | fail) [wrap_i64, wrap_u64, wrap_u8']
  rintro ⟨⟨i, j, o⟩, hh, hi, hj, hlen⟩
  simp (disch := first | omega | (simp <;> omega) | fail) [wrap_i64, wrap_u64, wrap_u8']
  refine HT.seq ?_
  refine HT.seq ?_
  dsimp only at hh hi hj hlen
  by_cases e0 : a.length ≤ i ∧ b.length ≤ j
  · skip
    have ho' : o = mergeBy Post.code bothR a b := by
      rw [List.drop_eq_nil_of_le e0.1, List.drop_eq_nil_of_le e0.2] at hh
      simpa using hh
    refine HT.region ?_   -- R4
    simp (disch := first | omega | (simp <;> omega) | fail) [wrap_i64, wrap_u64, wrap_u8']
    refine HT.cond' ?_   -- if 17
    simp (disch := first | omega | (simp <;> omega) | fail) [wrap_i64, wrap_u64, wrap_u8']
    refine HT.exit ?_
    simp (disch := first | omega | (simp <;> omega) | fail) [wrap_i64, wrap_u64, wrap_u8']
    refine HT.seq ?_
    refine HT.region ?_   -- R14
    simp (disch := first | omega | (simp <;> omega) | fail) [wrap_i64, wrap_u64, wrap_u8']
    refine HT.ret ?_
    simp (disch := first | omega | (simp <;> omega) | fail) [wrap_i64, wrap_u64, wrap_u8', ho', unionR]
  by_cases e1 : b.length ≤ j
  · skip
    have hi' : i < a.length := by omega
    refine HT.region ?_   -- R4
    simp (disch := first | omega | (simp <;> omega) | fail) [wrap_i64, wrap_u64, wrap_u8']
    refine HT.cond' ?_   -- if 17
    simp (disch := first | omega | (simp <;> omega) | fail) [wrap_i64, wrap_u64, wrap_u8']
    refine HT.skip ?_
    simp (disch := first | omega | (simp <;> omega) | fail) [wrap_i64, wrap_u64, wrap_u8']
    refine HT.block ?_
    refine HT.seq ?_
    refine HT.draw [.batch [0, 1, 2, 3, 4, 5, 6, 7, 8, 9, 10, 11, 12, 13, 14, 15, 16, 17, 18, 19, 20, 21, 22]] (by kernel_rfl) ?_   -- R5
    simp -dsimp (disch := first | omega | (simp <;> omega) | fail) [wrap_i64, wrap_u64, wrap_u8']
    refine HT.cond' ?_   -- if 40
    simp (disch := first | omega | (simp <;> omega) | fail) [wrap_i64, wrap_u64, wrap_u8']
    refine HT.seq ?_
    refine HT.region ?_   -- R6
    simp (disch := first | omega | (simp <;> omega) | fail) [wrap_i64, wrap_u64, wrap_u8']
    refine HT.region ?_   -- R7
    simp (disch := first | omega | (simp <;> omega) | fail) [wrap_i64, wrap_u64, wrap_u8']
    first | (have _t := he3; refine Round.mk' (⟨⟨i + 1, j, o ++ [a[i]]⟩, by dsimp only; rw [← hh, mb_lt hi' hj' he3]; simp, by dsimp only; omega, by dsimp only; omega, by dsimp only; rw [List.length_append]; simp; omega⟩) (by dsimp only; omega) rfl ?_) | (have _t := he4; refine Round.mk' (⟨⟨i, j + 1, o ++ [b[j]]⟩, by dsimp only; rw [← hh, mb_gt hi' hj' e3 he4]; simp, by dsimp only; omega, by dsimp only; omega, by dsimp only; rw [List.length_append]; simp; omega⟩) (by dsimp only; omega) rfl ?_) | (have _t := he5; refine Round.mk' (⟨⟨i + 1, j + 1, o ++ [bothR a[i] b[j]]⟩, by dsimp only; rw [← hh, mb_eq hi' hj' e3 he5]; simp, by dsimp only; omega, by dsimp only; omega, by dsimp only; rw [List.length_append]; simp; omega⟩) (by dsimp only; omega) rfl ?_) | (have _t := hi'; refine Round.mk' (⟨⟨i + 1, j, o ++ [a[i]]⟩, by dsimp only; rw [← hh, mb_nilB hi' e1]; simp, by dsimp only; omega, by dsimp only; omega, by dsimp only; rw [List.length_append]; simp; omega⟩) (by dsimp only; omega) rfl ?_) | (refine Round.mk' (⟨⟨i, j + 1, o ++ [b[j]]⟩, by dsimp only; rw [← hh, mb_nilA e2 hj']; simp, by dsimp only; omega, by dsimp only; omega, by dsimp only; rw [List.length_append]; simp; omega⟩) (by dsimp only; omega) rfl ?_)
    simp (disch := first | omega | (simp <;> omega) | fail) [wrap_i64, wrap_u64, wrap_u8', postsHV_snoc', bothR]
  have hj' : j < b.length := by omega
  by_cases e2 : a.length ≤ i
  · skip
    refine HT.region ?_   -- R4
    simp (disch := first | omega | (simp <;> omega) | fail) [wrap_i64, wrap_u64, wrap_u8']
    refine HT.cond' ?_   -- if 17
    simp (disch := first | omega | (simp <;> omega) | fail) [wrap_i64, wrap_u64, wrap_u8']
    refine HT.skip ?_
    simp (disch := first | omega | (simp <;> omega) | fail) [wrap_i64, wrap_u64, wrap_u8']
    refine HT.block ?_
    refine HT.seq ?_
    refine HT.draw [.batch [0, 1, 2, 3, 4, 5, 6, 7, 8, 9, 10, 11, 12, 13, 14, 15, 16, 17, 18, 19, 20, 21, 22]] (by kernel_rfl) ?_   -- R5
    simp -dsimp (disch := first | omega | (simp <;> omega) | fail) [wrap_i64, wrap_u64, wrap_u8']
    refine HT.cond' ?_   -- if 40
    simp (disch := first | omega | (simp <;> omega) | fail) [wrap_i64, wrap_u64, wrap_u8']
    refine HT.seq ?_
    refine HT.draw [.batch [0, 1, 2, 3, 4, 5, 6, 7, 8, 9, 10, 11, 12, 13, 14, 15, 16]] (by kernel_rfl) ?_   -- R8
    simp -dsimp (disch := first | omega | (simp <;> omega) | fail) [wrap_i64, wrap_u64, wrap_u8']
    refine HT.cond' ?_   -- if 66
    simp (disch := first | omega | (simp <;> omega) | fail) [wrap_i64, wrap_u64, wrap_u8']
    refine HT.seq ?_
    refine HT.region ?_   -- R9
    simp (disch := first | omega | (simp <;> omega) | fail) [wrap_i64, wrap_u64, wrap_u8']
    refine HT.region ?_   -- R10
    simp (disch := first | omega | (simp <;> omega) | fail) [wrap_i64, wrap_u64, wrap_u8']
    first | (have _t := he3; refine Round.mk' (⟨⟨i + 1, j, o ++ [a[i]]⟩, by dsimp only; rw [← hh, mb_lt hi' hj' he3]; simp, by dsimp only; omega, by dsimp only; omega, by dsimp only; rw [List.length_append]; simp; omega⟩) (by dsimp only; omega) rfl ?_) | (have _t := he4; refine Round.mk' (⟨⟨i, j + 1, o ++ [b[j]]⟩, by dsimp only; rw [← hh, mb_gt hi' hj' e3 he4]; simp, by dsimp only; omega, by dsimp only; omega, by dsimp only; rw [List.length_append]; simp; omega⟩) (by dsimp only; omega) rfl ?_) | (have _t := he5; refine Round.mk' (⟨⟨i + 1, j + 1, o ++ [bothR a[i] b[j]]⟩, by dsimp only; rw [← hh, mb_eq hi' hj' e3 he5]; simp, by dsimp only; omega, by dsimp only; omega, by dsimp only; rw [List.length_append]; simp; omega⟩) (by dsimp only; omega) rfl ?_) | (have _t := hi'; refine Round.mk' (⟨⟨i + 1, j, o ++ [a[i]]⟩, by dsimp only; rw [← hh, mb_nilB hi' e1]; simp, by dsimp only; omega, by dsimp only; omega, by dsimp only; rw [List.length_append]; simp; omega⟩) (by dsimp only; omega) rfl ?_) | (refine Round.mk' (⟨⟨i, j + 1, o ++ [b[j]]⟩, by dsimp only; rw [← hh, mb_nilA e2 hj']; simp, by dsimp only; omega, by dsimp only; omega, by dsimp only; rw [List.length_append]; simp; omega⟩) (by dsimp only; omega) rfl ?_)
    simp (disch := first | omega | (simp <;> omega) | fail) [wrap_i64, wrap_u64, wrap_u8', postsHV_snoc', bothR]
  have hi' : i < a.length := by omega
  by_cases e3 : a[i].code < b[j].code
  · skip
    have he3 := e3
    refine HT.region ?_   -- R4
    simp (disch := first | omega | (simp <;> omega) | fail) [wrap_i64, wrap_u64, wrap_u8']
    refine HT.cond' ?_   -- if 17
    simp (disch := first | omega | (simp <;> omega) | fail) [wrap_i64, wrap_u64, wrap_u8']
    refine HT.skip ?_
    simp (disch := first | omega | (simp <;> omega) | fail) [wrap_i64, wrap_u64, wrap_u8']
    refine HT.block ?_
    refine HT.seq ?_
    refine HT.draw [.batch [0, 1, 2, 3, 4, 5, 6, 7, 8, 9, 10, 11, 12, 13, 14, 15, 16, 17, 18, 19, 20, 21, 22]] (by kernel_rfl) ?_   -- R5
    simp -dsimp (disch := first | omega | (simp <;> omega) | fail) [wrap_i64, wrap_u64, wrap_u8']
    refine HT.cond' ?_   -- if 40
    simp (disch := first | omega | (simp <;> omega) | fail) [wrap_i64, wrap_u64, wrap_u8']
    refine HT.seq ?_
    refine HT.region ?_   -- R6
    simp (disch := first | omega | (simp <;> omega) | fail) [wrap_i64, wrap_u64, wrap_u8']
    refine HT.region ?_   -- R7
    simp (disch := first | omega | (simp <;> omega) | fail) [wrap_i64, wrap_u64, wrap_u8']
    first | (have _t := he3; refine Round.mk' (⟨⟨i + 1, j, o ++ [a[i]]⟩, by dsimp only; rw [← hh, mb_lt hi' hj' he3]; simp, by dsimp only; omega, by dsimp only; omega, by dsimp only; rw [List.length_append]; simp; omega⟩) (by dsimp only; omega) rfl ?_) | (have _t := he4; refine Round.mk' (⟨⟨i, j + 1, o ++ [b[j]]⟩, by dsimp only; rw [← hh, mb_gt hi' hj' e3 he4]; simp, by dsimp only; omega, by dsimp only; omega, by dsimp only; rw [List.length_append]; simp; omega⟩) (by dsimp only; omega) rfl ?_) | (have _t := he5; refine Round.mk' (⟨⟨i + 1, j + 1, o ++ [bothR a[i] b[j]]⟩, by dsimp only; rw [← hh, mb_eq hi' hj' e3 he5]; simp, by dsimp only; omega, by dsimp only; omega, by dsimp only; rw [List.length_append]; simp; omega⟩) (by dsimp only; omega) rfl ?_) | (have _t := hi'; refine Round.mk' (⟨⟨i + 1, j, o ++ [a[i]]⟩, by dsimp only; rw [← hh, mb_nilB hi' e1]; simp, by dsimp only; omega, by dsimp only; omega, by dsimp only; rw [List.length_append]; simp; omega⟩) (by dsimp only; omega) rfl ?_) | (refine Round.mk' (⟨⟨i, j + 1, o ++ [b[j]]⟩, by dsimp only; rw [← hh, mb_nilA e2 hj']; simp, by dsimp only; omega, by dsimp only; omega, by dsimp only; rw [List.length_append]; simp; omega⟩) (by dsimp only; omega) rfl ?_)
    simp (disch := first | omega | (simp <;> omega) | fail) [wrap_i64, wrap_u64, wrap_u8', postsHV_snoc', bothR]
  by_cases e4 : b[j].code < a[i].code
  · skip
    have he4 := e4
    refine HT.region ?_   -- R4
    simp (disch := first | omega | (simp <;> omega) | fail) [wrap_i64, wrap_u64, wrap_u8']
    refine HT.cond' ?_   -- if 17
    simp (disch := first | omega | (simp <;> omega) | fail) [wrap_i64, wrap_u64, wrap_u8']
    refine HT.skip ?_
    simp (disch := first | omega | (simp <;> omega) | fail) [wrap_i64, wrap_u64, wrap_u8']
    refine HT.block ?_
    refine HT.seq ?_
    refine HT.draw [.batch [0, 1, 2, 3, 4, 5, 6, 7, 8, 9, 10, 11, 12, 13, 14, 15, 16, 17, 18, 19, 20, 21, 22]] (by kernel_rfl) ?_   -- R5
    simp -dsimp (disch := first | omega | (simp <;> omega) | fail) [wrap_i64, wrap_u64, wrap_u8']
    refine HT.cond' ?_   -- if 40
    simp (disch := first | omega | (simp <;> omega) | fail) [wrap_i64, wrap_u64, wrap_u8']
    refine HT.seq ?_
    refine HT.draw [.batch [0, 1, 2, 3, 4, 5, 6, 7, 8, 9, 10, 11, 12, 13, 14, 15, 16]] (by kernel_rfl) ?_   -- R8
    simp -dsimp (disch := first | omega | (simp <;> omega) | fail) [wrap_i64, wrap_u64, wrap_u8']
    refine HT.cond' ?_   -- if 66
    simp (disch := first | omega | (simp <;> omega) | fail) [wrap_i64, wrap_u64, wrap_u8']
    refine HT.seq ?_
    refine HT.region ?_   -- R9
    simp (disch := first | omega | (simp <;> omega) | fail) [wrap_i64, wrap_u64, wrap_u8']
    refine HT.region ?_   -- R10
    simp (disch := first | omega | (simp <;> omega) | fail) [wrap_i64, wrap_u64, wrap_u8']
    first | (have _t := he3; refine Round.mk' (⟨⟨i + 1, j, o ++ [a[i]]⟩, by dsimp only; rw [← hh, mb_lt hi' hj' he3]; simp, by dsimp only; omega, by dsimp only; omega, by dsimp only; rw [List.length_append]; simp; omega⟩) (by dsimp only; omega) rfl ?_) | (have _t := he4; refine Round.mk' (⟨⟨i, j + 1, o ++ [b[j]]⟩, by dsimp only; rw [← hh, mb_gt hi' hj' e3 he4]; simp, by dsimp only; omega, by dsimp only; omega, by dsimp only; rw [List.length_append]; simp; omega⟩) (by dsimp only; omega) rfl ?_) | (have _t := he5; refine Round.mk' (⟨⟨i + 1, j + 1, o ++ [bothR a[i] b[j]]⟩, by dsimp only; rw [← hh, mb_eq hi' hj' e3 he5]; simp, by dsimp only; omega, by dsimp only; omega, by dsimp only; rw [List.length_append]; simp; omega⟩) (by dsimp only; omega) rfl ?_) | (have _t := hi'; refine Round.mk' (⟨⟨i + 1, j, o ++ [a[i]]⟩, by dsimp only; rw [← hh, mb_nilB hi' e1]; simp, by dsimp only; omega, by dsimp only; omega, by dsimp only; rw [List.length_append]; simp; omega⟩) (by dsimp only; omega) rfl ?_) | (refine Round.mk' (⟨⟨i, j + 1, o ++ [b[j]]⟩, by dsimp only; rw [← hh, mb_nilA e2 hj']; simp, by dsimp only; omega, by dsimp only; omega, by dsimp only; rw [List.length_append]; simp; omega⟩) (by dsimp only; omega) rfl ?_)
    simp (disch := first | omega | (simp <;> omega) | fail) [wrap_i64, wrap_u64, wrap_u8', postsHV_snoc', bothR]
  have he5 := e4
  refine HT.region ?_   -- R4
  simp (disch := first | omega | (simp <;> omega) | fail) [wrap_i64, wrap_u64, wrap_u8']
  refine HT.cond' ?_   -- if 17
  simp (disch := first | omega | (simp <;> omega) | fail) [wrap_i64, wrap_u64, wrap_u8']
  refine HT.skip ?_
  simp (disch := first | omega | (simp <;> omega) | fail) [wrap_i64, wrap_u64, wrap_u8']
  refine HT.block ?_
  refine HT.seq ?_
  refine HT.draw [.batch [0, 1, 2, 3, 4, 5, 6, 7, 8, 9, 10, 11, 12, 13, 14, 15, 16, 17, 18, 19, 20, 21, 22]] (by kernel_rfl) ?_   -- R5
  simp -dsimp (disch := first | omega | (simp <;> omega) | fail) [wrap_i64, wrap_u64, wrap_u8']
  refine HT.cond' ?_   -- if 40
  simp (disch := first | omega | (simp <;> omega) | fail) [wrap_i64, wrap_u64, wrap_u8']
  refine HT.seq ?_
  refine HT.draw [.batch [0, 1, 2, 3, 4, 5, 6, 7, 8, 9, 10, 11, 12, 13, 14, 15, 16]] (by kernel_rfl) ?_   -- R8
  simp -dsimp (disch := first | omega | (simp <;> omega) | fail) [wrap_i64, wrap_u64, wrap_u8']
  refine HT.cond' ?_   -- if 66
  simp (disch := first | omega | (simp <;> omega) | fail) [wrap_i64, wrap_u64, wrap_u8']
  refine HT.seq ?_
  refine HT.draw [.take 0, .take 1, .take 2, .take 6, .take 7, .take 11, .take 12, .batch [3, 4, 5, 8, 9, 10, 13, 14, 15, 16, 17, 18], .one 19, .batch [20]] (by kernel_rfl) ?_   -- R11
  simp (disch := first | omega | (simp <;> omega) | fail) [wrap_i64, wrap_u64, wrap_u8']
  refine stepK.mk (.call1 _ _ _ rfl Ty.hb56 rfl rfl (both_spec _ _ (hA _ (List.getElem_mem hi')) (hB _ (List.getElem_mem hj')))) ?_
  simp (disch := first | omega | (simp <;> omega) | fail) [wrap_i64, wrap_u64, wrap_u8']
  refine HT.seq ?_
  refine HT.region ?_   -- R12
  simp (disch := first | omega | (simp <;> omega) | fail) [wrap_i64, wrap_u64, wrap_u8']
  refine HT.region ?_   -- R13
  simp (disch := first | omega | (simp <;> omega) | fail) [wrap_i64, wrap_u64, wrap_u8']
  first | (have _t := he3; refine Round.mk' (⟨⟨i + 1, j, o ++ [a[i]]⟩, by dsimp only; rw [← hh, mb_lt hi' hj' he3]; simp, by dsimp only; omega, by dsimp only; omega, by dsimp only; rw [List.length_append]; simp; omega⟩) (by dsimp only; omega) rfl ?_) | (have _t := he4; refine Round.mk' (⟨⟨i, j + 1, o ++ [b[j]]⟩, by dsimp only; rw [← hh, mb_gt hi' hj' e3 he4]; simp, by dsimp only; omega, by dsimp only; omega, by dsimp only; rw [List.length_append]; simp; omega⟩) (by dsimp only; omega) rfl ?_) | (have _t := he5; refine Round.mk' (⟨⟨i + 1, j + 1, o ++ [bothR a[i] b[j]]⟩, by dsimp only; rw [← hh, mb_eq hi' hj' e3 he5]; simp, by dsimp only; omega, by dsimp only; omega, by dsimp only; rw [List.length_append]; simp; omega⟩) (by dsimp only; omega) rfl ?_) | (have _t := hi'; refine Round.mk' (⟨⟨i + 1, j, o ++ [a[i]]⟩, by dsimp only; rw [← hh, mb_nilB hi' e1]; simp, by dsimp only; omega, by dsimp only; omega, by dsimp only; rw [List.length_append]; simp; omega⟩) (by dsimp only; omega) rfl ?_) | (refine Round.mk' (⟨⟨i, j + 1, o ++ [b[j]]⟩, by dsimp only; rw [← hh, mb_nilA e2 hj']; simp, by dsimp only; omega, by dsimp only; omega, by dsimp only; rw [List.length_append]; simp; omega⟩) (by dsimp only; omega) rfl ?_)
  simp (disch := first | omega | (simp <;> omega) | fail) [wrap_i64, wrap_u64, wrap_u8', postsHV_snoc', bothR]
set_option maxRecDepth 20000 in
set_option maxHeartbeats 4000000 in
theorem SamePostings_spec (a b : List Post) (ha : a.length ≤ 140737488355328) (hA : ∀ p ∈ a, p.docs.length ≤ 140737488355328 ∧ ∀ g ∈ p.docs, g.off.length ≤ 140737488355328) : Spec1 Tryz.prog 22 [.sl 2 false (postsHV a), .sl 2 false (postsHV b)] (bo (decide (a = b))) := by
  refine Spec1.of_HT Tryz.func22 rfl (by rw [Tryz.ntmps22]; simp) rfl ?_
  rw [Tryz.ntmps22]
  refine HT.seq ?_
  refine HT.region ?_   -- R0
  simp (disch := first | omega | (simp <;> omega) | fail) [wrap_i64, wrap_u64, wrap_u8']
  refine HT.seq ?_
  refine HT.seq ?_
  by_cases c1 : ¬ a.length = b.length
  · skip
    refine HT.region ?_   -- R1
    simp (disch := first | omega | (simp <;> omega) | fail) [wrap_i64, wrap_u64, wrap_u8']
    refine HT.cond' ?_   -- if 11
    simp (disch := first | omega | (simp <;> omega) | fail) [wrap_i64, wrap_u64, wrap_u8']
    refine HT.seq ?_
    refine HT.region ?_   -- R2
    simp (disch := first | omega | (simp <;> omega) | fail) [wrap_i64, wrap_u64, wrap_u8']
    refine HT.ret ?_
    have : a ≠ b := fun h => c1 (by rw [h])
    simp (disch := first | omega | (simp <;> omega) | fail) [wrap_i64, wrap_u64, wrap_u8', this]
  refine HT.region ?_   -- R1
  simp (disch := first | omega | (simp <;> omega) | fail) [wrap_i64, wrap_u64, wrap_u8']
  refine HT.cond' ?_   -- if 11
  simp (disch := first | omega | (simp <;> omega) | fail) [wrap_i64, wrap_u64, wrap_u8']
  refine HT.skip ?_
  simp (disch := first | omega | (simp <;> omega) | fail) [wrap_i64, wrap_u64, wrap_u8']
  refine HT.seq ?_
  refine HT.seq ?_
  refine HT.region ?_   -- R3
  simp (disch := first | omega | (simp <;> omega) | fail) [wrap_i64, wrap_u64, wrap_u8']
  refine HT.block ?_
  refine HT.loopK (fun k : {k : Nat // k ≤ a.length ∧ ∀ i, i < k → a[i]? = b[i]?} => [.s 5 (i64 k)]) [0, 1] [] (fun k => a.length - k) (⟨0, by omega, by intro i hi; omega⟩) ?_ ?_   -- block 0 turned [5, 30, 31, 32, 33, 34, 35, 36, 37, 38, 39, 40, 41, 42, 74, 75, 76, 77, 78, 79, 80, 81, 82, 83, 84, 85, 86, 87, 88, 89, 90, 91, 92, 93]
  · simp (disch := first | omega | (simp <;> omega) | fail) [wrap_i64, wrap_u64, wrap_u8']
  rintro ⟨k, hk, hg⟩
  simp (disch := first | omega | (simp <;> omega) | fail) [wrap_i64, wrap_u64, wrap_u8']
  refine HT.seq ?_
  refine HT.seq ?_
  refine HT.region ?_   -- R4
  simp (disch := first | omega | (simp <;> omega) | fail) [wrap_i64, wrap_u64, wrap_u8']
  refine HT.cond' ?_   -- if 15
  simp (disch := first | omega | (simp <;> omega) | fail) [wrap_i64, wrap_u64, wrap_u8']
  refine ⟨fun h15 => ?_, fun h15 => ?_⟩
  · skip
    have hk' : k < a.length := by omega
    have hkb : k < b.length := by omega
    have hAk := hA _ (List.getElem_mem hk')
    refine HT.skip ?_
    simp (disch := first | omega | (simp <;> omega) | fail) [wrap_i64, wrap_u64, wrap_u8']
    refine HT.seq ?_
    refine HT.block ?_
    refine HT.seq ?_
    refine HT.seq ?_
    by_cases d1 : ¬ a[k].code = b[k].code
    · skip
      refine HT.draw [.batch [0, 1, 2, 3, 4, 5, 6, 7, 8, 9, 10, 11, 12, 13, 14, 15, 16, 17, 18, 19, 20, 21, 22, 23, 24, 25]] (by kernel_rfl) ?_   -- R6
      simp -dsimp (disch := first | omega | (simp <;> omega) | fail) [wrap_i64, wrap_u64, wrap_u8']
      refine HT.cond' ?_   -- if 43
      simp (disch := first | omega | (simp <;> omega) | fail) [wrap_i64, wrap_u64, wrap_u8']
      refine HT.seq ?_
      refine HT.region ?_   -- R7
      simp (disch := first | omega | (simp <;> omega) | fail) [wrap_i64, wrap_u64, wrap_u8']
      refine HT.ret ?_
      have : a ≠ b := fun h => by subst h; first | exact d1 rfl | exact d2 rfl
      simp (disch := first | omega | (simp <;> omega) | fail) [wrap_i64, wrap_u64, wrap_u8', this]
    rw [Classical.not_not] at d1
    by_cases d2 : ¬ a[k].docs.length = b[k].docs.length
    · skip
      refine HT.draw [.batch [0, 1, 2, 3, 4, 5, 6, 7, 8, 9, 10, 11, 12, 13, 14, 15, 16, 17, 18, 19, 20, 21, 22, 23, 24, 25]] (by kernel_rfl) ?_   -- R6
      simp -dsimp (disch := first | omega | (simp <;> omega) | fail) [wrap_i64, wrap_u64, wrap_u8']
      refine HT.cond' ?_   -- if 43
      simp (disch := first | omega | (simp <;> omega) | fail) [wrap_i64, wrap_u64, wrap_u8']
      refine HT.seq ?_
      refine HT.region ?_   -- R7
      simp (disch := first | omega | (simp <;> omega) | fail) [wrap_i64, wrap_u64, wrap_u8']
      refine HT.ret ?_
      have : a ≠ b := fun h => by subst h; first | exact d1 rfl | exact d2 rfl
      simp (disch := first | omega | (simp <;> omega) | fail) [wrap_i64, wrap_u64, wrap_u8', this]
    rw [Classical.not_not] at d2
    refine HT.draw [.batch [0, 1, 2, 3, 4, 5, 6, 7, 8, 9, 10, 11, 12, 13, 14, 15, 16, 17, 18, 19, 20, 21, 22, 23, 24, 25]] (by kernel_rfl) ?_   -- R6
    simp -dsimp (disch := first | omega | (simp <;> omega) | fail) [wrap_i64, wrap_u64, wrap_u8']
    refine HT.cond' ?_   -- if 43
    simp (disch := first | omega | (simp <;> omega) | fail) [wrap_i64, wrap_u64, wrap_u8']
    refine HT.skip ?_
    simp (disch := first | omega | (simp <;> omega) | fail) [wrap_i64, wrap_u64, wrap_u8']
    refine HT.seq ?_
    refine HT.region ?_   -- R8
    simp (disch := first | omega | (simp <;> omega) | fail) [wrap_i64, wrap_u64, wrap_u8']
    refine HT.block ?_
    refine HT.loopK (fun j : {j : Nat // j ≤ a[k].docs.length ∧ ∀ i, i < j → a[k].docs[i]? = b[k].docs[i]?} => [.s 6 (i64 j)]) [0, 1, 5, 30, 31, 32, 33, 34, 35, 36, 37, 38, 39, 40, 41, 42] [] (fun j => a[k].docs.length - j) (⟨0, by omega, by intro i hi; omega⟩) ?_ ?_   -- block 2 turned [6, 74, 75, 76, 77, 78, 79, 80, 81, 82, 83, 84, 85, 86, 87, 88, 89, 90, 91, 92, 93]
    · simp (disch := first | omega | (simp <;> omega) | fail) [wrap_i64, wrap_u64, wrap_u8']
    rintro ⟨j, hj, hgj⟩
    simp (disch := first | omega | (simp <;> omega) | fail) [wrap_i64, wrap_u64, wrap_u8']
    refine HT.seq ?_
    refine HT.seq ?_
    refine HT.region ?_   -- R9
    simp (disch := first | omega | (simp <;> omega) | fail) [wrap_i64, wrap_u64, wrap_u8']
    refine HT.cond' ?_   -- if 51
    simp (disch := first | omega | (simp <;> omega) | fail) [wrap_i64, wrap_u64, wrap_u8']
    refine ⟨fun h51 => ?_, fun h51 => ?_⟩
    · skip
      have hj' : j < a[k].docs.length := by omega
      have hjb : j < b[k].docs.length := by omega
      refine HT.skip ?_
      simp (disch := first | omega | (simp <;> omega) | fail) [wrap_i64, wrap_u64, wrap_u8']
      refine HT.seq ?_
      refine HT.block ?_
      refine HT.seq ?_
      by_cases f1 : ¬ a[k].docs[j].code = b[k].docs[j].code
      · skip
        refine HT.draw [.batch [0, 1, 2, 3, 4, 5, 6, 7, 8, 9, 10, 11, 12, 13, 14, 15, 16, 17, 18, 19, 20, 21, 22, 23, 24, 25, 26, 27, 28, 29, 30, 31, 32, 33, 34, 35, 36, 37, 38, 39, 40]] (by kernel_rfl) ?_   -- R11
        simp -dsimp (disch := first | omega | (simp <;> omega) | fail) [wrap_i64, wrap_u64, wrap_u8']
        refine HT.cond' ?_   -- if 94
        simp (disch := first | omega | (simp <;> omega) | fail) [wrap_i64, wrap_u64, wrap_u8']
        refine HT.seq ?_
        refine HT.region ?_   -- R12
        simp (disch := first | omega | (simp <;> omega) | fail) [wrap_i64, wrap_u64, wrap_u8']
        refine HT.ret ?_
        have : a ≠ b := fun h => by subst h; first | exact f1 rfl | exact f2 rfl
        simp (disch := first | omega | (simp <;> omega) | fail) [wrap_i64, wrap_u64, wrap_u8', this]
      rw [Classical.not_not] at f1
      by_cases f2 : ¬ a[k].docs[j].off = b[k].docs[j].off
      · skip
        refine HT.draw [.batch [0, 1, 2, 3, 4, 5, 6, 7, 8, 9, 10, 11, 12, 13, 14, 15, 16, 17, 18, 19, 20, 21, 22, 23, 24, 25, 26, 27, 28, 29, 30, 31, 32, 33, 34, 35, 36, 37, 38, 39, 40]] (by kernel_rfl) ?_   -- R11
        simp -dsimp (disch := first | omega | (simp <;> omega) | fail) [wrap_i64, wrap_u64, wrap_u8']
        refine stepK.mk (.call1 _ _ _ rfl Ty.hb18 rfl rfl (Ints_spec false false _ _ (hAk.2 _ (List.getElem_mem hj')))) ?_
        simp -dsimp (disch := first | omega | (simp <;> omega) | fail) [wrap_i64, wrap_u64, wrap_u8', f2]
        refine HT.cond' ?_   -- if 94
        simp (disch := first | omega | (simp <;> omega) | fail) [wrap_i64, wrap_u64, wrap_u8']
        refine HT.seq ?_
        refine HT.region ?_   -- R12
        simp (disch := first | omega | (simp <;> omega) | fail) [wrap_i64, wrap_u64, wrap_u8']
        refine HT.ret ?_
        have : a ≠ b := fun h => by subst h; first | exact f1 rfl | exact f2 rfl
        simp (disch := first | omega | (simp <;> omega) | fail) [wrap_i64, wrap_u64, wrap_u8', this]
      rw [Classical.not_not] at f2
      refine HT.draw [.batch [0, 1, 2, 3, 4, 5, 6, 7, 8, 9, 10, 11, 12, 13, 14, 15, 16, 17, 18, 19, 20, 21, 22, 23, 24, 25, 26, 27, 28, 29, 30, 31, 32, 33, 34, 35, 36, 37, 38, 39, 40]] (by kernel_rfl) ?_   -- R11
      simp -dsimp (disch := first | omega | (simp <;> omega) | fail) [wrap_i64, wrap_u64, wrap_u8']
      refine stepK.mk (.call1 _ _ _ rfl Ty.hb18 rfl rfl (Ints_spec false false _ _ (hAk.2 _ (List.getElem_mem hj')))) ?_
      simp -dsimp (disch := first | omega | (simp <;> omega) | fail) [wrap_i64, wrap_u64, wrap_u8', f2]
      refine HT.cond' ?_   -- if 94
      simp (disch := first | omega | (simp <;> omega) | fail) [wrap_i64, wrap_u64, wrap_u8']
      refine HT.skip ?_
      simp (disch := first | omega | (simp <;> omega) | fail) [wrap_i64, wrap_u64, wrap_u8']
      refine HT.region ?_   -- R10
      simp (disch := first | omega | (simp <;> omega) | fail) [wrap_i64, wrap_u64, wrap_u8']
      refine Round.mk' (⟨j + 1, by omega, agreeX hgj (by rw [List.getElem?_eq_getElem hj', List.getElem?_eq_getElem hjb, gram_eqX f1 f2])⟩) (by dsimp only; omega) rfl ?_
      simp (disch := first | omega | (simp <;> omega) | fail) [wrap_i64, wrap_u64, wrap_u8']
    · skip
      obtain rfl : j = a[k].docs.length := by omega
      have hpe : a[k] = b[k] := post_eq d1 (extX d2 hgj)
      refine HT.exit ?_
      simp (disch := first | omega | (simp <;> omega) | fail) [wrap_i64, wrap_u64, wrap_u8']
      refine HT.region ?_   -- R5
      simp (disch := first | omega | (simp <;> omega) | fail) [wrap_i64, wrap_u64, wrap_u8']
      refine Round.mk' (⟨k + 1, by omega, agreeX hg (by rw [List.getElem?_eq_getElem hk', List.getElem?_eq_getElem hkb, hpe])⟩) (by dsimp only; omega) rfl ?_
      simp (disch := first | omega | (simp <;> omega) | fail) [wrap_i64, wrap_u64, wrap_u8']
  · skip
    obtain rfl : k = a.length := by omega
    refine HT.exit ?_
    simp (disch := first | omega | (simp <;> omega) | fail) [wrap_i64, wrap_u64, wrap_u8']
    refine HT.seq ?_
    refine HT.region ?_   -- R13
    simp (disch := first | omega | (simp <;> omega) | fail) [wrap_i64, wrap_u64, wrap_u8']
    refine HT.ret ?_
    have : a = b := extX (by omega) hg
    simp (disch := first | omega | (simp <;> omega) | fail) [wrap_i64, wrap_u64, wrap_u8', this]
theorem dK_spec (dead : List Int) (hd : dead.length ≤ 1000000) (l : List Gram) (hl : l.length ≤ 1000000) : Spec1 Tryz.prog 44 [.sl 2 false (gramsHV l), .fn (.func 45) [.cptr [.sl 1 false (intsHV dead)]]] (.sl 2 false (gramsHV (gK dead l))) :=
  keepG_spec 45 Ty.hb45 [.cptr [.sl 1 false (intsHV dead)]] (by simp [isIL, isI]) (fun d => aliveB dead d.code) l hl (fun d _ => FilterC2_spec false dead hd d)
theorem filterV_eq (s : Seg) (dead : List Int) : filterV s dead = ⟨s.docs.filter fun d => aliveB dead d.id, filtP dead s.grams⟩ := rfl
set_option maxHeartbeats 4000000 in
theorem Filter_spec (s : Seg) (dead : List Int) (hs : SegB 1000000 s) (hd : dead.length ≤ 1000000) : Spec1 Tryz.prog 16 [.agg s.enc, .sl 1 false (intsHV dead)] (.agg (filterV s dead).enc) := by
  refine Spec1.of_HT Tryz.func16 rfl (by rw [Tryz.ntmps16]; simp) rfl ?_
  rw [Tryz.ntmps16]
  refine HT.seq ?_
  refine HT.region ?_   -- R0
  simp (disch := first | omega | (simp <;> omega) | fail) [wrap_i64, wrap_u64, wrap_u8']
  refine HT.weaken (HS.le_frzbox 3 3 (by decide) rfl rfl (by simp [isIL, isI])) ?_
  simp
  refine HT.seq ?_
  refine HT.region ?_   -- R1
  simp (disch := first | omega | (simp <;> omega) | fail) [wrap_i64, wrap_u64, wrap_u8']
  refine stepK.mk (.call1f _ _ _ _ _ rfl Ty.hb29 rfl rfl (keepD_spec 43 Ty.hb43 [.cptr [.sl 1 false (intsHV dead)]] (by simp [isIL, isI]) (fun d => aliveB dead d.id) s.docs hs.1 (fun d _ => FilterC1_spec false dead hd d)) rfl) ?_
  simp (disch := first | omega | (simp <;> omega) | fail) [wrap_i64, wrap_u64, wrap_u8']
  refine HT.weaken (HS.le_boxown 5 1 200 56 2 0 rfl rfl (by decide) (by decide)) ?_
  refine HT.seq ?_
  refine HT.seq ?_
  refine HT.region ?_   -- R2
  simp (disch := first | omega | (simp <;> omega) | fail) [wrap_i64, wrap_u64, wrap_u8']
  refine HT.block ?_
  refine HT.loopK (fun k : {k : Nat // k ≤ s.grams.length} => [.s 16 (i64 k), .o 5 (.box [.sl 5 false (docsHV (s.docs.filter fun d => aliveB dead d.id)), .ref 200]), .o 200 (.row 56 2 (postsHV (filtP dead (s.grams.take k))))]) [3, 4, 5, 14, 15] [3, 4] (fun k => s.grams.length - k) (⟨0, by omega⟩) ?_ ?_   -- block 0 turned [16]
  · simp (disch := first | omega | (simp <;> omega) | fail) [wrap_i64, wrap_u64, wrap_u8', filtP]
  rintro ⟨k, hk⟩
  simp (disch := first | omega | (simp <;> omega) | fail) [wrap_i64, wrap_u64, wrap_u8']
  refine HT.seq ?_
  refine HT.region ?_   -- R3
  simp (disch := first | omega | (simp <;> omega) | fail) [wrap_i64, wrap_u64, wrap_u8']
  refine HT.seq ?_
  refine HT.cond' ?_   -- if 17
  simp (disch := first | omega | (simp <;> omega) | fail) [wrap_i64, wrap_u64, wrap_u8']
  refine ⟨fun h17 => ?_, fun h17 => ?_⟩
  · skip
    have hk' : k < s.grams.length := by omega
    have hfl := filtP_length dead s.grams k
    have hsg := hs.2.1
    refine HT.skip ?_
    simp (disch := first | omega | (simp <;> omega) | fail) [wrap_i64, wrap_u64, wrap_u8']
    refine HT.seq ?_
    refine HT.block ?_
    refine HT.seq ?_
    refine HT.region ?_   -- R4
    simp (disch := first | omega | (simp <;> omega) | fail) [wrap_i64, wrap_u64, wrap_u8']
    refine HT.seq ?_
    refine HT.region ?_   -- R5
    simp (disch := first | omega | (simp <;> omega) | fail) [wrap_i64, wrap_u64, wrap_u8']
    refine stepK.mk (.call1f _ _ _ _ _ rfl Ty.hb44 rfl rfl (dK_spec dead hd s.grams[k].docs (hs.2.2 _ (List.getElem_mem hk'))) rfl) ?_
    simp (disch := first | omega | (simp <;> omega) | fail) [wrap_i64, wrap_u64, wrap_u8']
    refine HT.seq ?_
    refine HT.region ?_   -- R6
    simp (disch := first | omega | (simp <;> omega) | fail) [wrap_i64, wrap_u64, wrap_u8']
    refine HT.cond' ?_   -- if 28
    simp (disch := first | omega | (simp <;> omega) | fail) [wrap_i64, wrap_u64, wrap_u8']
    refine ⟨fun h28 => ?_, fun h28 => ?_⟩
    · skip
      have hT28 : ¬ gK dead s.grams[k].docs = [] := by first | exact h28 | exact pos_ne h28 | (intro e; simp [e] at h28)
      refine HT.region ?_   -- R7
      simp (disch := first | omega | (simp <;> omega) | fail) [wrap_i64, wrap_u64, wrap_u8']
      refine HT.region ?_   -- R8
      simp (disch := first | omega | (simp <;> omega) | fail) [wrap_i64, wrap_u64, wrap_u8']
      refine Round.mk' (⟨k + 1, by omega⟩) (by dsimp only; omega) rfl ?_
      simp (disch := first | omega | (simp <;> omega) | fail) [wrap_i64, wrap_u64, wrap_u8']
      first
      | (rw [filtP_succ hk', if_neg hT28]; try simp [postsHV])
      | (rw [filtP_succ hk', if_pos hF28]; try simp)
    · skip
      have hF28 : gK dead s.grams[k].docs = [] := by first | exact h28 | exact npos_eq h28 | simpa using h28
      refine HT.skip ?_
      simp (disch := first | omega | (simp <;> omega) | fail) [wrap_i64, wrap_u64, wrap_u8']
      refine HT.region ?_   -- R8
      simp (disch := first | omega | (simp <;> omega) | fail) [wrap_i64, wrap_u64, wrap_u8']
      refine Round.mk' (⟨k + 1, by omega⟩) (by dsimp only; omega) rfl ?_
      simp (disch := first | omega | (simp <;> omega) | fail) [wrap_i64, wrap_u64, wrap_u8']
      first
      | (rw [filtP_succ hk', if_neg hT28]; try simp [postsHV])
      | (rw [filtP_succ hk', if_pos hF28]; try simp)
  · skip
    obtain rfl : k = s.grams.length := by omega
    refine HT.exit ?_
    simp (disch := first | omega | (simp <;> omega) | fail) [wrap_i64, wrap_u64, wrap_u8']
    refine HT.seq ?_
    refine HT.region ?_   -- R9
    simp (disch := first | omega | (simp <;> omega) | fail) [wrap_i64, wrap_u64, wrap_u8']
    refine HT.ret ?_
    simp (disch := first | omega | (simp <;> omega) | fail) [wrap_i64, wrap_u64, wrap_u8', filterV_eq]
theorem gK_succ {dead : List Int} {l : List Gram} {j : Nat} (hj : j < l.length) : gK dead (l.take (j + 1)) = gK dead (l.take j) ++ if l[j].code ∈ dead then [] else [l[j]] := by
  unfold gK
  rw [filt_succ _ hj]
  by_cases h : l[j].code ∈ dead <;> simp [h, aliveB]
theorem gK_take_le (dead : List Int) (l : List Gram) (j : Nat) : (gK dead (l.take j)).length ≤ l.length := by
  have := gK_length dead (l.take j); rw [List.length_take] at this; omega
def dKeep (dead : List Int) (l : List Doc) : List Doc := l.filter fun d => aliveB dead d.id
theorem dKeep_succ {dead : List Int} {l : List Doc} {j : Nat} (hj : j < l.length) : dKeep dead (l.take (j + 1)) = dKeep dead (l.take j) ++ if l[j].id ∈ dead then [] else [l[j]] := by
  unfold dKeep
  rw [filt_succ _ hj]
  by_cases h : l[j].id ∈ dead <;> simp [h, aliveB]
theorem dKeep_take_le (dead : List Int) (l : List Doc) (j : Nat) : (dKeep dead (l.take j)).length ≤ l.length := filt_le _ l j
set_option maxHeartbeats 4000000 in
set_option maxRecDepth 20000 in
theorem refFilter_spec (s : Seg) (dead : List Int) (hs : SegB 1000000 s) (hd : dead.length ≤ 1000000) : Spec1 Tryz.prog 17 [.agg s.enc, .sl 1 false (intsHV dead)] (.agg (filterV s dead).enc) := by
  have hsd := hs.1
  have hsg := hs.2.1
  refine Spec1.of_HT Tryz.func17 rfl (by rw [Tryz.ntmps17]; simp) rfl ?_
  rw [Tryz.ntmps17]
  refine HT.seq ?_
  refine HT.region ?_   -- R0
  simp (disch := first | omega | (simp <;> omega) | fail) [wrap_i64, wrap_u64, wrap_u8']
  refine HT.seq ?_
  refine HT.region ?_   -- R1
  simp (disch := first | omega | (simp <;> omega) | fail) [wrap_i64, wrap_u64, wrap_u8']
  refine HT.weaken (HS.le_boxown 5 0 200 47 5 0 rfl rfl (by decide) (by decide)) ?_
  simp
  refine HT.weaken (HS.le_boxown 5 1 201 56 2 0 (by rfl) (by rfl) (by decide) (by decide)) ?_
  refine HT.seq ?_
  refine HT.seq ?_
  refine HT.region ?_   -- R2
  simp (disch := first | omega | (simp <;> omega) | fail) [wrap_i64, wrap_u64, wrap_u8']
  refine HT.block ?_
  refine HT.loopK (fun k : {k : Nat // k ≤ s.docs.length} => [.s 6 (i64 k), .o 5 (.box [.ref 200, .ref 201]), .o 200 (.row 47 5 (docsHV (dKeep dead (s.docs.take k)))), .o 201 (.row 56 2 [])]) [1, 2, 4, 5] [2, 4] (fun k => s.docs.length - k) (⟨0, by omega⟩) ?_ ?_   -- block 0 turned [6]
  · simp (disch := first | omega | (simp <;> omega) | fail) [wrap_i64, wrap_u64, wrap_u8', dKeep]
  rintro ⟨k, hk⟩
  simp (disch := first | omega | (simp <;> omega) | fail) [wrap_i64, wrap_u64, wrap_u8']
  refine HT.seq ?_
  refine HT.seq ?_
  refine HT.region ?_   -- R3
  simp (disch := first | omega | (simp <;> omega) | fail) [wrap_i64, wrap_u64, wrap_u8']
  refine HT.cond' ?_   -- if 14
  simp (disch := first | omega | (simp <;> omega) | fail) [wrap_i64, wrap_u64, wrap_u8']
  refine ⟨fun h14 => ?_, fun h14 => ?_⟩
  · skip
    have hk' : k < s.docs.length := by omega
    have hfl := dKeep_take_le dead s.docs k
    refine HT.skip ?_
    simp (disch := first | omega | (simp <;> omega) | fail) [wrap_i64, wrap_u64, wrap_u8']
    refine HT.seq ?_
    refine HT.block ?_
    refine HT.seq ?_
    refine HT.region ?_   -- R5
    simp (disch := first | omega | (simp <;> omega) | fail) [wrap_i64, wrap_u64, wrap_u8']
    refine stepK.mk (.call1 _ _ _ _ rfl Ty.hb25 rfl (Has_spec false dead s.docs[k].id (by omega)) rfl rfl) ?_
    simp (disch := first | omega | (simp <;> omega) | fail) [wrap_i64, wrap_u64, wrap_u8']
    refine HT.cond' ?_   -- if 25
    simp (disch := first | omega | (simp <;> omega) | fail) [wrap_i64, wrap_u64, wrap_u8']
    refine ⟨fun h25 => ?_, fun h25 => ?_⟩
    · skip
      refine HT.draw [.take 4, .batch [0, 1, 2, 3, 5, 6, 7], .one 8, .batch [9], .one 10] (by kernel_rfl) ?_   -- R6
      simp (disch := first | omega | (simp <;> omega) | fail) [wrap_i64, wrap_u64, wrap_u8']
      refine HT.region ?_   -- R4
      simp (disch := first | omega | (simp <;> omega) | fail) [wrap_i64, wrap_u64, wrap_u8']
      refine Round.mk' (⟨k + 1, by omega⟩) (by dsimp only; omega) rfl ?_
      simp (disch := first | omega | (simp <;> omega) | fail) [wrap_i64, wrap_u64, wrap_u8', dKeep_succ hk', h25, docsHV_snoc']
    · skip
      refine HT.skip ?_
      simp (disch := first | omega | (simp <;> omega) | fail) [wrap_i64, wrap_u64, wrap_u8']
      refine HT.region ?_   -- R4
      simp (disch := first | omega | (simp <;> omega) | fail) [wrap_i64, wrap_u64, wrap_u8']
      refine Round.mk' (⟨k + 1, by omega⟩) (by dsimp only; omega) rfl ?_
      simp (disch := first | omega | (simp <;> omega) | fail) [wrap_i64, wrap_u64, wrap_u8', dKeep_succ hk', h25, docsHV_snoc']
  · skip
    obtain rfl : k = s.docs.length := by omega
    refine HT.exit ?_
    simp (disch := first | omega | (simp <;> omega) | fail) [wrap_i64, wrap_u64, wrap_u8']
    refine HT.seq ?_
    refine HT.seq ?_
    refine HT.region ?_   -- R7
    simp (disch := first | omega | (simp <;> omega) | fail) [wrap_i64, wrap_u64, wrap_u8']
    refine HT.block ?_
    refine HT.loopK (fun k : {k : Nat // k ≤ s.grams.length} => [.s 7 (i64 k), .o 5 (.box [.ref 200, .ref 201]), .o 200 (.row 47 5 (docsHV (dKeep dead s.docs))), .o 201 (.row 56 2 (postsHV (filtP dead (s.grams.take k))))]) [1, 2, 4, 5] [2, 4] (fun k => s.grams.length - k) (⟨0, by omega⟩) ?_ ?_   -- block 2 turned [7]
    · simp (disch := first | omega | (simp <;> omega) | fail) [wrap_i64, wrap_u64, wrap_u8', filtP]
    rintro ⟨k, hk⟩
    simp (disch := first | omega | (simp <;> omega) | fail) [wrap_i64, wrap_u64, wrap_u8']
    refine HT.seq ?_
    refine HT.seq ?_
    refine HT.region ?_   -- R8
    simp (disch := first | omega | (simp <;> omega) | fail) [wrap_i64, wrap_u64, wrap_u8']
    refine HT.cond' ?_   -- if 40
    simp (disch := first | omega | (simp <;> omega) | fail) [wrap_i64, wrap_u64, wrap_u8']
    refine ⟨fun h40 => ?_, fun h40 => ?_⟩
    · skip
      have hk' : k < s.grams.length := by omega
      have hfl := filtP_length dead s.grams k
      have hgb := hs.2.2 _ (List.getElem_mem hk')
      refine HT.skip ?_
      simp (disch := first | omega | (simp <;> omega) | fail) [wrap_i64, wrap_u64, wrap_u8']
      refine HT.seq ?_
      refine HT.block ?_
      refine HT.seq ?_
      refine HT.region ?_   -- R10
      simp (disch := first | omega | (simp <;> omega) | fail) [wrap_i64, wrap_u64, wrap_u8']
      refine HT.weaken (HS.le_boxown 8 1 202 58 2 0 rfl rfl (by decide) (by decide)) ?_
      refine HT.seq ?_
      refine HT.seq ?_
      refine HT.region ?_   -- R11
      simp (disch := first | omega | (simp <;> omega) | fail) [wrap_i64, wrap_u64, wrap_u8']
      refine HT.block ?_
      refine HT.loopK (fun j : {j : Nat // j ≤ s.grams[k].docs.length} => [.s 9 (i64 j), .o 8 (.box [i64 s.grams[k].code, .ref 202]), .o 202 (.row 58 2 (gramsHV (gK dead (s.grams[k].docs.take j))))]) [1, 2, 4, 5, 7, 8] [2, 4, 5, 200, 201] (fun j => s.grams[k].docs.length - j) (⟨0, by omega⟩) ?_ ?_   -- block 4 turned [9]
      · simp (disch := first | omega | (simp <;> omega) | fail) [wrap_i64, wrap_u64, wrap_u8', gK]
      rintro ⟨j, hj⟩
      simp (disch := first | omega | (simp <;> omega) | fail) [wrap_i64, wrap_u64, wrap_u8']
      refine HT.seq ?_
      refine HT.seq ?_
      refine HT.region ?_   -- R12
      simp (disch := first | omega | (simp <;> omega) | fail) [wrap_i64, wrap_u64, wrap_u8']
      refine HT.cond' ?_   -- if 58
      simp (disch := first | omega | (simp <;> omega) | fail) [wrap_i64, wrap_u64, wrap_u8']
      refine ⟨fun h58 => ?_, fun h58 => ?_⟩
      · skip
        have hj' : j < s.grams[k].docs.length := by omega
        have hgl := gK_take_le dead s.grams[k].docs j
        refine HT.skip ?_
        simp (disch := first | omega | (simp <;> omega) | fail) [wrap_i64, wrap_u64, wrap_u8']
        refine HT.seq ?_
        refine HT.block ?_
        refine HT.seq ?_
        refine HT.region ?_   -- R14
        simp (disch := first | omega | (simp <;> omega) | fail) [wrap_i64, wrap_u64, wrap_u8']
        refine stepK.mk (.call1 _ _ _ _ rfl Ty.hb25 rfl (Has_spec false dead s.grams[k].docs[j].code (by omega)) rfl rfl) ?_
        simp (disch := first | omega | (simp <;> omega) | fail) [wrap_i64, wrap_u64, wrap_u8']
        refine HT.cond' ?_   -- if 73
        simp (disch := first | omega | (simp <;> omega) | fail) [wrap_i64, wrap_u64, wrap_u8']
        refine ⟨fun h73 => ?_, fun h73 => ?_⟩
        · skip
          refine HT.draw [.take 4, .take 8, .batch [0, 1, 2, 3, 5, 6, 7, 9, 10, 11], .one 12, .batch [13], .one 14] (by kernel_rfl) ?_   -- R15
          simp (disch := first | omega | (simp <;> omega) | fail) [wrap_i64, wrap_u64, wrap_u8']
          refine HT.region ?_   -- R13
          simp (disch := first | omega | (simp <;> omega) | fail) [wrap_i64, wrap_u64, wrap_u8']
          refine Round.mk' (⟨j + 1, by omega⟩) (by dsimp only; omega) rfl ?_
          simp (disch := first | omega | (simp <;> omega) | fail) [wrap_i64, wrap_u64, wrap_u8', gK_succ hj', h73, gramsHV_snoc']
        · skip
          refine HT.skip ?_
          simp (disch := first | omega | (simp <;> omega) | fail) [wrap_i64, wrap_u64, wrap_u8']
          refine HT.region ?_   -- R13
          simp (disch := first | omega | (simp <;> omega) | fail) [wrap_i64, wrap_u64, wrap_u8']
          refine Round.mk' (⟨j + 1, by omega⟩) (by dsimp only; omega) rfl ?_
          simp (disch := first | omega | (simp <;> omega) | fail) [wrap_i64, wrap_u64, wrap_u8', gK_succ hj', h73, gramsHV_snoc']
      · skip
        obtain rfl : j = s.grams[k].docs.length := by omega
        refine HT.exit ?_
        simp (disch := first | omega | (simp <;> omega) | fail) [wrap_i64, wrap_u64, wrap_u8']
        refine HT.seq ?_
        refine HT.region ?_   -- R16
        simp (disch := first | omega | (simp <;> omega) | fail) [wrap_i64, wrap_u64, wrap_u8']
        refine HT.cond' ?_   -- if 91
        simp (disch := first | omega | (simp <;> omega) | fail) [wrap_i64, wrap_u64, wrap_u8']
        refine ⟨fun h91 => ?_, fun h91 => ?_⟩
        · skip
          have hT28 : ¬ gK dead s.grams[k].docs = [] := by first | exact h91 | exact pos_ne h91 | (intro e; simp [e] at h91)
          refine HT.region ?_   -- R17
          simp (disch := first | omega | (simp <;> omega) | fail) [wrap_i64, wrap_u64, wrap_u8']
          refine HT.region ?_   -- R9
          simp (disch := first | omega | (simp <;> omega) | fail) [wrap_i64, wrap_u64, wrap_u8']
          refine Round.mk' (⟨k + 1, by omega⟩) (by dsimp only; omega) rfl ?_
          simp (disch := first | omega | (simp <;> omega) | fail) [wrap_i64, wrap_u64, wrap_u8']
          first
          | (rw [filtP_succ hk', if_neg hT28]; try simp [postsHV])
          | (rw [filtP_succ hk', if_pos hF28]; try simp)
        · skip
          have hF28 : gK dead s.grams[k].docs = [] := by first | exact h91 | exact npos_eq h91 | simpa using h91
          refine HT.skip ?_
          simp (disch := first | omega | (simp <;> omega) | fail) [wrap_i64, wrap_u64, wrap_u8']
          refine HT.region ?_   -- R9
          simp (disch := first | omega | (simp <;> omega) | fail) [wrap_i64, wrap_u64, wrap_u8']
          refine Round.mk' (⟨k + 1, by omega⟩) (by dsimp only; omega) rfl ?_
          simp (disch := first | omega | (simp <;> omega) | fail) [wrap_i64, wrap_u64, wrap_u8']
          first
          | (rw [filtP_succ hk', if_neg hT28]; try simp [postsHV])
          | (rw [filtP_succ hk', if_pos hF28]; try simp)
    · skip
      obtain rfl : k = s.grams.length := by omega
      refine HT.exit ?_
      simp (disch := first | omega | (simp <;> omega) | fail) [wrap_i64, wrap_u64, wrap_u8']
      refine HT.seq ?_
      refine HT.region ?_   -- R18
      simp (disch := first | omega | (simp <;> omega) | fail) [wrap_i64, wrap_u64, wrap_u8']
      refine HT.ret ?_
      simp (disch := first | omega | (simp <;> omega) | fail) [wrap_i64, wrap_u64, wrap_u8', filterV_eq, show (s.docs.filter fun d => aliveB dead d.id) = dKeep dead s.docs from rfl]
end Go.Hv
set_option linter.unusedVariables false
set_option linter.unusedSimpArgs false
/- Stable order by a number, in plain lists: what merging in place by rotations gives. -/
namespace Go.Stab
variable {α : Type}
def Srt (key : α → Int) (l : List α) : Prop := l.Pairwise fun x y => key x ≤ key y
def Stb (key : α → Int) (a b : List α) : Prop := ∀ k : Int, a.filter (fun x => decide (key x = k)) = b.filter (fun x => decide (key x = k))
theorem Stb.refl (key : α → Int) (a : List α) : Stb key a a := fun _ => rfl
theorem Stb.symm {key : α → Int} {a b : List α} (h : Stb key a b) : Stb key b a := fun k => (h k).symm
theorem Stb.trans {key : α → Int} {a b c : List α} (h : Stb key a b) (g : Stb key b c) : Stb key a c := fun k => (h k).trans (g k)
theorem Stb.append {key : α → Int} {a b c d : List α} (h : Stb key a b) (g : Stb key c d) : Stb key (a ++ c) (b ++ d) := fun k => by
  rw [List.filter_append, List.filter_append, h k, g k]
theorem Stb.mem {key : α → Int} {a b : List α} (h : Stb key a b) (x : α) : x ∈ a ↔ x ∈ b := by
  have := h (key x)
  constructor
  · intro hx
    have : x ∈ b.filter (fun y => decide (key y = key x)) := by rw [← this]; exact List.mem_filter.2 ⟨hx, by simp⟩
    exact (List.mem_filter.1 this).1
  · intro hx
    have : x ∈ a.filter (fun y => decide (key y = key x)) := by rw [this]; exact List.mem_filter.2 ⟨hx, by simp⟩
    exact (List.mem_filter.1 this).1
theorem Stb.unique {key : α → Int} : ∀ {a b : List α}, Srt key a → Srt key b → Stb key a b → a = b
  | [], [], _, _, _ => rfl
  | [], y :: b, _, _, h => by have := (h.mem y).2 (by simp); simp at this
  | x :: a, [], _, _, h => by have := (h.mem x).1 (by simp); simp at this
  | x :: a, y :: b, ha, hb, h => by
    have h1 : key x ≤ key y := by
      rcases List.mem_cons.1 ((h.mem y).2 (by simp)) with e | e
      · rw [e]; exact Int.le_refl _
      · exact (List.pairwise_cons.1 ha).1 y e
    have h2 : key y ≤ key x := by
      rcases List.mem_cons.1 ((h.mem x).1 (by simp)) with e | e
      · rw [e]; exact Int.le_refl _
      · exact (List.pairwise_cons.1 hb).1 x e
    have he : key y = key x := by omega
    have hx := h (key x)
    simp only [List.filter_cons, he, decide_true, if_true, List.cons.injEq] at hx
    obtain ⟨rfl, _⟩ := hx
    have := Stb.unique (List.pairwise_cons.1 ha).2 (List.pairwise_cons.1 hb).2 (fun k => by
      have := h k
      simp only [List.filter_cons] at this
      by_cases e : key x = k
      · simpa [e] using this
      · simpa [e] using this)
    rw [this]
theorem filter_none {key : α → Int} {k : Int} {l : List α} (h : ∀ x ∈ l, key x ≠ k) : l.filter (fun x => decide (key x = k)) = [] := by
  rw [List.filter_eq_nil_iff]; intro x hx; simpa using h x hx
theorem Stb.swap {key : α → Int} {a b : List α} (h : ∀ x ∈ a, ∀ y ∈ b, key x ≠ key y) : Stb key (a ++ b) (b ++ a) := fun k => by
  rw [List.filter_append, List.filter_append]
  by_cases ha : ∃ x ∈ a, key x = k
  · obtain ⟨x, hx, rfl⟩ := ha
    rw [filter_none (l := b) fun y hy e => h x hx y hy e.symm]; simp
  · rw [filter_none (l := a) fun x hx e => ha ⟨x, hx, e⟩]; simp
theorem Srt.append {key : α → Int} {a b : List α} : Srt key (a ++ b) ↔ Srt key a ∧ Srt key b ∧ ∀ x ∈ a, ∀ y ∈ b, key x ≤ key y := by
  unfold Srt; rw [List.pairwise_append]
theorem Srt.of_stb {key : α → Int} {a a' b b' : List α} (ha : Srt key a') (hb : Srt key b') (h1 : Stb key a' a) (h2 : Stb key b' b) (h : ∀ x ∈ a, ∀ y ∈ b, key x ≤ key y) : Srt key (a' ++ b') :=
  Srt.append.2 ⟨ha, hb, fun x hx y hy => h x ((h1.mem x).1 hx) y ((h2.mem y).1 hy)⟩
def sw (l : List α) (i j : Nat) : List α := match l[i]?, l[j]? with
  | some x, some y => (l.set i y).set j x
  | _, _ => l
theorem sw_length (l : List α) (i j : Nat) : (sw l i j).length = l.length := by unfold sw; split <;> simp
theorem sw_at (p m s : List α) (x y : α) : sw (p ++ x :: (m ++ y :: s)) p.length (p.length + 1 + m.length) = p ++ y :: (m ++ x :: s) := by
  unfold sw
  have e1 : (p ++ x :: (m ++ y :: s))[p.length]? = some x := by simp
  have e2 : (p ++ x :: (m ++ y :: s))[p.length + 1 + m.length]? = some y := by
    rw [List.getElem?_append_right (by omega), show p.length + 1 + m.length - p.length = m.length + 1 by omega, List.getElem?_cons_succ, List.getElem?_append_right (Nat.le_refl _)]; simp
  rw [e1, e2]
  dsimp only
  rw [List.set_append_right _ _ (Nat.le_refl _), Nat.sub_self, List.set_cons_zero, List.set_append_right _ _ (by omega), show p.length + 1 + m.length - p.length = m.length + 1 by omega, List.set_cons_succ, List.set_append_right _ _ (Nat.le_refl _)]
  simp
theorem sw_comm (l : List α) (i j : Nat) (h : i ≠ j) : sw l i j = sw l j i := by
  unfold sw
  cases h1 : l[i]? <;> cases h2 : l[j]? <;> simp
  rw [List.set_comm _ _ h]
def swN (l : List α) (a b : Nat) : Nat → List α
  | 0 => l
  | n + 1 => sw (swN l a b n) (a + n) (b + n)
theorem swN_length (l : List α) (a b n : Nat) : (swN l a b n).length = l.length := by
  induction n with
  | zero => rfl
  | succ n ih => rw [swN, sw_length, ih]
theorem swN_at (p m s : List α) : ∀ (n : Nat) (u v : List α), u.length = v.length → n ≤ u.length → swN (p ++ u ++ m ++ v ++ s) p.length (p.length + u.length + m.length) n = p ++ (v.take n ++ u.drop n) ++ m ++ (u.take n ++ v.drop n) ++ s
  | 0, u, v, h, _ => by simp [swN]
  | n + 1, u, v, h, hn => by
    rw [swN, swN_at p m s n u v h (by omega)]
    have hu : u.drop n = u[n] :: u.drop (n + 1) := List.drop_eq_getElem_cons (by omega)
    have hv : v.drop n = v[n] :: v.drop (n + 1) := List.drop_eq_getElem_cons (by omega)
    have lu : (u.take n).length = n := by rw [List.length_take]; omega
    have lv : (v.take n).length = n := by rw [List.length_take]; omega
    have lt : (u.drop (n + 1)).length = u.length - (n + 1) := by simp
    have key := sw_at (p ++ v.take n) (u.drop (n + 1) ++ m ++ u.take n) (v.drop (n + 1) ++ s) u[n] v[n]
    have e1 : (p ++ v.take n).length = p.length + n := by rw [List.length_append, lv]
    have e2 : (p ++ v.take n).length + 1 + (u.drop (n + 1) ++ m ++ u.take n).length = p.length + u.length + m.length + n := by
      rw [e1, List.length_append, List.length_append, lu, lt]; omega
    rw [e2, e1] at key
    have hl : p ++ (v.take n ++ u.drop n) ++ m ++ (u.take n ++ v.drop n) ++ s = (p ++ v.take n) ++ u[n] :: (u.drop (n + 1) ++ m ++ u.take n ++ v[n] :: (v.drop (n + 1) ++ s)) := by
      rw [hu, hv]; simp only [List.append_assoc, List.cons_append]
    rw [hl, key, List.take_succ_eq_append_getElem (by omega : n < u.length), List.take_succ_eq_append_getElem (by omega : n < v.length)]
    simp only [List.append_assoc, List.cons_append, List.nil_append]
theorem swN_all (p m s u v : List α) (h : u.length = v.length) : swN (p ++ u ++ m ++ v ++ s) p.length (p.length + u.length + m.length) u.length = p ++ v ++ m ++ u ++ s := by
  rw [swN_at p m s u.length u v h (Nat.le_refl _), List.take_length, List.drop_length, h, List.take_length, List.drop_length]
  simp
def srtK (key : α → Int) (l : List α) : List α := l.mergeSort fun x y => decide (key x ≤ key y)
theorem srtK_srt (key : α → Int) (l : List α) : Srt key (srtK key l) := by
  have := List.pairwise_mergeSort (le := fun x y => decide (key x ≤ key y)) (fun a b c h1 h2 => by simp at *; omega) (fun a b => by simp; omega) l
  exact this.imp fun h => by simpa using h
theorem srtK_perm (key : α → Int) (l : List α) : (srtK key l).Perm l := List.mergeSort_perm l _
theorem srtK_length (key : α → Int) (l : List α) : (srtK key l).length = l.length := List.length_mergeSort l
theorem srtK_stb (key : α → Int) (l : List α) : Stb key (srtK key l) l := fun k => by
  have h1 : (l.filter fun x => decide (key x = k)).Sublist (srtK key l) := by
    refine List.sublist_mergeSort (le := fun x y => decide (key x ≤ key y)) (fun a b c h1 h2 => by simp at *; omega) (fun a b => by simp; omega) ?_ List.filter_sublist
    rw [List.pairwise_filter]
    have : ∀ (m : List α), m.Pairwise fun x y => decide (key x = k) = true → decide (key y = k) = true → decide (key x ≤ key y) = true := fun m => by
      induction m with
      | nil => exact List.Pairwise.nil
      | cons a m ih => exact List.pairwise_cons.2 ⟨fun b _ h1 h2 => by simp at *; omega, ih⟩
    exact this l
  have h2 : (l.filter fun x => decide (key x = k)).Sublist ((srtK key l).filter fun x => decide (key x = k)) := by
    have := h1.filter fun x => decide (key x = k)
    rwa [List.filter_filter, show (fun x : α => decide (key x = k) && decide (key x = k)) = fun x => decide (key x = k) from funext fun x => Bool.and_self _] at this
  have h3 : ((srtK key l).filter fun x => decide (key x = k)).length = (l.filter fun x => decide (key x = k)).length := ((srtK_perm key l).filter _).length_eq
  exact (h2.eq_of_length h3.symm).symm
theorem srtK_eq {key : α → Int} {l r : List α} (h1 : Srt key r) (h2 : Stb key r l) : srtK key l = r := Stb.unique (srtK_srt key l) h1 ((srtK_stb key l).trans h2.symm)
theorem srtK_of_srt {key : α → Int} {l : List α} (h : Srt key l) : srtK key l = l := srtK_eq h (Stb.refl key l)
theorem srtK_stb_eq {key : α → Int} {l r : List α} (h : Stb key l r) : srtK key l = srtK key r := srtK_eq (srtK_srt key r) ((srtK_stb key r).trans h.symm)
theorem Srt.sub {key : α → Int} {a b : List α} (h : Srt key b) (g : a.Sublist b) : Srt key a := h.sublist g
theorem srtK_put {key : α → Int} {x : α} {b1 b2 : List α} (hb : Srt key (b1 ++ b2)) (h1 : ∀ y ∈ b1, key y < key x) (h2 : ∀ y ∈ b2, key x ≤ key y) : srtK key (x :: (b1 ++ b2)) = b1 ++ x :: b2 := by
  obtain ⟨s1, s2, s3⟩ := Srt.append.1 hb
  refine srtK_eq (Srt.append.2 ⟨s1, List.pairwise_cons.2 ⟨h2, s2⟩, fun y hy z hz => ?_⟩) ?_
  · rcases List.mem_cons.1 hz with rfl | hz
    · have := h1 y hy; omega
    · exact s3 y hy z hz
  · have := (Stb.swap (key := key) (a := b1) (b := [x]) (fun y hy z hz => by simp only [List.mem_singleton] at hz; subst hz; have := h1 y hy; omega)).append (Stb.refl key b2)
    simpa using this
theorem srtK_ins {key : α → Int} {y : α} {a1 a2 : List α} (ha : Srt key (a1 ++ a2)) (h1 : ∀ x ∈ a1, key x ≤ key y) (h2 : ∀ x ∈ a2, key y < key x) : srtK key (a1 ++ a2 ++ [y]) = a1 ++ y :: a2 := by
  obtain ⟨s1, s2, s3⟩ := Srt.append.1 ha
  refine srtK_eq (Srt.append.2 ⟨s1, List.pairwise_cons.2 ⟨fun z hz => by have := h2 z hz; omega, s2⟩, fun x hx z hz => ?_⟩) ?_
  · rcases List.mem_cons.1 hz with rfl | hz
    · exact h1 x hx
    · exact s3 x hx z hz
  · have := (Stb.refl key a1).append (Stb.swap (key := key) (a := [y]) (b := a2) (fun z hz x hx => by simp only [List.mem_singleton] at hz; subst hz; have := h2 x hx; omega))
    simpa using this
theorem srtK_sym {key : α → Int} {a1 a2 b1 b2 : List α} (ha : Srt key (a1 ++ a2)) (hb : Srt key (b1 ++ b2)) (h1 : ∀ y ∈ b1, ∀ x ∈ a2, key y < key x) (h2 : ∀ x ∈ a1, ∀ y ∈ b2, key x ≤ key y) :
    srtK key (a1 ++ a2 ++ (b1 ++ b2)) = srtK key (a1 ++ b1) ++ srtK key (a2 ++ b2) := by
  obtain ⟨_, _, s3⟩ := Srt.append.1 ha
  obtain ⟨_, _, t3⟩ := Srt.append.1 hb
  refine srtK_eq (Srt.of_stb (srtK_srt key (a1 ++ b1)) (srtK_srt key (a2 ++ b2)) (srtK_stb key (a1 ++ b1)) (srtK_stb key (a2 ++ b2)) fun x hx y hy => ?_) ?_
  · rcases List.mem_append.1 hx with hx | hx <;> rcases List.mem_append.1 hy with hy | hy
    · exact s3 x hx y hy
    · exact h2 x hx y hy
    · have := h1 x hx y hy; omega
    · exact t3 x hx y hy
  · refine ((srtK_stb key (a1 ++ b1)).append (srtK_stb key (a2 ++ b2))).trans ?_
    have := ((Stb.refl key a1).append (Stb.swap (key := key) (a := b1) (b := a2) (fun y hy x hx => by have := h1 y hy x hx; omega))).append (Stb.refl key b2)
    simpa using this
theorem srtK_length2 (key : α → Int) (a b : List α) : (srtK key (a ++ b)).length = a.length + b.length := by rw [srtK_length, List.length_append]
theorem Srt.le_of {key : α → Int} {l : List α} (h : Srt key l) {i j : Nat} {x y : α} (hij : i ≤ j) (hx : l[i]? = some x) (hy : l[j]? = some y) : key x ≤ key y := by
  obtain ⟨hi, rfl⟩ := List.getElem?_eq_some_iff.1 hx
  obtain ⟨hj, rfl⟩ := List.getElem?_eq_some_iff.1 hy
  rcases Nat.lt_or_ge i j with h' | h'
  · exact List.pairwise_iff_getElem.1 h i j hi hj h'
  · obtain rfl : i = j := by omega
    exact Int.le_refl _
theorem get_l {p q : List α} {i : Nat} (h : i < p.length) : (p ++ q)[i]? = p[i]? := List.getElem?_append_left h
theorem get_r {p q : List α} {i : Nat} : (p ++ q)[p.length + i]? = q[i]? := by rw [List.getElem?_append_right (by omega)]; congr 1; omega
theorem srt_snoc {key : α → Int} {l : List α} {i : Nat} (h : i < l.length) : Stb key (srtK key (l.take i) ++ [l[i]]) (l.take (i + 1)) := by
  rw [List.take_succ_eq_append_getElem h]
  exact (srtK_stb key _).append (Stb.refl key _)
end Go.Stab
set_option linter.unusedVariables false
set_option linter.unusedSectionVars false
set_option linter.unusedSimpArgs false
/- What a sort is handed besides its row: a comparison that reads the row through a box, and the exchange of two elements. -/
namespace Go.Hv
open Go Go.RowKit Go.Stab Go.Lib
variable {P : Program}
section
variable [GI]
theorem ORel.irep {w : World} {dead dead' : Nat → Prop} {γ : Nat → Value} {bl : Nat → Option Nat} {id e sz : Nat} {es : List (List HV)} (R : ORel w dead γ bl id (.row e sz es)) (hI : isILL es = true) (hd : ∀ b, bl id = some b → ¬ dead' b) (hdd : ∀ b, dead' b → dead b) :
    IRep w dead' (.sl sz false es) (γ id) := by
  obtain ⟨hz, hl, R⟩ := R
  rcases R with ⟨rfl, ⟨A, hA⟩, _⟩ | ⟨b', cap, C, fr, h1, h2, h3, h4, h5, h6, h7, h8, h9⟩
  · rw [hA]; exact .nil (fun h => by cases h) (fun _ => rfl)
  · rw [h1]
    have hcell : ∀ i j, i < es.length → j < sz → ∃ v, C[i * sz + j]? = some v := by
      intro i j hi hj
      have : i * sz + j < C.size := by
        rw [h7]
        have : (i + 1) * sz ≤ cap * sz := Nat.mul_le_mul_right _ (by omega)
        rw [Nat.add_mul, Nat.one_mul] at this
        omega
      exact ⟨C[i * sz + j], Array.getElem?_eq_getElem this⟩
    refine .sl (fun i j => C.getD (i * sz + j) undef) hl h5 (fun h => by cases h) (hd b' h2) (lt_of_get h3) (fun i j hi hj => ?_) (fun i j hi hj => ?_) (fun i j x c hx hc => ?_)
    · obtain ⟨v, hv⟩ := hcell i j hi hj
      simp [World.cell?, h3, hv, Array.getD_eq_getD_getElem?]
    · obtain ⟨v, hv⟩ := hcell i j hi hj
      show (C.getD (i * sz + j) undef).oneCell' = true
      simp only [Array.getD_eq_getD_getElem?, hv, Option.getD_some]
      exact h8 _ _ hv
    · obtain ⟨v, hv, hr⟩ := h9 i j x c hx hc
      show IRep w dead' c (C.getD (i * sz + j) undef)
      simp only [Array.getD_eq_getD_getElem?, hv, Option.getD_some]
      have hci : isI c = true := (isIL_iff _).1 (List.all_eq_true.1 hI x (List.mem_of_getElem? hx)) c (List.mem_of_getElem? hc)
      exact (hr.toI hci).mono (Nat.le_refl _) (fun _ _ _ => rfl) (fun b _ h => hdd b h)
theorem RowW.grow {w w' : World} {D : Nat → Prop} {V : Value} {ob : Option Nat} {e sz : Nat} {es : List (List HV)} (h : RowW w D V ob e sz es) (hs : w.heap.size ≤ w'.heap.size) (hw : ∀ b, b < w.heap.size → w'.heap[b]? = w.heap[b]?) : RowW w' D V ob e sz es := by
  obtain ⟨h1, h2, h3, h4⟩ := h
  refine ⟨h1, h2, fun b hb => ⟨(h3 b hb).1, Nat.lt_of_lt_of_le (h3 b hb).2 hs⟩, ?_⟩
  exact ORel.other hs (fun b h _ => hw b h) (fun _ _ h => h) rfl rfl (fun b _ h => hw b h) (fun h => h) (fun h v r => r.mono hs (fun b h _ => hw b h) (fun _ _ h => h)) (by simp [map_id_fun]) h4
theorem RowW.setElem {w : World} {D : Nat → Prop} {b n cap e sz : Nat} {es : List (List HV)} (h : RowW w D (.slice (some ⟨b, 0, none⟩) n cap) (some b) e sz es) {k : Nat} (hk : k < es.length) {xs : List HV} {vs : List Value} (hx : xs.length = sz) (hv : vs.length = sz)
    (hI : isIL xs = true) (h1 : ∀ v ∈ vs, v.oneCell' = true) (hr : ∀ (j : Nat) (c : HV) (v : Value), xs[j]? = some c → vs[j]? = some v → IRep w (fun x => D x ∨ b = x) c v) :
    RowW (w.setCells b (k * sz) vs) D (.slice (some ⟨b, 0, none⟩) n cap) (some b) e sz (es.set k xs) := by
  obtain ⟨g1, g2, g3, hz, hl, R⟩ := h
  refine ⟨g1, ?_, fun b' hb => ⟨(g3 b' hb).1, by rw [size_setCells]; exact (g3 b' hb).2⟩, hz, ?_, ?_⟩
  · exact isILL_set es k xs g2 hI
  · intro x hx'
    rcases List.mem_or_eq_of_mem_set hx' with h' | rfl
    · exact hl x h'
    · exact hx
  rcases R with ⟨rfl, _⟩ | ⟨b', cap', C, fr, k1, k2, k3, k4, k5, k6, k7, k8, k9⟩
  · simp at hk
  obtain rfl : b = b' := by
    have k2 : some b = some b' := k2
    exact Option.some.inj k2
  have k1 : Value.slice (some ⟨b, 0, none⟩) n cap = .slice (some ⟨b, 0, none⟩) es.length cap' := k1
  cases k1
  have hfit : k * sz + vs.length ≤ C.size := by
    rw [k7, hv]
    have : (k + 1) * sz ≤ cap * sz := Nat.mul_le_mul_right _ (by omega)
    rw [Nat.add_mul, Nat.one_mul] at this
    exact this
  obtain ⟨C', q1, q2, q3⟩ := heap_setCells b e fr vs (k * sz) w C k3
  have hmono : ∀ {c : HV} {v : Value}, IRep w (fun x => D x ∨ b = x) c v → IRep (w.setCells b (k * sz) vs) (fun x => D x ∨ some b = some x) c v := fun r =>
    r.mono (by rw [size_setCells]; exact Nat.le_refl _) (fun x _ hd => heap_setCells_other b vs (k * sz) w x (fun e => hd (.inr e.symm))) (fun x _ hd => hd.imp id fun e => Option.some.inj e)
  refine .inr ⟨b, cap, C', fr, by rw [List.length_set], rfl, q1, by rw [q2]; exact k4, by rw [List.length_set]; exact k5, k6, by rw [q2]; exact k7, fun j v hj => ?_, fun i j x c hxi hc => ?_⟩
  · rw [q3] at hj
    split at hj
    · exact h1 v (List.mem_of_getElem? hj)
    · exact k8 j v hj
  · have hI2 : isI c = true := by
      have := isILL_set es k xs g2 hI
      exact (isIL_iff _).1 (List.all_eq_true.1 this x (List.mem_of_getElem? hxi)) c (List.mem_of_getElem? hc)
    rw [List.getElem?_set] at hxi
    split at hxi
    · next hki =>
      subst hki
      cases hxi
      have hj := getElem?_lt hc
      have hvj : vs[j]? = some (vs[j]'(by omega)) := List.getElem?_eq_getElem (by omega)
      refine ⟨vs[j]'(by omega), ?_, .imm (hmono (hr j c _ hc hvj))⟩
      rw [q3, if_pos ⟨by omega, by omega, by omega⟩, show k * sz + j - k * sz = j by omega]
      exact hvj
    · next hki =>
      obtain ⟨v, hv', hr'⟩ := k9 i j x c hxi hc
      refine ⟨v, ?_, .imm (hmono ((hr'.toI hI2).mono (Nat.le_refl _) (fun _ _ _ => rfl) (fun x _ hd => hd.imp id fun e => by rw [e])))⟩
      have hj : j < sz := by rw [← hl x (List.mem_of_getElem? hxi)]; exact getElem?_lt hc
      rw [q3, if_neg]
      · exact hv'
      · rintro ⟨p1, p2, _⟩
        rw [hv] at p2
        apply hki
        rcases Nat.lt_trichotomy i k with h' | h' | h'
        · have := Nat.mul_le_mul_right sz (show i + 1 ≤ k from h')
          rw [Nat.add_mul, Nat.one_mul] at this
          omega
        · exact h'.symm
        · have := Nat.mul_le_mul_right sz (show k + 1 ≤ i from h')
          rw [Nat.add_mul, Nat.one_mul] at this
          omega
theorem RowW.elem {w : World} {D : Nat → Prop} {b n cap e sz : Nat} {es : List (List HV)} (h : RowW w D (.slice (some ⟨b, 0, none⟩) n cap) (some b) e sz es) {k : Nat} {x : List HV} (hk : es[k]? = some x) :
    n = es.length ∧ ∃ vs : List Value, vs.length = sz ∧ (∀ v ∈ vs, v.oneCell' = true) ∧ (∀ j v, vs[j]? = some v → w.cell? ⟨b, 0 + k * sz + j, none⟩ = some v) ∧ (∀ j, j < sz → w.frozen? ⟨b, 0 + k * sz + j, none⟩ = false) ∧
      (∀ (j : Nat) (c : HV) (v : Value), x[j]? = some c → vs[j]? = some v → IRep w (fun x => D x ∨ b = x) c v) := by
  obtain ⟨g1, g2, g3, hz, hl, R⟩ := h
  have hkl := getElem?_lt hk
  rcases R with ⟨rfl, _⟩ | ⟨b', cap', C, fr, k1, k2, k3, k4, k5, k6, k7, k8, k9⟩
  · simp at hkl
  obtain rfl : b = b' := by
    have k2 : some b = some b' := k2
    exact Option.some.inj k2
  have k1 : Value.slice (some ⟨b, 0, none⟩) n cap = .slice (some ⟨b, 0, none⟩) es.length cap' := k1
  cases k1
  have hlt : ∀ j, j < sz → k * sz + j < C.size := fun j hj => by
    rw [k7]
    have : (k + 1) * sz ≤ cap * sz := Nat.mul_le_mul_right _ (by omega)
    rw [Nat.add_mul, Nat.one_mul] at this
    omega
  refine ⟨rfl, (List.range sz).map fun j => C.getD (k * sz + j) undef, by simp, fun v hv => ?_, fun j v hj => ?_, fun j hj => ?_, fun j c v hc hv => ?_⟩
  · obtain ⟨j, hj, rfl⟩ := List.mem_map.1 hv
    have hj' := hlt j (List.mem_range.1 hj)
    rw [Array.getD_eq_getD_getElem?, Array.getElem?_eq_getElem hj']
    exact k8 _ _ (Array.getElem?_eq_getElem hj')
  · have hjs : j < sz := by have := getElem?_lt hj; simpa using this
    rw [List.getElem?_map, List.getElem?_range hjs] at hj
    simp only [Option.map_some, Option.some.injEq] at hj
    subst hj
    have hj' := hlt j hjs
    rw [Nat.zero_add]
    simp [World.cell?, k3, hj', Array.getD_eq_getD_getElem?]
  · rw [Nat.zero_add]
    simp only [World.frozen?, k3]
    have := k4 (k * sz + j) (hlt j hj)
    simpa using this
  · have hjs : j < sz := by have := getElem?_lt hv; simpa using this
    rw [List.getElem?_map, List.getElem?_range hjs] at hv
    simp only [Option.map_some, Option.some.injEq] at hv
    subst hv
    obtain ⟨v, hv, hr⟩ := k9 k j x c hk hc
    rw [Array.getD_eq_getD_getElem?, hv]
    have hI2 : isI c = true := (isIL_iff _).1 (List.all_eq_true.1 g2 x (List.mem_of_getElem? hk)) c (List.mem_of_getElem? hc)
    exact (hr.toI hI2).mono (Nat.le_refl _) (fun _ _ _ => rfl) (fun x _ hd => hd.imp id fun e => by rw [e])
theorem SpecX.swap {sf : Nat} (gS : Bool) (hx : ∀ args W, (callFunc sf args).run P W = ((Extern.ReflectliteSwapper.swap gS args).run P W).andThen fun v w' => .ok (.value v) w')
    {e sz b n cap : Nat} {ie : TypeInfo} (hie : P.info? e = some ie) (hs : ie.size = sz) (hagg : ∀ w, (isAgg e).run P w = .ok true w) {es : List (List HV)} {i j : Nat} (hi : i < es.length) (hj : j < es.length) :
    SpecX P sf #[.slice (some ⟨b, 0, none⟩) n cap, typeHandle P e] [i64 i, i64 j] (.slice (some ⟨b, 0, none⟩) n cap) (some b) e sz es (.lit (.tuple #[])) (sw es i j) := by
  intro D w us hD hG hW hus hrep
  have hu0 : us[0]? = some (.int .i64 i) := by
    have h := Array.getElem?_eq_getElem (show 0 < us.size by rw [hus]; simp)
    rw [h, (irep_lit (hrep 0 _ _ rfl h))]
  have hu1 : us[1]? = some (.int .i64 j) := by
    have h := Array.getElem?_eq_getElem (show 1 < us.size by rw [hus]; simp)
    rw [h, (irep_lit (hrep 1 _ _ rfl h))]
  obtain rfl : us = #[.int .i64 i, .int .i64 j] := by
    apply Array.ext_getElem?
    intro k
    match k with
    | 0 => rw [hu0]; rfl
    | 1 => rw [hu1]; rfl
    | k + 2 => rw [Array.getElem?_eq_none (by rw [hus]; simp), Array.getElem?_eq_none (by simp)]
  have ei : es[i]? = some es[i] := List.getElem?_eq_getElem hi
  have ej : es[j]? = some es[j] := List.getElem?_eq_getElem hj
  subst hs
  have hlen := hW.2.2.2.2.1
  have lxi : es[i].length = ie.size := hlen _ (List.getElem_mem hi)
  have lxj : es[j].length = ie.size := hlen _ (List.getElem_mem hj)
  obtain ⟨hn, X, lX, oX, cX, fX, rX⟩ := hW.elem ei
  obtain ⟨_, Y, lY, oY, cY, fY, rY⟩ := hW.elem ej
  have hI : isILL es = true := hW.2.1
  have hIi : isIL es[i] = true := List.all_eq_true.1 hI _ (List.getElem_mem hi)
  have hIj : isIL es[j] = true := List.all_eq_true.1 hI _ (List.getElem_mem hj)
  have hrun := run_swap_cells (P := P) gS e ie hie hagg b 0 n cap i j (by omega) (by omega) X Y lX lY oX oY w (fun k v h => cX k v h) (fun k v h => cY k v h) fX fY
  refine .inr ⟨.tuple #[], (w.setCells b (i * ie.size) Y).setCells b (j * ie.size) X, ?_, ?_, ?_, .lit _⟩
  · rw [hx, show (#[Value.int .i64 (i : Int), Value.int .i64 (j : Int)] ++ #[Value.slice (some ⟨b, 0, none⟩) n cap, typeHandle P e]) = #[.int .i64 i, .int .i64 j, .slice (some ⟨b, 0, none⟩) n cap, typeHandle P e] from rfl, hrun]
    simp only [Nat.zero_add, Result.andThen_ok]
  · have nF : ¬ (fun x => x < w.heap.size ∧ some b ≠ some x) b := fun h => h.2 rfl
    exact Kept.setCells nF X _ (Kept.setCells nF Y _ (Kept.refl _ _))
  · have h1 := hW.setElem hi lxj lY hIj oY rY
    have hm : ∀ {c : HV} {v : Value}, IRep w (fun x => D x ∨ b = x) c v → IRep (w.setCells b (i * ie.size) Y) (fun x => D x ∨ b = x) c v := fun r =>
      r.mono (by rw [size_setCells]; exact Nat.le_refl _) (fun x _ hd => heap_setCells_other b Y _ w x (fun e => hd (.inr e.symm))) (fun _ _ h => h)
    have h2 := h1.setElem (k := j) (by rw [List.length_set]; exact hj) lxi lX hIi oX (fun k c v hc hv => hm (rX k c v hc hv))
    unfold sw
    rw [ei, ej]
    exact h2
end
theorem SpecX.less {G0 : GI} {g e sz bB : Nat} {V : Value} {ob : Option Nat} {es : List (List HV)} {i j : Nat} {r : Bool} (hbody : hasBody P g = true) (hob : ob ≠ some bB) (hV : V.oneCell' = true)
    (h : @Spec1 G0 P g [i64 i, i64 j, .cptr [.sl sz false es]] (bo r)) :
    @SpecX (G0.box bB V) P g #[.pointer (some ⟨bB, 0, none⟩)] [i64 i, i64 j] V ob e sz es (bo r) es := by
  letI : GI := G0.box bB V
  intro D w us hD hG hW hus hrep
  refine .inl ⟨hbody, ?_⟩
  have hbl : bB < w.heap.size := (hG.sub bB (.inr rfl)).1
  have hcell : w.cell? ⟨bB, 0, none⟩ = some V := hG.g.2
  have hW' := hW
  obtain ⟨h1, h2, h3, h4⟩ := hW
  have hcall := h (fun b => D b ∧ b ≠ bB) w (us ++ #[.pointer (some ⟨bB, 0, none⟩)]) (fun b hb => hD b hb.1) hG.g.1 (by simp [hus]) (fun k c v hc hv => ?_)
  · refine hcall.mono ?_
    rintro x w' ⟨v, rfl, hB, hI⟩
    exact ⟨v, rfl, ⟨hB.os, hB.tape, hB.output, hB.size, fun b hb => hB.block b hb.1⟩, hW'.grow hB.size (fun b hb => hB.block b hb), hI.scal rfl⟩
  · have hk : k < 2 ∨ k = 2 := by
      have := getElem?_lt hc
      simp at this; omega
    rcases hk with hk | rfl
    · rw [Array.getElem?_append_left (by rw [hus]; exact hk)] at hv
      have hc' : ([i64 i, i64 j] : List HV)[k]? = some c := by
        match k, hk with
        | 0, _ => simpa using hc
        | 1, _ => simpa using hc
      exact (hrep k c v hc' hv).mono (Nat.le_refl _) (fun _ _ _ => rfl) (fun b _ hb => .inl hb.1)
    · rw [Array.getElem?_append_right (by rw [hus]; simp)] at hv
      have hv' : (#[Value.pointer (some ⟨bB, 0, none⟩)] : Array Value)[0]? = some v := by
        have : 2 - us.size = 0 := by rw [hus]; rfl
        rwa [this] at hv
      simp at hv' hc
      subst hv'; subst hc
      have hcr := ORel.irep h4 h2 (dead' := fun b => D b ∧ b ≠ bB) (fun b hb hd => (h3 b hb).1 hd.1) (fun b hd => .inl hd.1)
      refine .cptr (fun _ => V) (fun hd => hd.2 rfl) hbl (fun k hk => ?_) (fun k hk => hV) (fun k c hc => ?_)
      · obtain rfl : k = 0 := by simpa using hk
        exact hcell
      · obtain rfl : k = 0 := by have := getElem?_lt hc; simpa using this
        simp at hc
        subst hc
        exact hcr
end Go.Hv
