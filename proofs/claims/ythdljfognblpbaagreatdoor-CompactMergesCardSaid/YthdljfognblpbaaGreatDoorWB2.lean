import Derived.Test.YthdljfognblpbaaGreatDoorWB1
import Derived.Lib.ReflectliteSwap
import Derived.Lib.ReflectliteSlice
import Derived.Laws.NewBlocks
import Derived.Scope
import Derived.Control
set_option linter.unusedVariables false
set_option linter.unusedSimpArgs false
namespace Go.Hv
open Go Go.Hv Go.Proofs
open Go.Proofs.YthdljfognblpbaaGreatDoor
@[simp] theorem gramsHV_drop (l : List Gram) (n : Nat) : (gramsHV l).drop n = gramsHV (l.drop n) := by simp [gramsHV]
@[simp] theorem postsHV_drop (l : List Post) (n : Nat) : (postsHV l).drop n = postsHV (l.drop n) := by simp [postsHV]
@[simp] theorem gramsHV_tail1 (v : Gram) (y : List Gram) : (List.take (y.length + 1) (gramsHV (v :: y))).tail = gramsHV y := by simp [gramsHV, List.take_of_length_le]
@[simp] theorem postsHV_tail1 (v : Post) (y : List Post) : (List.take (y.length + 1) (postsHV (v :: y))).tail = postsHV y := by simp [postsHV, List.take_of_length_le]
set_option maxHeartbeats 4000000 in
theorem mergeG_spec (a b : List Gram) (ha : a.length ≤ 400000) (hb : b.length ≤ 400000) : Spec1 Tryz.prog 53 [.sl 2 false (gramsHV a), .sl 2 false (gramsHV b), .fn (.func 54) [], .fn (.func 55) []] (.sl 2 false (gramsHV (mergeBy Gram.code bothG a b))) := by
  refine Spec1.of_HT Tryz.func53 rfl (by rw [Tryz.ntmps53]; simp) rfl ?_
  rw [Tryz.ntmps53]
  refine HT.seq ?_
  refine HT.region ?_   -- R0
  simp (disch := first | omega | (simp <;> omega) | fail) [wrap_i64, wrap_u64, wrap_u8']
  refine HT.seq ?_
  refine HT.region ?_   -- R1
  simp (disch := first | omega | (simp <;> omega) | fail) [wrap_i64, wrap_u64, wrap_u8']
  refine HT.weaken (HS.le_own (t := 9) 200 58 2 _ (by decide) rfl (by decide)) ?_
  refine HT.seq ?_
  refine HT.block ?_
  refine HT.loopK (fun k : {k : List Gram × List Gram × List Gram // k.2.2 ++ mergeBy Gram.code bothG k.1 k.2.1 = mergeBy Gram.code bothG a b ∧ k.2.2.length + k.1.length + k.2.1.length ≤ a.length + b.length} => [.s 0 (.sl 2 false (gramsHV k.1.1)), .s 1 (.sl 2 false (gramsHV k.1.2.1)), .s 9 (.ref 200), .o 200 (.row 58 2 (gramsHV k.1.2.2))]) [2, 3] [] (fun k => k.1.1.length + k.1.2.1.length) (⟨⟨a, b, []⟩, by simp⟩) ?_ ?_   -- block 0 turned [0, 1, 9, 14, 15, 16, 38, 39, 40, 41, 42, 43, 44, 45, 46, 47, 48, 49, 50, 51, 52, 53, 68, 69, 70, 71, 72, 73, 74, 75, 76, 77, 78]
  · simp (disch := first | omega | (simp <;> omega) | fail) [wrap_i64, wrap_u64, wrap_u8']
  rintro ⟨⟨x, y, o⟩, hh, hlen⟩
  simp (disch := first | omega | (simp <;> omega) | fail) [wrap_i64, wrap_u64, wrap_u8']
  refine HT.seq ?_
  refine HT.seq ?_
  dsimp only at hh hlen
  by_cases e0 : x = [] ∧ y = []
  · skip
    obtain ⟨rfl, rfl⟩ := e0
    have ho' : o = mergeBy Gram.code bothG a b := by simpa using hh
    refine HT.region ?_   -- R2
    simp (disch := first | omega | (simp <;> omega) | fail) [wrap_i64, wrap_u64, wrap_u8']
    refine HT.cond' ?_   -- if 17
    simp (disch := first | omega | (simp <;> omega) | fail) [wrap_i64, wrap_u64, wrap_u8']
    refine HT.exit ?_
    simp (disch := first | omega | (simp <;> omega) | fail) [wrap_i64, wrap_u64, wrap_u8']
    refine HT.seq ?_
    refine HT.region ?_   -- R8
    simp (disch := first | omega | (simp <;> omega) | fail) [wrap_i64, wrap_u64, wrap_u8']
    refine HT.ret ?_
    simp (disch := first | omega | (simp <;> omega) | fail) [wrap_i64, wrap_u64, wrap_u8', ho']
  by_cases e1 : x = []
  · skip
    subst e1
    obtain ⟨v, y', rfl⟩ := List.exists_cons_of_ne_nil (fun h => e0 ⟨rfl, h⟩)
    simp only [List.length_cons] at hlen
    refine HT.region ?_   -- R2
    simp (disch := first | omega | (simp <;> omega) | fail) [wrap_i64, wrap_u64, wrap_u8']
    refine HT.cond' ?_   -- if 17
    simp (disch := first | omega | (simp <;> omega) | fail) [wrap_i64, wrap_u64, wrap_u8']
    refine HT.skip ?_
    simp (disch := first | omega | (simp <;> omega) | fail) [wrap_i64, wrap_u64, wrap_u8']
    refine HT.block ?_
    refine HT.block ?_
    refine HT.seq ?_
    refine HT.draw [.batch [0, 1, 2, 3, 4, 5, 6, 7, 8, 9, 10, 11, 12, 13, 14, 15, 16, 17, 18, 19, 20, 21]] (by kernel_rfl) ?_   -- R4
    simp -dsimp (disch := first | omega | (simp <;> omega) | fail) [wrap_i64, wrap_u64, wrap_u8']
    refine HT.cond' ?_   -- if 33
    simp (disch := first | omega | (simp <;> omega) | fail) [wrap_i64, wrap_u64, wrap_u8']
    refine HT.seq ?_
    refine HT.draw [.batch [0, 1, 2, 3, 4, 5, 6, 7, 8, 9, 10, 11, 12, 13, 14, 15, 16]] (by kernel_rfl) ?_   -- R6
    simp -dsimp (disch := first | omega | (simp <;> omega) | fail) [wrap_i64, wrap_u64, wrap_u8']
    refine HT.cond' ?_   -- if 63
    simp (disch := first | omega | (simp <;> omega) | fail) [wrap_i64, wrap_u64, wrap_u8']
    refine HT.draw [.take 0, .take 1, .take 6, .take 7, .batch [2, 3, 4], .one 5, .batch [8, 9]] (by kernel_rfl) ?_   -- R7
    simp (disch := first | omega | (simp <;> omega) | fail) [wrap_i64, wrap_u64, wrap_u8']
    first | (have _t : u.code < v.code := e3; refine Round.mk' (⟨⟨x', v :: y', o ++ [u]⟩, by dsimp only; rw [← hh, mergeBy_cons, if_pos e3]; simp, by dsimp only at hlen ⊢; simp only [List.length_append, List.length_cons, List.length_nil] at hlen ⊢; omega⟩) (by simp) rfl ?_) | (have _t : v.code < u.code := e4; refine Round.mk' (⟨⟨u :: x', y', o ++ [v]⟩, by dsimp only; rw [← hh, mergeBy_cons, if_neg e3, if_pos e4]; simp, by dsimp only at hlen ⊢; simp only [List.length_append, List.length_cons, List.length_nil] at hlen ⊢; omega⟩) (by simp) rfl ?_) | (have _t : ¬ v.code < u.code := e4; refine Round.mk' (⟨⟨x', y', o ++ [bothG u v]⟩, by dsimp only; rw [← hh, mergeBy_cons, if_neg e3, if_neg e4]; simp, by dsimp only at hlen ⊢; simp only [List.length_append, List.length_cons, List.length_nil] at hlen ⊢; omega⟩) (by simp; omega) rfl ?_) | (have _t := u; refine Round.mk' (⟨⟨x', [], o ++ [u]⟩, by dsimp only; rw [← hh]; simp, by dsimp only at hlen ⊢; simp only [List.length_append, List.length_cons, List.length_nil] at hlen ⊢; omega⟩) (by simp) rfl ?_) | (refine Round.mk' (⟨⟨[], y', o ++ [v]⟩, by dsimp only; rw [← hh]; simp, by dsimp only at hlen ⊢; simp only [List.length_append, List.length_cons, List.length_nil] at hlen ⊢; omega⟩) (by simp) rfl ?_)
    simp (disch := first | omega | (simp <;> omega) | fail) [wrap_i64, wrap_u64, wrap_u8', gramsHV_snoc', bothG]
  obtain ⟨u, x', rfl⟩ := List.exists_cons_of_ne_nil e1
  by_cases e2 : y = []
  · skip
    subst e2
    simp only [List.length_cons] at hlen
    refine HT.region ?_   -- R2
    simp (disch := first | omega | (simp <;> omega) | fail) [wrap_i64, wrap_u64, wrap_u8']
    refine HT.cond' ?_   -- if 17
    simp (disch := first | omega | (simp <;> omega) | fail) [wrap_i64, wrap_u64, wrap_u8']
    refine HT.skip ?_
    simp (disch := first | omega | (simp <;> omega) | fail) [wrap_i64, wrap_u64, wrap_u8']
    refine HT.block ?_
    refine HT.block ?_
    refine HT.seq ?_
    refine HT.draw [.batch [0, 1, 2, 3, 4, 5, 6, 7, 8, 9, 10, 11, 12, 13, 14, 15, 16, 17, 18, 19, 20, 21]] (by kernel_rfl) ?_   -- R4
    simp -dsimp (disch := first | omega | (simp <;> omega) | fail) [wrap_i64, wrap_u64, wrap_u8']
    refine HT.cond' ?_   -- if 33
    simp (disch := first | omega | (simp <;> omega) | fail) [wrap_i64, wrap_u64, wrap_u8']
    refine HT.draw [.take 0, .take 1, .take 6, .take 7, .batch [2, 3, 4], .one 5, .batch [8, 9]] (by kernel_rfl) ?_   -- R5
    simp (disch := first | omega | (simp <;> omega) | fail) [wrap_i64, wrap_u64, wrap_u8']
    first | (have _t : u.code < v.code := e3; refine Round.mk' (⟨⟨x', v :: y', o ++ [u]⟩, by dsimp only; rw [← hh, mergeBy_cons, if_pos e3]; simp, by dsimp only at hlen ⊢; simp only [List.length_append, List.length_cons, List.length_nil] at hlen ⊢; omega⟩) (by simp) rfl ?_) | (have _t : v.code < u.code := e4; refine Round.mk' (⟨⟨u :: x', y', o ++ [v]⟩, by dsimp only; rw [← hh, mergeBy_cons, if_neg e3, if_pos e4]; simp, by dsimp only at hlen ⊢; simp only [List.length_append, List.length_cons, List.length_nil] at hlen ⊢; omega⟩) (by simp) rfl ?_) | (have _t : ¬ v.code < u.code := e4; refine Round.mk' (⟨⟨x', y', o ++ [bothG u v]⟩, by dsimp only; rw [← hh, mergeBy_cons, if_neg e3, if_neg e4]; simp, by dsimp only at hlen ⊢; simp only [List.length_append, List.length_cons, List.length_nil] at hlen ⊢; omega⟩) (by simp; omega) rfl ?_) | (have _t := u; refine Round.mk' (⟨⟨x', [], o ++ [u]⟩, by dsimp only; rw [← hh]; simp, by dsimp only at hlen ⊢; simp only [List.length_append, List.length_cons, List.length_nil] at hlen ⊢; omega⟩) (by simp) rfl ?_) | (refine Round.mk' (⟨⟨[], y', o ++ [v]⟩, by dsimp only; rw [← hh]; simp, by dsimp only at hlen ⊢; simp only [List.length_append, List.length_cons, List.length_nil] at hlen ⊢; omega⟩) (by simp) rfl ?_)
    simp (disch := first | omega | (simp <;> omega) | fail) [wrap_i64, wrap_u64, wrap_u8', gramsHV_snoc', bothG]
  obtain ⟨v, y', rfl⟩ := List.exists_cons_of_ne_nil e2
  simp only [List.length_cons] at hlen
  by_cases e3 : u.code < v.code
  · skip
    refine HT.region ?_   -- R2
    simp (disch := first | omega | (simp <;> omega) | fail) [wrap_i64, wrap_u64, wrap_u8']
    refine HT.cond' ?_   -- if 17
    simp (disch := first | omega | (simp <;> omega) | fail) [wrap_i64, wrap_u64, wrap_u8']
    refine HT.skip ?_
    simp (disch := first | omega | (simp <;> omega) | fail) [wrap_i64, wrap_u64, wrap_u8']
    refine HT.block ?_
    refine HT.block ?_
    refine HT.seq ?_
    refine HT.draw [.batch [0, 1, 2, 3, 4, 5, 6, 7, 8, 9, 10, 11, 12, 13, 14, 15, 16, 17, 18, 19, 20, 21]] (by kernel_rfl) ?_   -- R4
    simp -dsimp (disch := first | omega | (simp <;> omega) | fail) [wrap_i64, wrap_u64, wrap_u8']
    refine stepK.mk (.call1 _ _ _ rfl Ty.hb54 rfl rfl (UnionC21_spec u)) ?_
    simp -dsimp (disch := first | omega | (simp <;> omega) | fail) [wrap_i64, wrap_u64, wrap_u8']
    refine stepK.mk (.call1 _ _ _ rfl Ty.hb54 rfl rfl (UnionC21_spec v)) ?_
    simp -dsimp (disch := first | omega | (simp <;> omega) | fail) [wrap_i64, wrap_u64, wrap_u8']
    refine HT.cond' ?_   -- if 33
    simp (disch := first | omega | (simp <;> omega) | fail) [wrap_i64, wrap_u64, wrap_u8']
    refine HT.draw [.take 0, .take 1, .take 6, .take 7, .batch [2, 3, 4], .one 5, .batch [8, 9]] (by kernel_rfl) ?_   -- R5
    simp (disch := first | omega | (simp <;> omega) | fail) [wrap_i64, wrap_u64, wrap_u8']
    first | (have _t : u.code < v.code := e3; refine Round.mk' (⟨⟨x', v :: y', o ++ [u]⟩, by dsimp only; rw [← hh, mergeBy_cons, if_pos e3]; simp, by dsimp only at hlen ⊢; simp only [List.length_append, List.length_cons, List.length_nil] at hlen ⊢; omega⟩) (by simp) rfl ?_) | (have _t : v.code < u.code := e4; refine Round.mk' (⟨⟨u :: x', y', o ++ [v]⟩, by dsimp only; rw [← hh, mergeBy_cons, if_neg e3, if_pos e4]; simp, by dsimp only at hlen ⊢; simp only [List.length_append, List.length_cons, List.length_nil] at hlen ⊢; omega⟩) (by simp) rfl ?_) | (have _t : ¬ v.code < u.code := e4; refine Round.mk' (⟨⟨x', y', o ++ [bothG u v]⟩, by dsimp only; rw [← hh, mergeBy_cons, if_neg e3, if_neg e4]; simp, by dsimp only at hlen ⊢; simp only [List.length_append, List.length_cons, List.length_nil] at hlen ⊢; omega⟩) (by simp; omega) rfl ?_) | (have _t := u; refine Round.mk' (⟨⟨x', [], o ++ [u]⟩, by dsimp only; rw [← hh]; simp, by dsimp only at hlen ⊢; simp only [List.length_append, List.length_cons, List.length_nil] at hlen ⊢; omega⟩) (by simp) rfl ?_) | (refine Round.mk' (⟨⟨[], y', o ++ [v]⟩, by dsimp only; rw [← hh]; simp, by dsimp only at hlen ⊢; simp only [List.length_append, List.length_cons, List.length_nil] at hlen ⊢; omega⟩) (by simp) rfl ?_)
    simp (disch := first | omega | (simp <;> omega) | fail) [wrap_i64, wrap_u64, wrap_u8', gramsHV_snoc', bothG]
  by_cases e4 : v.code < u.code
  · skip
    refine HT.region ?_   -- R2
    simp (disch := first | omega | (simp <;> omega) | fail) [wrap_i64, wrap_u64, wrap_u8']
    refine HT.cond' ?_   -- if 17
    simp (disch := first | omega | (simp <;> omega) | fail) [wrap_i64, wrap_u64, wrap_u8']
    refine HT.skip ?_
    simp (disch := first | omega | (simp <;> omega) | fail) [wrap_i64, wrap_u64, wrap_u8']
    refine HT.block ?_
    refine HT.block ?_
    refine HT.seq ?_
    refine HT.draw [.batch [0, 1, 2, 3, 4, 5, 6, 7, 8, 9, 10, 11, 12, 13, 14, 15, 16, 17, 18, 19, 20, 21]] (by kernel_rfl) ?_   -- R4
    simp -dsimp (disch := first | omega | (simp <;> omega) | fail) [wrap_i64, wrap_u64, wrap_u8']
    refine stepK.mk (.call1 _ _ _ rfl Ty.hb54 rfl rfl (UnionC21_spec u)) ?_
    simp -dsimp (disch := first | omega | (simp <;> omega) | fail) [wrap_i64, wrap_u64, wrap_u8']
    refine stepK.mk (.call1 _ _ _ rfl Ty.hb54 rfl rfl (UnionC21_spec v)) ?_
    simp -dsimp (disch := first | omega | (simp <;> omega) | fail) [wrap_i64, wrap_u64, wrap_u8']
    refine HT.cond' ?_   -- if 33
    simp (disch := first | omega | (simp <;> omega) | fail) [wrap_i64, wrap_u64, wrap_u8']
    refine HT.seq ?_
    refine HT.draw [.batch [0, 1, 2, 3, 4, 5, 6, 7, 8, 9, 10, 11, 12, 13, 14, 15, 16]] (by kernel_rfl) ?_   -- R6
    simp -dsimp (disch := first | omega | (simp <;> omega) | fail) [wrap_i64, wrap_u64, wrap_u8']
    refine stepK.mk (.call1 _ _ _ rfl Ty.hb54 rfl rfl (UnionC21_spec v)) ?_
    simp -dsimp (disch := first | omega | (simp <;> omega) | fail) [wrap_i64, wrap_u64, wrap_u8']
    refine stepK.mk (.call1 _ _ _ rfl Ty.hb54 rfl rfl (UnionC21_spec u)) ?_
    simp -dsimp (disch := first | omega | (simp <;> omega) | fail) [wrap_i64, wrap_u64, wrap_u8']
    refine HT.cond' ?_   -- if 63
    simp (disch := first | omega | (simp <;> omega) | fail) [wrap_i64, wrap_u64, wrap_u8']
    refine HT.draw [.take 0, .take 1, .take 6, .take 7, .batch [2, 3, 4], .one 5, .batch [8, 9]] (by kernel_rfl) ?_   -- R7
    simp (disch := first | omega | (simp <;> omega) | fail) [wrap_i64, wrap_u64, wrap_u8']
    first | (have _t : u.code < v.code := e3; refine Round.mk' (⟨⟨x', v :: y', o ++ [u]⟩, by dsimp only; rw [← hh, mergeBy_cons, if_pos e3]; simp, by dsimp only at hlen ⊢; simp only [List.length_append, List.length_cons, List.length_nil] at hlen ⊢; omega⟩) (by simp) rfl ?_) | (have _t : v.code < u.code := e4; refine Round.mk' (⟨⟨u :: x', y', o ++ [v]⟩, by dsimp only; rw [← hh, mergeBy_cons, if_neg e3, if_pos e4]; simp, by dsimp only at hlen ⊢; simp only [List.length_append, List.length_cons, List.length_nil] at hlen ⊢; omega⟩) (by simp) rfl ?_) | (have _t : ¬ v.code < u.code := e4; refine Round.mk' (⟨⟨x', y', o ++ [bothG u v]⟩, by dsimp only; rw [← hh, mergeBy_cons, if_neg e3, if_neg e4]; simp, by dsimp only at hlen ⊢; simp only [List.length_append, List.length_cons, List.length_nil] at hlen ⊢; omega⟩) (by simp; omega) rfl ?_) | (have _t := u; refine Round.mk' (⟨⟨x', [], o ++ [u]⟩, by dsimp only; rw [← hh]; simp, by dsimp only at hlen ⊢; simp only [List.length_append, List.length_cons, List.length_nil] at hlen ⊢; omega⟩) (by simp) rfl ?_) | (refine Round.mk' (⟨⟨[], y', o ++ [v]⟩, by dsimp only; rw [← hh]; simp, by dsimp only at hlen ⊢; simp only [List.length_append, List.length_cons, List.length_nil] at hlen ⊢; omega⟩) (by simp) rfl ?_)
    simp (disch := first | omega | (simp <;> omega) | fail) [wrap_i64, wrap_u64, wrap_u8', gramsHV_snoc', bothG]
  refine HT.region ?_   -- R2
  simp (disch := first | omega | (simp <;> omega) | fail) [wrap_i64, wrap_u64, wrap_u8']
  refine HT.cond' ?_   -- if 17
  simp (disch := first | omega | (simp <;> omega) | fail) [wrap_i64, wrap_u64, wrap_u8']
  refine HT.skip ?_
  simp (disch := first | omega | (simp <;> omega) | fail) [wrap_i64, wrap_u64, wrap_u8']
  refine HT.block ?_
  refine HT.block ?_
  refine HT.seq ?_
  refine HT.draw [.batch [0, 1, 2, 3, 4, 5, 6, 7, 8, 9, 10, 11, 12, 13, 14, 15, 16, 17, 18, 19, 20, 21]] (by kernel_rfl) ?_   -- R4
  simp -dsimp (disch := first | omega | (simp <;> omega) | fail) [wrap_i64, wrap_u64, wrap_u8']
  refine stepK.mk (.call1 _ _ _ rfl Ty.hb54 rfl rfl (UnionC21_spec u)) ?_
  simp -dsimp (disch := first | omega | (simp <;> omega) | fail) [wrap_i64, wrap_u64, wrap_u8']
  refine stepK.mk (.call1 _ _ _ rfl Ty.hb54 rfl rfl (UnionC21_spec v)) ?_
  simp -dsimp (disch := first | omega | (simp <;> omega) | fail) [wrap_i64, wrap_u64, wrap_u8']
  refine HT.cond' ?_   -- if 33
  simp (disch := first | omega | (simp <;> omega) | fail) [wrap_i64, wrap_u64, wrap_u8']
  refine HT.seq ?_
  refine HT.draw [.batch [0, 1, 2, 3, 4, 5, 6, 7, 8, 9, 10, 11, 12, 13, 14, 15, 16]] (by kernel_rfl) ?_   -- R6
  simp -dsimp (disch := first | omega | (simp <;> omega) | fail) [wrap_i64, wrap_u64, wrap_u8']
  refine stepK.mk (.call1 _ _ _ rfl Ty.hb54 rfl rfl (UnionC21_spec v)) ?_
  simp -dsimp (disch := first | omega | (simp <;> omega) | fail) [wrap_i64, wrap_u64, wrap_u8']
  refine stepK.mk (.call1 _ _ _ rfl Ty.hb54 rfl rfl (UnionC21_spec u)) ?_
  simp -dsimp (disch := first | omega | (simp <;> omega) | fail) [wrap_i64, wrap_u64, wrap_u8']
  refine HT.cond' ?_   -- if 63
  simp (disch := first | omega | (simp <;> omega) | fail) [wrap_i64, wrap_u64, wrap_u8']
  refine HT.draw [.take 0, .take 1, .take 2, .take 5, .take 11, .take 12, .take 13, .take 14, .batch [3, 4, 6, 7, 8, 9], .one 10, .batch [15, 16, 17]] (by kernel_rfl) ?_   -- R3
  simp (disch := first | omega | (simp <;> omega) | fail) [wrap_i64, wrap_u64, wrap_u8']
  refine stepK.mk (.call1 _ _ _ rfl Ty.hb55 rfl rfl (UnionC22_spec u v)) ?_
  simp (disch := first | omega | (simp <;> omega) | fail) [wrap_i64, wrap_u64, wrap_u8']
  first | (have _t : u.code < v.code := e3; refine Round.mk' (⟨⟨x', v :: y', o ++ [u]⟩, by dsimp only; rw [← hh, mergeBy_cons, if_pos e3]; simp, by dsimp only at hlen ⊢; simp only [List.length_append, List.length_cons, List.length_nil] at hlen ⊢; omega⟩) (by simp) rfl ?_) | (have _t : v.code < u.code := e4; refine Round.mk' (⟨⟨u :: x', y', o ++ [v]⟩, by dsimp only; rw [← hh, mergeBy_cons, if_neg e3, if_pos e4]; simp, by dsimp only at hlen ⊢; simp only [List.length_append, List.length_cons, List.length_nil] at hlen ⊢; omega⟩) (by simp) rfl ?_) | (have _t : ¬ v.code < u.code := e4; refine Round.mk' (⟨⟨x', y', o ++ [bothG u v]⟩, by dsimp only; rw [← hh, mergeBy_cons, if_neg e3, if_neg e4]; simp, by dsimp only at hlen ⊢; simp only [List.length_append, List.length_cons, List.length_nil] at hlen ⊢; omega⟩) (by simp; omega) rfl ?_) | (have _t := u; refine Round.mk' (⟨⟨x', [], o ++ [u]⟩, by dsimp only; rw [← hh]; simp, by dsimp only at hlen ⊢; simp only [List.length_append, List.length_cons, List.length_nil] at hlen ⊢; omega⟩) (by simp) rfl ?_) | (refine Round.mk' (⟨⟨[], y', o ++ [v]⟩, by dsimp only; rw [← hh]; simp, by dsimp only at hlen ⊢; simp only [List.length_append, List.length_cons, List.length_nil] at hlen ⊢; omega⟩) (by simp) rfl ?_)
  simp (disch := first | omega | (simp <;> omega) | fail) [wrap_i64, wrap_u64, wrap_u8', gramsHV_snoc', bothG]
theorem UnionC2_spec (p q : Post) (hp : p.docs.length ≤ 400000) (hq : q.docs.length ≤ 400000) : Spec1 Tryz.prog 52 [.agg p.enc, .agg q.enc] (.agg (bothP p q).enc) := by
  refine Spec1.of_HT Tryz.func52 rfl (by rw [Tryz.ntmps52]; simp) rfl ?_
  rw [Tryz.ntmps52]
  refine HT.seq ?_
  refine HT.region ?_   -- R0
  simp (disch := first | omega | (simp <;> omega) | fail) [wrap_i64, wrap_u64, wrap_u8']
  refine HT.seq ?_
  refine HT.region ?_   -- R1
  simp (disch := first | omega | (simp <;> omega) | fail) [wrap_i64, wrap_u64, wrap_u8']
  refine stepK.mk (.call1f _ _ _ _ _ rfl Ty.hb53 rfl rfl (mergeG_spec p.docs q.docs hp hq) rfl) ?_
  simp (disch := first | omega | (simp <;> omega) | fail) [wrap_i64, wrap_u64, wrap_u8']
  refine HT.seq ?_
  refine HT.region ?_   -- R2
  simp (disch := first | omega | (simp <;> omega) | fail) [wrap_i64, wrap_u64, wrap_u8']
  refine HT.ret ?_
  simp (disch := first | omega | (simp <;> omega) | fail) [wrap_i64, wrap_u64, wrap_u8', bothP]
set_option maxHeartbeats 4000000 in
theorem mergeP_spec (a b : List Post) (ha : a.length ≤ 400000) (hb : b.length ≤ 400000) (hA : ∀ p ∈ a, p.docs.length ≤ 400000) (hB : ∀ p ∈ b, p.docs.length ≤ 400000) : Spec1 Tryz.prog 50 [.sl 2 false (postsHV a), .sl 2 false (postsHV b), .fn (.func 51) [], .fn (.func 52) []] (.sl 2 false (postsHV (mergeBy Post.code bothP a b))) := by
  refine Spec1.of_HT Tryz.func50 rfl (by rw [Tryz.ntmps50]; simp) rfl ?_
  rw [Tryz.ntmps50]
  refine HT.seq ?_
  refine HT.region ?_   -- R0
  simp (disch := first | omega | (simp <;> omega) | fail) [wrap_i64, wrap_u64, wrap_u8']
  refine HT.seq ?_
  refine HT.region ?_   -- R1
  simp (disch := first | omega | (simp <;> omega) | fail) [wrap_i64, wrap_u64, wrap_u8']
  refine HT.weaken (HS.le_own (t := 9) 200 56 2 _ (by decide) rfl (by decide)) ?_
  refine HT.seq ?_
  refine HT.block ?_
  refine HT.loopK (fun k : {k : List Post × List Post × List Post // k.2.2 ++ mergeBy Post.code bothP k.1 k.2.1 = mergeBy Post.code bothP a b ∧ k.2.2.length + k.1.length + k.2.1.length ≤ a.length + b.length ∧ (∀ p ∈ k.1, p.docs.length ≤ 400000) ∧ ∀ p ∈ k.2.1, p.docs.length ≤ 400000} => [.s 0 (.sl 2 false (postsHV k.1.1)), .s 1 (.sl 2 false (postsHV k.1.2.1)), .s 9 (.ref 200), .o 200 (.row 56 2 (postsHV k.1.2.2))]) [2, 3] [] (fun k => k.1.1.length + k.1.2.1.length) (⟨⟨a, b, []⟩, by simp, by simp, hA, hB⟩) ?_ ?_   -- block 0 turned [0, 1, 9, 14, 15, 16, 38, 39, 40, 41, 42, 43, 44, 45, 46, 47, 48, 49, 50, 51, 52, 53, 68, 69, 70, 71, 72, 73, 74, 75, 76, 77, 78]
  · simp (disch := first | omega | (simp <;> omega) | fail) [wrap_i64, wrap_u64, wrap_u8']
  rintro ⟨⟨x, y, o⟩, hh, hlen, hlA, hlB⟩
  simp (disch := first | omega | (simp <;> omega) | fail) [wrap_i64, wrap_u64, wrap_u8']
  refine HT.seq ?_
  refine HT.seq ?_
  dsimp only at hh hlen hlA hlB
  by_cases e0 : x = [] ∧ y = []
  · skip
    obtain ⟨rfl, rfl⟩ := e0
    have ho' : o = mergeBy Post.code bothP a b := by simpa using hh
    refine HT.region ?_   -- R2
    simp (disch := first | omega | (simp <;> omega) | fail) [wrap_i64, wrap_u64, wrap_u8']
    refine HT.cond' ?_   -- if 17
    simp (disch := first | omega | (simp <;> omega) | fail) [wrap_i64, wrap_u64, wrap_u8']
    refine HT.exit ?_
    simp (disch := first | omega | (simp <;> omega) | fail) [wrap_i64, wrap_u64, wrap_u8']
    refine HT.seq ?_
    refine HT.region ?_   -- R8
    simp (disch := first | omega | (simp <;> omega) | fail) [wrap_i64, wrap_u64, wrap_u8']
    refine HT.ret ?_
    simp (disch := first | omega | (simp <;> omega) | fail) [wrap_i64, wrap_u64, wrap_u8', ho']
  by_cases e1 : x = []
  · skip
    subst e1
    obtain ⟨v, y', rfl⟩ := List.exists_cons_of_ne_nil (fun h => e0 ⟨rfl, h⟩)
    simp only [List.length_cons] at hlen
    refine HT.region ?_   -- R2
    simp (disch := first | omega | (simp <;> omega) | fail) [wrap_i64, wrap_u64, wrap_u8']
    refine HT.cond' ?_   -- if 17
    simp (disch := first | omega | (simp <;> omega) | fail) [wrap_i64, wrap_u64, wrap_u8']
    refine HT.skip ?_
    simp (disch := first | omega | (simp <;> omega) | fail) [wrap_i64, wrap_u64, wrap_u8']
    refine HT.block ?_
    refine HT.block ?_
    refine HT.seq ?_
    refine HT.draw [.batch [0, 1, 2, 3, 4, 5, 6, 7, 8, 9, 10, 11, 12, 13, 14, 15, 16, 17, 18, 19, 20, 21]] (by kernel_rfl) ?_   -- R4
    simp -dsimp (disch := first | omega | (simp <;> omega) | fail) [wrap_i64, wrap_u64, wrap_u8']
    refine HT.cond' ?_   -- if 33
    simp (disch := first | omega | (simp <;> omega) | fail) [wrap_i64, wrap_u64, wrap_u8']
    refine HT.seq ?_
    refine HT.draw [.batch [0, 1, 2, 3, 4, 5, 6, 7, 8, 9, 10, 11, 12, 13, 14, 15, 16]] (by kernel_rfl) ?_   -- R6
    simp -dsimp (disch := first | omega | (simp <;> omega) | fail) [wrap_i64, wrap_u64, wrap_u8']
    refine HT.cond' ?_   -- if 63
    simp (disch := first | omega | (simp <;> omega) | fail) [wrap_i64, wrap_u64, wrap_u8']
    refine HT.draw [.take 0, .take 1, .take 6, .take 7, .batch [2, 3, 4], .one 5, .batch [8, 9]] (by kernel_rfl) ?_   -- R7
    simp (disch := first | omega | (simp <;> omega) | fail) [wrap_i64, wrap_u64, wrap_u8']
    first | (have _t : u.code < v.code := e3; refine Round.mk' (⟨⟨x', v :: y', o ++ [u]⟩, by dsimp only; rw [← hh, mergeBy_cons, if_pos e3]; simp, by dsimp only at hlen ⊢; simp only [List.length_append, List.length_cons, List.length_nil] at hlen ⊢; omega, fun p hp => hlA p (by first | exact List.mem_cons_of_mem _ hp | exact hp | (simp at hp; done)), fun p hp => hlB p (by first | exact List.mem_cons_of_mem _ hp | exact hp | (simp at hp; done))⟩) (by simp) rfl ?_) | (have _t : v.code < u.code := e4; refine Round.mk' (⟨⟨u :: x', y', o ++ [v]⟩, by dsimp only; rw [← hh, mergeBy_cons, if_neg e3, if_pos e4]; simp, by dsimp only at hlen ⊢; simp only [List.length_append, List.length_cons, List.length_nil] at hlen ⊢; omega, fun p hp => hlA p (by first | exact List.mem_cons_of_mem _ hp | exact hp | (simp at hp; done)), fun p hp => hlB p (by first | exact List.mem_cons_of_mem _ hp | exact hp | (simp at hp; done))⟩) (by simp) rfl ?_) | (have _t : ¬ v.code < u.code := e4; refine Round.mk' (⟨⟨x', y', o ++ [bothP u v]⟩, by dsimp only; rw [← hh, mergeBy_cons, if_neg e3, if_neg e4]; simp, by dsimp only at hlen ⊢; simp only [List.length_append, List.length_cons, List.length_nil] at hlen ⊢; omega, fun p hp => hlA p (by first | exact List.mem_cons_of_mem _ hp | exact hp | (simp at hp; done)), fun p hp => hlB p (by first | exact List.mem_cons_of_mem _ hp | exact hp | (simp at hp; done))⟩) (by simp; omega) rfl ?_) | (have _t := u; refine Round.mk' (⟨⟨x', [], o ++ [u]⟩, by dsimp only; rw [← hh]; simp, by dsimp only at hlen ⊢; simp only [List.length_append, List.length_cons, List.length_nil] at hlen ⊢; omega, fun p hp => hlA p (by first | exact List.mem_cons_of_mem _ hp | exact hp | (simp at hp; done)), fun p hp => hlB p (by first | exact List.mem_cons_of_mem _ hp | exact hp | (simp at hp; done))⟩) (by simp) rfl ?_) | (refine Round.mk' (⟨⟨[], y', o ++ [v]⟩, by dsimp only; rw [← hh]; simp, by dsimp only at hlen ⊢; simp only [List.length_append, List.length_cons, List.length_nil] at hlen ⊢; omega, fun p hp => hlA p (by first | exact List.mem_cons_of_mem _ hp | exact hp | (simp at hp; done)), fun p hp => hlB p (by first | exact List.mem_cons_of_mem _ hp | exact hp | (simp at hp; done))⟩) (by simp) rfl ?_)
    simp (disch := first | omega | (simp <;> omega) | fail) [wrap_i64, wrap_u64, wrap_u8', postsHV_snoc', bothP]
  obtain ⟨u, x', rfl⟩ := List.exists_cons_of_ne_nil e1
  by_cases e2 : y = []
  · skip
    subst e2
    simp only [List.length_cons] at hlen
    refine HT.region ?_   -- R2
    simp (disch := first | omega | (simp <;> omega) | fail) [wrap_i64, wrap_u64, wrap_u8']
    refine HT.cond' ?_   -- if 17
    simp (disch := first | omega | (simp <;> omega) | fail) [wrap_i64, wrap_u64, wrap_u8']
    refine HT.skip ?_
    simp (disch := first | omega | (simp <;> omega) | fail) [wrap_i64, wrap_u64, wrap_u8']
    refine HT.block ?_
    refine HT.block ?_
    refine HT.seq ?_
    refine HT.draw [.batch [0, 1, 2, 3, 4, 5, 6, 7, 8, 9, 10, 11, 12, 13, 14, 15, 16, 17, 18, 19, 20, 21]] (by kernel_rfl) ?_   -- R4
    simp -dsimp (disch := first | omega | (simp <;> omega) | fail) [wrap_i64, wrap_u64, wrap_u8']
    refine HT.cond' ?_   -- if 33
    simp (disch := first | omega | (simp <;> omega) | fail) [wrap_i64, wrap_u64, wrap_u8']
    refine HT.draw [.take 0, .take 1, .take 6, .take 7, .batch [2, 3, 4], .one 5, .batch [8, 9]] (by kernel_rfl) ?_   -- R5
    simp (disch := first | omega | (simp <;> omega) | fail) [wrap_i64, wrap_u64, wrap_u8']
    first | (have _t : u.code < v.code := e3; refine Round.mk' (⟨⟨x', v :: y', o ++ [u]⟩, by dsimp only; rw [← hh, mergeBy_cons, if_pos e3]; simp, by dsimp only at hlen ⊢; simp only [List.length_append, List.length_cons, List.length_nil] at hlen ⊢; omega, fun p hp => hlA p (by first | exact List.mem_cons_of_mem _ hp | exact hp | (simp at hp; done)), fun p hp => hlB p (by first | exact List.mem_cons_of_mem _ hp | exact hp | (simp at hp; done))⟩) (by simp) rfl ?_) | (have _t : v.code < u.code := e4; refine Round.mk' (⟨⟨u :: x', y', o ++ [v]⟩, by dsimp only; rw [← hh, mergeBy_cons, if_neg e3, if_pos e4]; simp, by dsimp only at hlen ⊢; simp only [List.length_append, List.length_cons, List.length_nil] at hlen ⊢; omega, fun p hp => hlA p (by first | exact List.mem_cons_of_mem _ hp | exact hp | (simp at hp; done)), fun p hp => hlB p (by first | exact List.mem_cons_of_mem _ hp | exact hp | (simp at hp; done))⟩) (by simp) rfl ?_) | (have _t : ¬ v.code < u.code := e4; refine Round.mk' (⟨⟨x', y', o ++ [bothP u v]⟩, by dsimp only; rw [← hh, mergeBy_cons, if_neg e3, if_neg e4]; simp, by dsimp only at hlen ⊢; simp only [List.length_append, List.length_cons, List.length_nil] at hlen ⊢; omega, fun p hp => hlA p (by first | exact List.mem_cons_of_mem _ hp | exact hp | (simp at hp; done)), fun p hp => hlB p (by first | exact List.mem_cons_of_mem _ hp | exact hp | (simp at hp; done))⟩) (by simp; omega) rfl ?_) | (have _t := u; refine Round.mk' (⟨⟨x', [], o ++ [u]⟩, by dsimp only; rw [← hh]; simp, by dsimp only at hlen ⊢; simp only [List.length_append, List.length_cons, List.length_nil] at hlen ⊢; omega, fun p hp => hlA p (by first | exact List.mem_cons_of_mem _ hp | exact hp | (simp at hp; done)), fun p hp => hlB p (by first | exact List.mem_cons_of_mem _ hp | exact hp | (simp at hp; done))⟩) (by simp) rfl ?_) | (refine Round.mk' (⟨⟨[], y', o ++ [v]⟩, by dsimp only; rw [← hh]; simp, by dsimp only at hlen ⊢; simp only [List.length_append, List.length_cons, List.length_nil] at hlen ⊢; omega, fun p hp => hlA p (by first | exact List.mem_cons_of_mem _ hp | exact hp | (simp at hp; done)), fun p hp => hlB p (by first | exact List.mem_cons_of_mem _ hp | exact hp | (simp at hp; done))⟩) (by simp) rfl ?_)
    simp (disch := first | omega | (simp <;> omega) | fail) [wrap_i64, wrap_u64, wrap_u8', postsHV_snoc', bothP]
  obtain ⟨v, y', rfl⟩ := List.exists_cons_of_ne_nil e2
  simp only [List.length_cons] at hlen
  by_cases e3 : u.code < v.code
  · skip
    refine HT.region ?_   -- R2
    simp (disch := first | omega | (simp <;> omega) | fail) [wrap_i64, wrap_u64, wrap_u8']
    refine HT.cond' ?_   -- if 17
    simp (disch := first | omega | (simp <;> omega) | fail) [wrap_i64, wrap_u64, wrap_u8']
    refine HT.skip ?_
    simp (disch := first | omega | (simp <;> omega) | fail) [wrap_i64, wrap_u64, wrap_u8']
    refine HT.block ?_
    refine HT.block ?_
    refine HT.seq ?_
    refine HT.draw [.batch [0, 1, 2, 3, 4, 5, 6, 7, 8, 9, 10, 11, 12, 13, 14, 15, 16, 17, 18, 19, 20, 21]] (by kernel_rfl) ?_   -- R4
    simp -dsimp (disch := first | omega | (simp <;> omega) | fail) [wrap_i64, wrap_u64, wrap_u8']
    refine stepK.mk (.call1 _ _ _ rfl Ty.hb51 rfl rfl (UnionC1_spec u)) ?_
    simp -dsimp (disch := first | omega | (simp <;> omega) | fail) [wrap_i64, wrap_u64, wrap_u8']
    refine stepK.mk (.call1 _ _ _ rfl Ty.hb51 rfl rfl (UnionC1_spec v)) ?_
    simp -dsimp (disch := first | omega | (simp <;> omega) | fail) [wrap_i64, wrap_u64, wrap_u8']
    refine HT.cond' ?_   -- if 33
    simp (disch := first | omega | (simp <;> omega) | fail) [wrap_i64, wrap_u64, wrap_u8']
    refine HT.draw [.take 0, .take 1, .take 6, .take 7, .batch [2, 3, 4], .one 5, .batch [8, 9]] (by kernel_rfl) ?_   -- R5
    simp (disch := first | omega | (simp <;> omega) | fail) [wrap_i64, wrap_u64, wrap_u8']
    first | (have _t : u.code < v.code := e3; refine Round.mk' (⟨⟨x', v :: y', o ++ [u]⟩, by dsimp only; rw [← hh, mergeBy_cons, if_pos e3]; simp, by dsimp only at hlen ⊢; simp only [List.length_append, List.length_cons, List.length_nil] at hlen ⊢; omega, fun p hp => hlA p (by first | exact List.mem_cons_of_mem _ hp | exact hp | (simp at hp; done)), fun p hp => hlB p (by first | exact List.mem_cons_of_mem _ hp | exact hp | (simp at hp; done))⟩) (by simp) rfl ?_) | (have _t : v.code < u.code := e4; refine Round.mk' (⟨⟨u :: x', y', o ++ [v]⟩, by dsimp only; rw [← hh, mergeBy_cons, if_neg e3, if_pos e4]; simp, by dsimp only at hlen ⊢; simp only [List.length_append, List.length_cons, List.length_nil] at hlen ⊢; omega, fun p hp => hlA p (by first | exact List.mem_cons_of_mem _ hp | exact hp | (simp at hp; done)), fun p hp => hlB p (by first | exact List.mem_cons_of_mem _ hp | exact hp | (simp at hp; done))⟩) (by simp) rfl ?_) | (have _t : ¬ v.code < u.code := e4; refine Round.mk' (⟨⟨x', y', o ++ [bothP u v]⟩, by dsimp only; rw [← hh, mergeBy_cons, if_neg e3, if_neg e4]; simp, by dsimp only at hlen ⊢; simp only [List.length_append, List.length_cons, List.length_nil] at hlen ⊢; omega, fun p hp => hlA p (by first | exact List.mem_cons_of_mem _ hp | exact hp | (simp at hp; done)), fun p hp => hlB p (by first | exact List.mem_cons_of_mem _ hp | exact hp | (simp at hp; done))⟩) (by simp; omega) rfl ?_) | (have _t := u; refine Round.mk' (⟨⟨x', [], o ++ [u]⟩, by dsimp only; rw [← hh]; simp, by dsimp only at hlen ⊢; simp only [List.length_append, List.length_cons, List.length_nil] at hlen ⊢; omega, fun p hp => hlA p (by first | exact List.mem_cons_of_mem _ hp | exact hp | (simp at hp; done)), fun p hp => hlB p (by first | exact List.mem_cons_of_mem _ hp | exact hp | (simp at hp; done))⟩) (by simp) rfl ?_) | (refine Round.mk' (⟨⟨[], y', o ++ [v]⟩, by dsimp only; rw [← hh]; simp, by dsimp only at hlen ⊢; simp only [List.length_append, List.length_cons, List.length_nil] at hlen ⊢; omega, fun p hp => hlA p (by first | exact List.mem_cons_of_mem _ hp | exact hp | (simp at hp; done)), fun p hp => hlB p (by first | exact List.mem_cons_of_mem _ hp | exact hp | (simp at hp; done))⟩) (by simp) rfl ?_)
    simp (disch := first | omega | (simp <;> omega) | fail) [wrap_i64, wrap_u64, wrap_u8', postsHV_snoc', bothP]
  by_cases e4 : v.code < u.code
  · skip
    refine HT.region ?_   -- R2
    simp (disch := first | omega | (simp <;> omega) | fail) [wrap_i64, wrap_u64, wrap_u8']
    refine HT.cond' ?_   -- if 17
    simp (disch := first | omega | (simp <;> omega) | fail) [wrap_i64, wrap_u64, wrap_u8']
    refine HT.skip ?_
    simp (disch := first | omega | (simp <;> omega) | fail) [wrap_i64, wrap_u64, wrap_u8']
    refine HT.block ?_
    refine HT.block ?_
    refine HT.seq ?_
    refine HT.draw [.batch [0, 1, 2, 3, 4, 5, 6, 7, 8, 9, 10, 11, 12, 13, 14, 15, 16, 17, 18, 19, 20, 21]] (by kernel_rfl) ?_   -- R4
    simp -dsimp (disch := first | omega | (simp <;> omega) | fail) [wrap_i64, wrap_u64, wrap_u8']
    refine stepK.mk (.call1 _ _ _ rfl Ty.hb51 rfl rfl (UnionC1_spec u)) ?_
    simp -dsimp (disch := first | omega | (simp <;> omega) | fail) [wrap_i64, wrap_u64, wrap_u8']
    refine stepK.mk (.call1 _ _ _ rfl Ty.hb51 rfl rfl (UnionC1_spec v)) ?_
    simp -dsimp (disch := first | omega | (simp <;> omega) | fail) [wrap_i64, wrap_u64, wrap_u8']
    refine HT.cond' ?_   -- if 33
    simp (disch := first | omega | (simp <;> omega) | fail) [wrap_i64, wrap_u64, wrap_u8']
    refine HT.seq ?_
    refine HT.draw [.batch [0, 1, 2, 3, 4, 5, 6, 7, 8, 9, 10, 11, 12, 13, 14, 15, 16]] (by kernel_rfl) ?_   -- R6
    simp -dsimp (disch := first | omega | (simp <;> omega) | fail) [wrap_i64, wrap_u64, wrap_u8']
    refine stepK.mk (.call1 _ _ _ rfl Ty.hb51 rfl rfl (UnionC1_spec v)) ?_
    simp -dsimp (disch := first | omega | (simp <;> omega) | fail) [wrap_i64, wrap_u64, wrap_u8']
    refine stepK.mk (.call1 _ _ _ rfl Ty.hb51 rfl rfl (UnionC1_spec u)) ?_
    simp -dsimp (disch := first | omega | (simp <;> omega) | fail) [wrap_i64, wrap_u64, wrap_u8']
    refine HT.cond' ?_   -- if 63
    simp (disch := first | omega | (simp <;> omega) | fail) [wrap_i64, wrap_u64, wrap_u8']
    refine HT.draw [.take 0, .take 1, .take 6, .take 7, .batch [2, 3, 4], .one 5, .batch [8, 9]] (by kernel_rfl) ?_   -- R7
    simp (disch := first | omega | (simp <;> omega) | fail) [wrap_i64, wrap_u64, wrap_u8']
    first | (have _t : u.code < v.code := e3; refine Round.mk' (⟨⟨x', v :: y', o ++ [u]⟩, by dsimp only; rw [← hh, mergeBy_cons, if_pos e3]; simp, by dsimp only at hlen ⊢; simp only [List.length_append, List.length_cons, List.length_nil] at hlen ⊢; omega, fun p hp => hlA p (by first | exact List.mem_cons_of_mem _ hp | exact hp | (simp at hp; done)), fun p hp => hlB p (by first | exact List.mem_cons_of_mem _ hp | exact hp | (simp at hp; done))⟩) (by simp) rfl ?_) | (have _t : v.code < u.code := e4; refine Round.mk' (⟨⟨u :: x', y', o ++ [v]⟩, by dsimp only; rw [← hh, mergeBy_cons, if_neg e3, if_pos e4]; simp, by dsimp only at hlen ⊢; simp only [List.length_append, List.length_cons, List.length_nil] at hlen ⊢; omega, fun p hp => hlA p (by first | exact List.mem_cons_of_mem _ hp | exact hp | (simp at hp; done)), fun p hp => hlB p (by first | exact List.mem_cons_of_mem _ hp | exact hp | (simp at hp; done))⟩) (by simp) rfl ?_) | (have _t : ¬ v.code < u.code := e4; refine Round.mk' (⟨⟨x', y', o ++ [bothP u v]⟩, by dsimp only; rw [← hh, mergeBy_cons, if_neg e3, if_neg e4]; simp, by dsimp only at hlen ⊢; simp only [List.length_append, List.length_cons, List.length_nil] at hlen ⊢; omega, fun p hp => hlA p (by first | exact List.mem_cons_of_mem _ hp | exact hp | (simp at hp; done)), fun p hp => hlB p (by first | exact List.mem_cons_of_mem _ hp | exact hp | (simp at hp; done))⟩) (by simp; omega) rfl ?_) | (have _t := u; refine Round.mk' (⟨⟨x', [], o ++ [u]⟩, by dsimp only; rw [← hh]; simp, by dsimp only at hlen ⊢; simp only [List.length_append, List.length_cons, List.length_nil] at hlen ⊢; omega, fun p hp => hlA p (by first | exact List.mem_cons_of_mem _ hp | exact hp | (simp at hp; done)), fun p hp => hlB p (by first | exact List.mem_cons_of_mem _ hp | exact hp | (simp at hp; done))⟩) (by simp) rfl ?_) | (refine Round.mk' (⟨⟨[], y', o ++ [v]⟩, by dsimp only; rw [← hh]; simp, by dsimp only at hlen ⊢; simp only [List.length_append, List.length_cons, List.length_nil] at hlen ⊢; omega, fun p hp => hlA p (by first | exact List.mem_cons_of_mem _ hp | exact hp | (simp at hp; done)), fun p hp => hlB p (by first | exact List.mem_cons_of_mem _ hp | exact hp | (simp at hp; done))⟩) (by simp) rfl ?_)
    simp (disch := first | omega | (simp <;> omega) | fail) [wrap_i64, wrap_u64, wrap_u8', postsHV_snoc', bothP]
  refine HT.region ?_   -- R2
  simp (disch := first | omega | (simp <;> omega) | fail) [wrap_i64, wrap_u64, wrap_u8']
  refine HT.cond' ?_   -- if 17
  simp (disch := first | omega | (simp <;> omega) | fail) [wrap_i64, wrap_u64, wrap_u8']
  refine HT.skip ?_
  simp (disch := first | omega | (simp <;> omega) | fail) [wrap_i64, wrap_u64, wrap_u8']
  refine HT.block ?_
  refine HT.block ?_
  refine HT.seq ?_
  refine HT.draw [.batch [0, 1, 2, 3, 4, 5, 6, 7, 8, 9, 10, 11, 12, 13, 14, 15, 16, 17, 18, 19, 20, 21]] (by kernel_rfl) ?_   -- R4
  simp -dsimp (disch := first | omega | (simp <;> omega) | fail) [wrap_i64, wrap_u64, wrap_u8']
  refine stepK.mk (.call1 _ _ _ rfl Ty.hb51 rfl rfl (UnionC1_spec u)) ?_
  simp -dsimp (disch := first | omega | (simp <;> omega) | fail) [wrap_i64, wrap_u64, wrap_u8']
  refine stepK.mk (.call1 _ _ _ rfl Ty.hb51 rfl rfl (UnionC1_spec v)) ?_
  simp -dsimp (disch := first | omega | (simp <;> omega) | fail) [wrap_i64, wrap_u64, wrap_u8']
  refine HT.cond' ?_   -- if 33
  simp (disch := first | omega | (simp <;> omega) | fail) [wrap_i64, wrap_u64, wrap_u8']
  refine HT.seq ?_
  refine HT.draw [.batch [0, 1, 2, 3, 4, 5, 6, 7, 8, 9, 10, 11, 12, 13, 14, 15, 16]] (by kernel_rfl) ?_   -- R6
  simp -dsimp (disch := first | omega | (simp <;> omega) | fail) [wrap_i64, wrap_u64, wrap_u8']
  refine stepK.mk (.call1 _ _ _ rfl Ty.hb51 rfl rfl (UnionC1_spec v)) ?_
  simp -dsimp (disch := first | omega | (simp <;> omega) | fail) [wrap_i64, wrap_u64, wrap_u8']
  refine stepK.mk (.call1 _ _ _ rfl Ty.hb51 rfl rfl (UnionC1_spec u)) ?_
  simp -dsimp (disch := first | omega | (simp <;> omega) | fail) [wrap_i64, wrap_u64, wrap_u8']
  refine HT.cond' ?_   -- if 63
  simp (disch := first | omega | (simp <;> omega) | fail) [wrap_i64, wrap_u64, wrap_u8']
  refine HT.draw [.take 0, .take 1, .take 2, .take 5, .take 11, .take 12, .take 13, .take 14, .batch [3, 4, 6, 7, 8, 9], .one 10, .batch [15, 16, 17]] (by kernel_rfl) ?_   -- R3
  simp (disch := first | omega | (simp <;> omega) | fail) [wrap_i64, wrap_u64, wrap_u8']
  refine stepK.mk (.call1 _ _ _ rfl Ty.hb52 rfl rfl (UnionC2_spec u v (hlA u (by simp)) (hlB v (by simp)))) ?_
  simp (disch := first | omega | (simp <;> omega) | fail) [wrap_i64, wrap_u64, wrap_u8']
  first | (have _t : u.code < v.code := e3; refine Round.mk' (⟨⟨x', v :: y', o ++ [u]⟩, by dsimp only; rw [← hh, mergeBy_cons, if_pos e3]; simp, by dsimp only at hlen ⊢; simp only [List.length_append, List.length_cons, List.length_nil] at hlen ⊢; omega, fun p hp => hlA p (by first | exact List.mem_cons_of_mem _ hp | exact hp | (simp at hp; done)), fun p hp => hlB p (by first | exact List.mem_cons_of_mem _ hp | exact hp | (simp at hp; done))⟩) (by simp) rfl ?_) | (have _t : v.code < u.code := e4; refine Round.mk' (⟨⟨u :: x', y', o ++ [v]⟩, by dsimp only; rw [← hh, mergeBy_cons, if_neg e3, if_pos e4]; simp, by dsimp only at hlen ⊢; simp only [List.length_append, List.length_cons, List.length_nil] at hlen ⊢; omega, fun p hp => hlA p (by first | exact List.mem_cons_of_mem _ hp | exact hp | (simp at hp; done)), fun p hp => hlB p (by first | exact List.mem_cons_of_mem _ hp | exact hp | (simp at hp; done))⟩) (by simp) rfl ?_) | (have _t : ¬ v.code < u.code := e4; refine Round.mk' (⟨⟨x', y', o ++ [bothP u v]⟩, by dsimp only; rw [← hh, mergeBy_cons, if_neg e3, if_neg e4]; simp, by dsimp only at hlen ⊢; simp only [List.length_append, List.length_cons, List.length_nil] at hlen ⊢; omega, fun p hp => hlA p (by first | exact List.mem_cons_of_mem _ hp | exact hp | (simp at hp; done)), fun p hp => hlB p (by first | exact List.mem_cons_of_mem _ hp | exact hp | (simp at hp; done))⟩) (by simp; omega) rfl ?_) | (have _t := u; refine Round.mk' (⟨⟨x', [], o ++ [u]⟩, by dsimp only; rw [← hh]; simp, by dsimp only at hlen ⊢; simp only [List.length_append, List.length_cons, List.length_nil] at hlen ⊢; omega, fun p hp => hlA p (by first | exact List.mem_cons_of_mem _ hp | exact hp | (simp at hp; done)), fun p hp => hlB p (by first | exact List.mem_cons_of_mem _ hp | exact hp | (simp at hp; done))⟩) (by simp) rfl ?_) | (refine Round.mk' (⟨⟨[], y', o ++ [v]⟩, by dsimp only; rw [← hh]; simp, by dsimp only at hlen ⊢; simp only [List.length_append, List.length_cons, List.length_nil] at hlen ⊢; omega, fun p hp => hlA p (by first | exact List.mem_cons_of_mem _ hp | exact hp | (simp at hp; done)), fun p hp => hlB p (by first | exact List.mem_cons_of_mem _ hp | exact hp | (simp at hp; done))⟩) (by simp) rfl ?_)
  simp (disch := first | omega | (simp <;> omega) | fail) [wrap_i64, wrap_u64, wrap_u8', postsHV_snoc', bothP]
theorem Union_spec (a b : List Post) (ha : a.length ≤ 400000) (hb : b.length ≤ 400000) (hA : ∀ p ∈ a, p.docs.length ≤ 400000) (hB : ∀ p ∈ b, p.docs.length ≤ 400000) : Spec1 Tryz.prog 23 [.sl 2 false (postsHV a), .sl 2 false (postsHV b)] (.sl 2 false (postsHV (unionV a b))) := by
  refine Spec1.of_HT Tryz.func23 rfl (by rw [Tryz.ntmps23]; simp) rfl ?_
  rw [Tryz.ntmps23]
  refine HT.seq ?_
  refine HT.region ?_   -- R0
  simp (disch := first | omega | (simp <;> omega) | fail) [wrap_i64, wrap_u64, wrap_u8']
  refine HT.seq ?_
  refine HT.region ?_   -- R1
  simp (disch := first | omega | (simp <;> omega) | fail) [wrap_i64, wrap_u64, wrap_u8']
  refine stepK.mk (.call1f _ _ _ _ _ rfl Ty.hb50 rfl rfl (mergeP_spec a b ha hb hA hB) rfl) ?_
  simp (disch := first | omega | (simp <;> omega) | fail) [wrap_i64, wrap_u64, wrap_u8']
  refine HT.ret ?_
  simp (disch := first | omega | (simp <;> omega) | fail) [wrap_i64, wrap_u64, wrap_u8', unionV]
end Go.Hv
set_option linter.unusedVariables false
set_option linter.unusedSimpArgs false
namespace Go.Hv
open Go Go.Hv Go.Proofs
open Go.Proofs.YthdljfognblpbaaGreatDoor
theorem agreeX {α : Type} {a b : List α} {k : Nat} (hg : ∀ i, i < k → a[i]? = b[i]?) (h : a[k]? = b[k]?) : ∀ i, i < k + 1 → a[i]? = b[i]? := fun i hi => by
  by_cases e : i = k
  · subst e; exact h
  · exact hg i (by omega)
theorem extX {α : Type} {a b : List α} (hl : a.length = b.length) (hg : ∀ i, i < a.length → a[i]? = b[i]?) : a = b := by
  apply List.ext_getElem?
  intro i
  rcases Nat.lt_or_ge i a.length with h | h
  · exact hg i h
  · rw [List.getElem?_eq_none h, List.getElem?_eq_none (by omega)]
end Go.Hv
set_option linter.unusedVariables false
set_option linter.unusedSimpArgs false
namespace Go.Hv
open Go Go.Hv Go.Proofs
open Go.Proofs.YthdljfognblpbaaGreatDoor
def SegB (n : Nat) (s : Seg) : Prop := s.docs.length ≤ n ∧ s.grams.length ≤ n ∧ ∀ p ∈ s.grams, p.docs.length ≤ n
def gK (dead : List Int) (l : List Gram) : List Gram := l.filter fun g => aliveB dead g.code
def filtP (dead : List Int) (gs : List Post) : List Post := (gs.map fun p => (⟨p.code, gK dead p.docs⟩ : Post)).filter fun p => decide (p.docs ≠ [])
theorem filtP_succ {dead : List Int} {gs : List Post} {k : Nat} (hk : k < gs.length) : filtP dead (gs.take (k + 1)) = filtP dead (gs.take k) ++ if gK dead gs[k].docs = [] then [] else [⟨gs[k].code, gK dead gs[k].docs⟩] := by
  unfold filtP
  rw [List.take_succ_eq_append_getElem hk, List.map_append, List.filter_append]
  congr 1
  by_cases h : gK dead gs[k].docs = [] <;> simp [h]
theorem filtP_length (dead : List Int) (gs : List Post) (k : Nat) : (filtP dead (gs.take k)).length ≤ gs.length := by
  unfold filtP
  have h1 := List.length_filter_le (fun p : Post => decide (p.docs ≠ [])) ((gs.take k).map fun p => (⟨p.code, gK dead p.docs⟩ : Post))
  rw [List.length_map, List.length_take] at h1
  omega
theorem gram_eqX {g h : Gram} (h1 : g.code = h.code) (h2 : g.off = h.off) : g = h := by cases g; cases h; simp_all
theorem post_eq {g h : Post} (h1 : g.code = h.code) (h2 : g.docs = h.docs) : g = h := by cases g; cases h; simp_all
theorem pos_ne {α : Type} {l : List α} (h : 0 < l.length) : ¬ l = [] := fun e => by rw [e] at h; simp at h
theorem npos_eq {α : Type} {l : List α} (h : ¬ 0 < l.length) : l = [] := List.eq_nil_of_length_eq_zero (by omega)
theorem dK_spec (dead : List Int) (hd : dead.length ≤ 1000000) (l : List Gram) (hl : l.length ≤ 1000000) : Spec1 Tryz.prog 44 [.sl 2 false (gramsHV l), .fn (.func 45) [.cptr [.sl 1 false (intsHV dead)]]] (.sl 2 false (gramsHV (gK dead l))) :=
  keepG_spec 45 Ty.hb45 [.cptr [.sl 1 false (intsHV dead)]] (by simp [isIL, isI]) (fun d => aliveB dead d.code) l hl (fun d _ => FilterC2_spec false dead hd d)
theorem filterV_eq (s : Seg) (dead : List Int) : filterV s dead = ⟨s.docs.filter fun d => aliveB dead d.id, filtP dead s.grams⟩ := rfl
set_option maxHeartbeats 4000000 in
theorem Filter_spec (s : Seg) (dead : List Int) (hs : SegB 1000000 s) (hd : dead.length ≤ 1000000) : Spec1 Tryz.prog 16 [.agg s.enc, .sl 1 false (intsHV dead)] (.agg (filterV s dead).enc) := by
  refine Spec1.of_HT Tryz.func16 rfl (by rw [Tryz.ntmps16]; simp) rfl ?_
  rw [Tryz.ntmps16]
  refine HT.seq ?_
  refine HT.region ?_   -- R0
  simp (disch := first | omega | (simp <;> omega) | fail) [wrap_i64, wrap_u64, wrap_u8']
  refine HT.weaken (HS.le_frzbox 3 3 (by decide) rfl rfl (by simp [isIL, isI])) ?_
  simp
  refine HT.seq ?_
  refine HT.region ?_   -- R1
  simp (disch := first | omega | (simp <;> omega) | fail) [wrap_i64, wrap_u64, wrap_u8']
  refine stepK.mk (.call1f _ _ _ _ _ rfl Ty.hb29 rfl rfl (keepD_spec 43 Ty.hb43 [.cptr [.sl 1 false (intsHV dead)]] (by simp [isIL, isI]) (fun d => aliveB dead d.id) s.docs hs.1 (fun d _ => FilterC1_spec false dead hd d)) rfl) ?_
  simp (disch := first | omega | (simp <;> omega) | fail) [wrap_i64, wrap_u64, wrap_u8']
  refine HT.weaken (HS.le_boxown 5 1 200 56 2 0 rfl rfl (by decide) (by decide)) ?_
  refine HT.seq ?_
  refine HT.seq ?_
  refine HT.region ?_   -- R2
  simp (disch := first | omega | (simp <;> omega) | fail) [wrap_i64, wrap_u64, wrap_u8']
  refine HT.block ?_
  refine HT.loopK (fun k : {k : Nat // k ≤ s.grams.length} => [.s 16 (i64 k), .o 5 (.box [.sl 5 false (docsHV (s.docs.filter fun d => aliveB dead d.id)), .ref 200]), .o 200 (.row 56 2 (postsHV (filtP dead (s.grams.take k))))]) [3, 4, 5, 14, 15] [3, 4] (fun k => s.grams.length - k) (⟨0, by omega⟩) ?_ ?_   -- block 0 turned [16]
  · simp (disch := first | omega | (simp <;> omega) | fail) [wrap_i64, wrap_u64, wrap_u8', filtP]
  rintro ⟨k, hk⟩
  simp (disch := first | omega | (simp <;> omega) | fail) [wrap_i64, wrap_u64, wrap_u8']
  refine HT.seq ?_
  refine HT.region ?_   -- R3
  simp (disch := first | omega | (simp <;> omega) | fail) [wrap_i64, wrap_u64, wrap_u8']
  refine HT.seq ?_
  refine HT.cond' ?_   -- if 17
  simp (disch := first | omega | (simp <;> omega) | fail) [wrap_i64, wrap_u64, wrap_u8']
  refine ⟨fun h17 => ?_, fun h17 => ?_⟩
  · skip
    have hk' : k < s.grams.length := by omega
    have hfl := filtP_length dead s.grams k
    have hsg := hs.2.1
    refine HT.skip ?_
    simp (disch := first | omega | (simp <;> omega) | fail) [wrap_i64, wrap_u64, wrap_u8']
    refine HT.seq ?_
    refine HT.block ?_
    refine HT.seq ?_
    refine HT.region ?_   -- R4
    simp (disch := first | omega | (simp <;> omega) | fail) [wrap_i64, wrap_u64, wrap_u8']
    refine HT.seq ?_
    refine HT.region ?_   -- R5
    simp (disch := first | omega | (simp <;> omega) | fail) [wrap_i64, wrap_u64, wrap_u8']
    refine stepK.mk (.call1f _ _ _ _ _ rfl Ty.hb44 rfl rfl (dK_spec dead hd s.grams[k].docs (hs.2.2 _ (List.getElem_mem hk'))) rfl) ?_
    simp (disch := first | omega | (simp <;> omega) | fail) [wrap_i64, wrap_u64, wrap_u8']
    refine HT.seq ?_
    refine HT.region ?_   -- R6
    simp (disch := first | omega | (simp <;> omega) | fail) [wrap_i64, wrap_u64, wrap_u8']
    refine HT.cond' ?_   -- if 28
    simp (disch := first | omega | (simp <;> omega) | fail) [wrap_i64, wrap_u64, wrap_u8']
    refine ⟨fun h28 => ?_, fun h28 => ?_⟩
    · skip
      have hT28 : ¬ gK dead s.grams[k].docs = [] := by first | exact h28 | exact pos_ne h28 | (intro e; simp [e] at h28)
      refine HT.region ?_   -- R7
      simp (disch := first | omega | (simp <;> omega) | fail) [wrap_i64, wrap_u64, wrap_u8']
      refine HT.region ?_   -- R8
      simp (disch := first | omega | (simp <;> omega) | fail) [wrap_i64, wrap_u64, wrap_u8']
      refine Round.mk' (⟨k + 1, by omega⟩) (by dsimp only; omega) rfl ?_
      simp (disch := first | omega | (simp <;> omega) | fail) [wrap_i64, wrap_u64, wrap_u8']
      first
      | (rw [filtP_succ hk', if_neg hT28]; try simp [postsHV])
      | (rw [filtP_succ hk', if_pos hF28]; try simp)
    · skip
      have hF28 : gK dead s.grams[k].docs = [] := by first | exact h28 | exact npos_eq h28 | simpa using h28
      refine HT.skip ?_
      simp (disch := first | omega | (simp <;> omega) | fail) [wrap_i64, wrap_u64, wrap_u8']
      refine HT.region ?_   -- R8
      simp (disch := first | omega | (simp <;> omega) | fail) [wrap_i64, wrap_u64, wrap_u8']
      refine Round.mk' (⟨k + 1, by omega⟩) (by dsimp only; omega) rfl ?_
      simp (disch := first | omega | (simp <;> omega) | fail) [wrap_i64, wrap_u64, wrap_u8']
      first
      | (rw [filtP_succ hk', if_neg hT28]; try simp [postsHV])
      | (rw [filtP_succ hk', if_pos hF28]; try simp)
  · skip
    obtain rfl : k = s.grams.length := by omega
    refine HT.exit ?_
    simp (disch := first | omega | (simp <;> omega) | fail) [wrap_i64, wrap_u64, wrap_u8']
    refine HT.seq ?_
    refine HT.region ?_   -- R9
    simp (disch := first | omega | (simp <;> omega) | fail) [wrap_i64, wrap_u64, wrap_u8']
    refine HT.ret ?_
    simp (disch := first | omega | (simp <;> omega) | fail) [wrap_i64, wrap_u64, wrap_u8', filterV_eq]
def dKeep (dead : List Int) (l : List Doc) : List Doc := l.filter fun d => aliveB dead d.id
theorem dKeep_succ {dead : List Int} {l : List Doc} {j : Nat} (hj : j < l.length) : dKeep dead (l.take (j + 1)) = dKeep dead (l.take j) ++ if l[j].id ∈ dead then [] else [l[j]] := by
  unfold dKeep
  rw [filt_succ _ hj]
  by_cases h : l[j].id ∈ dead <;> simp [h, aliveB]
theorem dKeep_take_le (dead : List Int) (l : List Doc) (j : Nat) : (dKeep dead (l.take j)).length ≤ l.length := filt_le _ l j
end Go.Hv
set_option linter.unusedVariables false
set_option linter.unusedSimpArgs false
/- Stable order by a number, in plain lists: what merging in place by rotations gives. -/
namespace Go.Stab
variable {α : Type}
def Srt (key : α → Int) (l : List α) : Prop := l.Pairwise fun x y => key x ≤ key y
def Stb (key : α → Int) (a b : List α) : Prop := ∀ k : Int, a.filter (fun x => decide (key x = k)) = b.filter (fun x => decide (key x = k))
theorem Stb.refl (key : α → Int) (a : List α) : Stb key a a := fun _ => rfl
theorem Stb.symm {key : α → Int} {a b : List α} (h : Stb key a b) : Stb key b a := fun k => (h k).symm
theorem Stb.trans {key : α → Int} {a b c : List α} (h : Stb key a b) (g : Stb key b c) : Stb key a c := fun k => (h k).trans (g k)
theorem Stb.append {key : α → Int} {a b c d : List α} (h : Stb key a b) (g : Stb key c d) : Stb key (a ++ c) (b ++ d) := fun k => by
  rw [List.filter_append, List.filter_append, h k, g k]
theorem Stb.mem {key : α → Int} {a b : List α} (h : Stb key a b) (x : α) : x ∈ a ↔ x ∈ b := by
  have := h (key x)
  constructor
  · intro hx
    have : x ∈ b.filter (fun y => decide (key y = key x)) := by rw [← this]; exact List.mem_filter.2 ⟨hx, by simp⟩
    exact (List.mem_filter.1 this).1
  · intro hx
    have : x ∈ a.filter (fun y => decide (key y = key x)) := by rw [this]; exact List.mem_filter.2 ⟨hx, by simp⟩
    exact (List.mem_filter.1 this).1
theorem Stb.unique {key : α → Int} : ∀ {a b : List α}, Srt key a → Srt key b → Stb key a b → a = b
  | [], [], _, _, _ => rfl
  | [], y :: b, _, _, h => by have := (h.mem y).2 (by simp); simp at this
  | x :: a, [], _, _, h => by have := (h.mem x).1 (by simp); simp at this
  | x :: a, y :: b, ha, hb, h => by
    have h1 : key x ≤ key y := by
      rcases List.mem_cons.1 ((h.mem y).2 (by simp)) with e | e
      · rw [e]; exact Int.le_refl _
      · exact (List.pairwise_cons.1 ha).1 y e
    have h2 : key y ≤ key x := by
      rcases List.mem_cons.1 ((h.mem x).1 (by simp)) with e | e
      · rw [e]; exact Int.le_refl _
      · exact (List.pairwise_cons.1 hb).1 x e
    have he : key y = key x := by omega
    have hx := h (key x)
    simp only [List.filter_cons, he, decide_true, if_true, List.cons.injEq] at hx
    obtain ⟨rfl, _⟩ := hx
    have := Stb.unique (List.pairwise_cons.1 ha).2 (List.pairwise_cons.1 hb).2 (fun k => by
      have := h k
      simp only [List.filter_cons] at this
      by_cases e : key x = k
      · simpa [e] using this
      · simpa [e] using this)
    rw [this]
theorem filter_none {key : α → Int} {k : Int} {l : List α} (h : ∀ x ∈ l, key x ≠ k) : l.filter (fun x => decide (key x = k)) = [] := by
  rw [List.filter_eq_nil_iff]; intro x hx; simpa using h x hx
theorem Stb.swap {key : α → Int} {a b : List α} (h : ∀ x ∈ a, ∀ y ∈ b, key x ≠ key y) : Stb key (a ++ b) (b ++ a) := fun k => by
  rw [List.filter_append, List.filter_append]
  by_cases ha : ∃ x ∈ a, key x = k
  · obtain ⟨x, hx, rfl⟩ := ha
    rw [filter_none (l := b) fun y hy e => h x hx y hy e.symm]; simp
  · rw [filter_none (l := a) fun x hx e => ha ⟨x, hx, e⟩]; simp
theorem Srt.append {key : α → Int} {a b : List α} : Srt key (a ++ b) ↔ Srt key a ∧ Srt key b ∧ ∀ x ∈ a, ∀ y ∈ b, key x ≤ key y := by
  unfold Srt; rw [List.pairwise_append]
theorem Srt.of_stb {key : α → Int} {a a' b b' : List α} (ha : Srt key a') (hb : Srt key b') (h1 : Stb key a' a) (h2 : Stb key b' b) (h : ∀ x ∈ a, ∀ y ∈ b, key x ≤ key y) : Srt key (a' ++ b') :=
  Srt.append.2 ⟨ha, hb, fun x hx y hy => h x ((h1.mem x).1 hx) y ((h2.mem y).1 hy)⟩
def sw (l : List α) (i j : Nat) : List α := match l[i]?, l[j]? with
  | some x, some y => (l.set i y).set j x
  | _, _ => l
theorem sw_length (l : List α) (i j : Nat) : (sw l i j).length = l.length := by unfold sw; split <;> simp
theorem sw_at (p m s : List α) (x y : α) : sw (p ++ x :: (m ++ y :: s)) p.length (p.length + 1 + m.length) = p ++ y :: (m ++ x :: s) := by
  unfold sw
  have e1 : (p ++ x :: (m ++ y :: s))[p.length]? = some x := by simp
  have e2 : (p ++ x :: (m ++ y :: s))[p.length + 1 + m.length]? = some y := by
    rw [List.getElem?_append_right (by omega), show p.length + 1 + m.length - p.length = m.length + 1 by omega, List.getElem?_cons_succ, List.getElem?_append_right (Nat.le_refl _)]; simp
  rw [e1, e2]
  dsimp only
  rw [List.set_append_right _ _ (Nat.le_refl _), Nat.sub_self, List.set_cons_zero, List.set_append_right _ _ (by omega), show p.length + 1 + m.length - p.length = m.length + 1 by omega, List.set_cons_succ, List.set_append_right _ _ (Nat.le_refl _)]
  simp
theorem sw_comm (l : List α) (i j : Nat) (h : i ≠ j) : sw l i j = sw l j i := by
  unfold sw
  cases h1 : l[i]? <;> cases h2 : l[j]? <;> simp
  rw [List.set_comm _ _ h]
def swN (l : List α) (a b : Nat) : Nat → List α
  | 0 => l
  | n + 1 => sw (swN l a b n) (a + n) (b + n)
theorem swN_length (l : List α) (a b n : Nat) : (swN l a b n).length = l.length := by
  induction n with
  | zero => rfl
  | succ n ih => rw [swN, sw_length, ih]
theorem swN_at (p m s : List α) : ∀ (n : Nat) (u v : List α), u.length = v.length → n ≤ u.length → swN (p ++ u ++ m ++ v ++ s) p.length (p.length + u.length + m.length) n = p ++ (v.take n ++ u.drop n) ++ m ++ (u.take n ++ v.drop n) ++ s
  | 0, u, v, h, _ => by simp [swN]
  | n + 1, u, v, h, hn => by
    rw [swN, swN_at p m s n u v h (by omega)]
    have hu : u.drop n = u[n] :: u.drop (n + 1) := List.drop_eq_getElem_cons (by omega)
    have hv : v.drop n = v[n] :: v.drop (n + 1) := List.drop_eq_getElem_cons (by omega)
    have lu : (u.take n).length = n := by rw [List.length_take]; omega
    have lv : (v.take n).length = n := by rw [List.length_take]; omega
    have lt : (u.drop (n + 1)).length = u.length - (n + 1) := by simp
    have key := sw_at (p ++ v.take n) (u.drop (n + 1) ++ m ++ u.take n) (v.drop (n + 1) ++ s) u[n] v[n]
    have e1 : (p ++ v.take n).length = p.length + n := by rw [List.length_append, lv]
    have e2 : (p ++ v.take n).length + 1 + (u.drop (n + 1) ++ m ++ u.take n).length = p.length + u.length + m.length + n := by
      rw [e1, List.length_append, List.length_append, lu, lt]; omega
    rw [e2, e1] at key
    have hl : p ++ (v.take n ++ u.drop n) ++ m ++ (u.take n ++ v.drop n) ++ s = (p ++ v.take n) ++ u[n] :: (u.drop (n + 1) ++ m ++ u.take n ++ v[n] :: (v.drop (n + 1) ++ s)) := by
      rw [hu, hv]; simp only [List.append_assoc, List.cons_append]
    rw [hl, key, List.take_succ_eq_append_getElem (by omega : n < u.length), List.take_succ_eq_append_getElem (by omega : n < v.length)]
    simp only [List.append_assoc, List.cons_append, List.nil_append]
theorem swN_all (p m s u v : List α) (h : u.length = v.length) : swN (p ++ u ++ m ++ v ++ s) p.length (p.length + u.length + m.length) u.length = p ++ v ++ m ++ u ++ s := by
  rw [swN_at p m s u.length u v h (Nat.le_refl _), List.take_length, List.drop_length, h, List.take_length, List.drop_length]
  simp
def srtK (key : α → Int) (l : List α) : List α := l.mergeSort fun x y => decide (key x ≤ key y)
theorem srtK_srt (key : α → Int) (l : List α) : Srt key (srtK key l) := by
  have := List.pairwise_mergeSort (le := fun x y => decide (key x ≤ key y)) (fun a b c h1 h2 => by simp at *; omega) (fun a b => by simp; omega) l
  exact this.imp fun h => by simpa using h
theorem srtK_perm (key : α → Int) (l : List α) : (srtK key l).Perm l := List.mergeSort_perm l _
theorem srtK_length (key : α → Int) (l : List α) : (srtK key l).length = l.length := List.length_mergeSort l
theorem srtK_stb (key : α → Int) (l : List α) : Stb key (srtK key l) l := fun k => by
  have h1 : (l.filter fun x => decide (key x = k)).Sublist (srtK key l) := by
    refine List.sublist_mergeSort (le := fun x y => decide (key x ≤ key y)) (fun a b c h1 h2 => by simp at *; omega) (fun a b => by simp; omega) ?_ List.filter_sublist
    rw [List.pairwise_filter]
    have : ∀ (m : List α), m.Pairwise fun x y => decide (key x = k) = true → decide (key y = k) = true → decide (key x ≤ key y) = true := fun m => by
      induction m with
      | nil => exact List.Pairwise.nil
      | cons a m ih => exact List.pairwise_cons.2 ⟨fun b _ h1 h2 => by simp at *; omega, ih⟩
    exact this l
  have h2 : (l.filter fun x => decide (key x = k)).Sublist ((srtK key l).filter fun x => decide (key x = k)) := by
    have := h1.filter fun x => decide (key x = k)
    rwa [List.filter_filter, show (fun x : α => decide (key x = k) && decide (key x = k)) = fun x => decide (key x = k) from funext fun x => Bool.and_self _] at this
  have h3 : ((srtK key l).filter fun x => decide (key x = k)).length = (l.filter fun x => decide (key x = k)).length := ((srtK_perm key l).filter _).length_eq
  exact (h2.eq_of_length h3.symm).symm
theorem srtK_eq {key : α → Int} {l r : List α} (h1 : Srt key r) (h2 : Stb key r l) : srtK key l = r := Stb.unique (srtK_srt key l) h1 ((srtK_stb key l).trans h2.symm)
theorem srtK_of_srt {key : α → Int} {l : List α} (h : Srt key l) : srtK key l = l := srtK_eq h (Stb.refl key l)
theorem srtK_stb_eq {key : α → Int} {l r : List α} (h : Stb key l r) : srtK key l = srtK key r := srtK_eq (srtK_srt key r) ((srtK_stb key r).trans h.symm)
theorem Srt.sub {key : α → Int} {a b : List α} (h : Srt key b) (g : a.Sublist b) : Srt key a := h.sublist g
theorem srtK_put {key : α → Int} {x : α} {b1 b2 : List α} (hb : Srt key (b1 ++ b2)) (h1 : ∀ y ∈ b1, key y < key x) (h2 : ∀ y ∈ b2, key x ≤ key y) : srtK key (x :: (b1 ++ b2)) = b1 ++ x :: b2 := by
  obtain ⟨s1, s2, s3⟩ := Srt.append.1 hb
  refine srtK_eq (Srt.append.2 ⟨s1, List.pairwise_cons.2 ⟨h2, s2⟩, fun y hy z hz => ?_⟩) ?_
  · rcases List.mem_cons.1 hz with rfl | hz
    · have := h1 y hy; omega
    · exact s3 y hy z hz
  · have := (Stb.swap (key := key) (a := b1) (b := [x]) (fun y hy z hz => by simp only [List.mem_singleton] at hz; subst hz; have := h1 y hy; omega)).append (Stb.refl key b2)
    simpa using this
theorem srtK_ins {key : α → Int} {y : α} {a1 a2 : List α} (ha : Srt key (a1 ++ a2)) (h1 : ∀ x ∈ a1, key x ≤ key y) (h2 : ∀ x ∈ a2, key y < key x) : srtK key (a1 ++ a2 ++ [y]) = a1 ++ y :: a2 := by
  obtain ⟨s1, s2, s3⟩ := Srt.append.1 ha
  refine srtK_eq (Srt.append.2 ⟨s1, List.pairwise_cons.2 ⟨fun z hz => by have := h2 z hz; omega, s2⟩, fun x hx z hz => ?_⟩) ?_
  · rcases List.mem_cons.1 hz with rfl | hz
    · exact h1 x hx
    · exact s3 x hx z hz
  · have := (Stb.refl key a1).append (Stb.swap (key := key) (a := [y]) (b := a2) (fun z hz x hx => by simp only [List.mem_singleton] at hz; subst hz; have := h2 x hx; omega))
    simpa using this
theorem srtK_sym {key : α → Int} {a1 a2 b1 b2 : List α} (ha : Srt key (a1 ++ a2)) (hb : Srt key (b1 ++ b2)) (h1 : ∀ y ∈ b1, ∀ x ∈ a2, key y < key x) (h2 : ∀ x ∈ a1, ∀ y ∈ b2, key x ≤ key y) :
    srtK key (a1 ++ a2 ++ (b1 ++ b2)) = srtK key (a1 ++ b1) ++ srtK key (a2 ++ b2) := by
  obtain ⟨_, _, s3⟩ := Srt.append.1 ha
  obtain ⟨_, _, t3⟩ := Srt.append.1 hb
  refine srtK_eq (Srt.of_stb (srtK_srt key (a1 ++ b1)) (srtK_srt key (a2 ++ b2)) (srtK_stb key (a1 ++ b1)) (srtK_stb key (a2 ++ b2)) fun x hx y hy => ?_) ?_
  · rcases List.mem_append.1 hx with hx | hx <;> rcases List.mem_append.1 hy with hy | hy
    · exact s3 x hx y hy
    · exact h2 x hx y hy
    · have := h1 x hx y hy; omega
    · exact t3 x hx y hy
  · refine ((srtK_stb key (a1 ++ b1)).append (srtK_stb key (a2 ++ b2))).trans ?_
    have := ((Stb.refl key a1).append (Stb.swap (key := key) (a := b1) (b := a2) (fun y hy x hx => by have := h1 y hy x hx; omega))).append (Stb.refl key b2)
    simpa using this
theorem srtK_length2 (key : α → Int) (a b : List α) : (srtK key (a ++ b)).length = a.length + b.length := by rw [srtK_length, List.length_append]
theorem Srt.le_of {key : α → Int} {l : List α} (h : Srt key l) {i j : Nat} {x y : α} (hij : i ≤ j) (hx : l[i]? = some x) (hy : l[j]? = some y) : key x ≤ key y := by
  obtain ⟨hi, rfl⟩ := List.getElem?_eq_some_iff.1 hx
  obtain ⟨hj, rfl⟩ := List.getElem?_eq_some_iff.1 hy
  rcases Nat.lt_or_ge i j with h' | h'
  · exact List.pairwise_iff_getElem.1 h i j hi hj h'
  · obtain rfl : i = j := by omega
    exact Int.le_refl _
theorem get_l {p q : List α} {i : Nat} (h : i < p.length) : (p ++ q)[i]? = p[i]? := List.getElem?_append_left h
theorem get_r {p q : List α} {i : Nat} : (p ++ q)[p.length + i]? = q[i]? := by rw [List.getElem?_append_right (by omega)]; congr 1; omega
theorem srt_snoc {key : α → Int} {l : List α} {i : Nat} (h : i < l.length) : Stb key (srtK key (l.take i) ++ [l[i]]) (l.take (i + 1)) := by
  rw [List.take_succ_eq_append_getElem h]
  exact (srtK_stb key _).append (Stb.refl key _)
end Go.Stab
set_option linter.unusedVariables false
set_option linter.unusedSectionVars false
set_option linter.unusedSimpArgs false
/- What a sort is handed besides its row: a comparison that reads the row through a box, and the exchange of two elements. -/
namespace Go.Hv
open Go Go.RowKit Go.Stab Go.Lib
variable {P : Program}
section
variable [GI]
theorem ORel.irep {w : World} {dead dead' : Nat → Prop} {γ : Nat → Value} {bl : Nat → Option Nat} {id e sz : Nat} {es : List (List HV)} (R : ORel w dead γ bl id (.row e sz es)) (hI : isILL es = true) (hd : ∀ b, bl id = some b → ¬ dead' b) (hdd : ∀ b, dead' b → dead b) :
    IRep w dead' (.sl sz false es) (γ id) := by
  obtain ⟨hz, hl, R⟩ := R
  rcases R with ⟨rfl, ⟨A, hA⟩, _⟩ | ⟨b', cap, C, fr, h1, h2, h3, h4, h5, h6, h7, h8, h9⟩
  · rw [hA]; exact .nil (fun h => by cases h) (fun _ => rfl)
  · rw [h1]
    have hcell : ∀ i j, i < es.length → j < sz → ∃ v, C[i * sz + j]? = some v := by
      intro i j hi hj
      have : i * sz + j < C.size := by
        rw [h7]
        have : (i + 1) * sz ≤ cap * sz := Nat.mul_le_mul_right _ (by omega)
        rw [Nat.add_mul, Nat.one_mul] at this
        omega
      exact ⟨C[i * sz + j], Array.getElem?_eq_getElem this⟩
    refine .sl (fun i j => C.getD (i * sz + j) undef) hl h5 (fun h => by cases h) (hd b' h2) (lt_of_get h3) (fun i j hi hj => ?_) (fun i j hi hj => ?_) (fun i j x c hx hc => ?_)
    · obtain ⟨v, hv⟩ := hcell i j hi hj
      simp [World.cell?, h3, hv, Array.getD_eq_getD_getElem?]
    · obtain ⟨v, hv⟩ := hcell i j hi hj
      show (C.getD (i * sz + j) undef).oneCell' = true
      simp only [Array.getD_eq_getD_getElem?, hv, Option.getD_some]
      exact h8 _ _ hv
    · obtain ⟨v, hv, hr⟩ := h9 i j x c hx hc
      show IRep w dead' c (C.getD (i * sz + j) undef)
      simp only [Array.getD_eq_getD_getElem?, hv, Option.getD_some]
      have hci : isI c = true := (isIL_iff _).1 (List.all_eq_true.1 hI x (List.mem_of_getElem? hx)) c (List.mem_of_getElem? hc)
      exact (hr.toI hci).mono (Nat.le_refl _) (fun _ _ _ => rfl) (fun b _ h => hdd b h)
theorem RowW.grow {w w' : World} {D : Nat → Prop} {V : Value} {ob : Option Nat} {e sz : Nat} {es : List (List HV)} (h : RowW w D V ob e sz es) (hs : w.heap.size ≤ w'.heap.size) (hw : ∀ b, b < w.heap.size → w'.heap[b]? = w.heap[b]?) : RowW w' D V ob e sz es := by
  obtain ⟨h1, h2, h3, h4⟩ := h
  refine ⟨h1, h2, fun b hb => ⟨(h3 b hb).1, Nat.lt_of_lt_of_le (h3 b hb).2 hs⟩, ?_⟩
  exact ORel.other hs (fun b h _ => hw b h) (fun _ _ h => h) rfl rfl (fun b _ h => hw b h) (fun h => h) (fun h v r => r.mono hs (fun b h _ => hw b h) (fun _ _ h => h)) (by simp [map_id_fun]) h4
theorem RowW.setElem {w : World} {D : Nat → Prop} {b n cap e sz : Nat} {es : List (List HV)} (h : RowW w D (.slice (some ⟨b, 0, none⟩) n cap) (some b) e sz es) {k : Nat} (hk : k < es.length) {xs : List HV} {vs : List Value} (hx : xs.length = sz) (hv : vs.length = sz)
    (hI : isIL xs = true) (h1 : ∀ v ∈ vs, v.oneCell' = true) (hr : ∀ (j : Nat) (c : HV) (v : Value), xs[j]? = some c → vs[j]? = some v → IRep w (fun x => D x ∨ b = x) c v) :
    RowW (w.setCells b (k * sz) vs) D (.slice (some ⟨b, 0, none⟩) n cap) (some b) e sz (es.set k xs) := by
  obtain ⟨g1, g2, g3, hz, hl, R⟩ := h
  refine ⟨g1, ?_, fun b' hb => ⟨(g3 b' hb).1, by rw [size_setCells]; exact (g3 b' hb).2⟩, hz, ?_, ?_⟩
  · exact isILL_set es k xs g2 hI
  · intro x hx'
    rcases List.mem_or_eq_of_mem_set hx' with h' | rfl
    · exact hl x h'
    · exact hx
  rcases R with ⟨rfl, _⟩ | ⟨b', cap', C, fr, k1, k2, k3, k4, k5, k6, k7, k8, k9⟩
  · simp at hk
  obtain rfl : b = b' := by
    have k2 : some b = some b' := k2
    exact Option.some.inj k2
  have k1 : Value.slice (some ⟨b, 0, none⟩) n cap = .slice (some ⟨b, 0, none⟩) es.length cap' := k1
  cases k1
  have hfit : k * sz + vs.length ≤ C.size := by
    rw [k7, hv]
    have : (k + 1) * sz ≤ cap * sz := Nat.mul_le_mul_right _ (by omega)
    rw [Nat.add_mul, Nat.one_mul] at this
    exact this
  obtain ⟨C', q1, q2, q3⟩ := heap_setCells b e fr vs (k * sz) w C k3
  have hmono : ∀ {c : HV} {v : Value}, IRep w (fun x => D x ∨ b = x) c v → IRep (w.setCells b (k * sz) vs) (fun x => D x ∨ some b = some x) c v := fun r =>
    r.mono (by rw [size_setCells]; exact Nat.le_refl _) (fun x _ hd => heap_setCells_other b vs (k * sz) w x (fun e => hd (.inr e.symm))) (fun x _ hd => hd.imp id fun e => Option.some.inj e)
  refine .inr ⟨b, cap, C', fr, by rw [List.length_set], rfl, q1, by rw [q2]; exact k4, by rw [List.length_set]; exact k5, k6, by rw [q2]; exact k7, fun j v hj => ?_, fun i j x c hxi hc => ?_⟩
  · rw [q3] at hj
    split at hj
    · exact h1 v (List.mem_of_getElem? hj)
    · exact k8 j v hj
  · have hI2 : isI c = true := by
      have := isILL_set es k xs g2 hI
      exact (isIL_iff _).1 (List.all_eq_true.1 this x (List.mem_of_getElem? hxi)) c (List.mem_of_getElem? hc)
    rw [List.getElem?_set] at hxi
    split at hxi
    · next hki =>
      subst hki
      cases hxi
      have hj := getElem?_lt hc
      have hvj : vs[j]? = some (vs[j]'(by omega)) := List.getElem?_eq_getElem (by omega)
      refine ⟨vs[j]'(by omega), ?_, .imm (hmono (hr j c _ hc hvj))⟩
      rw [q3, if_pos ⟨by omega, by omega, by omega⟩, show k * sz + j - k * sz = j by omega]
      exact hvj
    · next hki =>
      obtain ⟨v, hv', hr'⟩ := k9 i j x c hxi hc
      refine ⟨v, ?_, .imm (hmono ((hr'.toI hI2).mono (Nat.le_refl _) (fun _ _ _ => rfl) (fun x _ hd => hd.imp id fun e => by rw [e])))⟩
      have hj : j < sz := by rw [← hl x (List.mem_of_getElem? hxi)]; exact getElem?_lt hc
      rw [q3, if_neg]
      · exact hv'
      · rintro ⟨p1, p2, _⟩
        rw [hv] at p2
        apply hki
        rcases Nat.lt_trichotomy i k with h' | h' | h'
        · have := Nat.mul_le_mul_right sz (show i + 1 ≤ k from h')
          rw [Nat.add_mul, Nat.one_mul] at this
          omega
        · exact h'.symm
        · have := Nat.mul_le_mul_right sz (show k + 1 ≤ i from h')
          rw [Nat.add_mul, Nat.one_mul] at this
          omega
theorem RowW.elem {w : World} {D : Nat → Prop} {b n cap e sz : Nat} {es : List (List HV)} (h : RowW w D (.slice (some ⟨b, 0, none⟩) n cap) (some b) e sz es) {k : Nat} {x : List HV} (hk : es[k]? = some x) :
    n = es.length ∧ ∃ vs : List Value, vs.length = sz ∧ (∀ v ∈ vs, v.oneCell' = true) ∧ (∀ j v, vs[j]? = some v → w.cell? ⟨b, 0 + k * sz + j, none⟩ = some v) ∧ (∀ j, j < sz → w.frozen? ⟨b, 0 + k * sz + j, none⟩ = false) ∧
      (∀ (j : Nat) (c : HV) (v : Value), x[j]? = some c → vs[j]? = some v → IRep w (fun x => D x ∨ b = x) c v) := by
  obtain ⟨g1, g2, g3, hz, hl, R⟩ := h
  have hkl := getElem?_lt hk
  rcases R with ⟨rfl, _⟩ | ⟨b', cap', C, fr, k1, k2, k3, k4, k5, k6, k7, k8, k9⟩
  · simp at hkl
  obtain rfl : b = b' := by
    have k2 : some b = some b' := k2
    exact Option.some.inj k2
  have k1 : Value.slice (some ⟨b, 0, none⟩) n cap = .slice (some ⟨b, 0, none⟩) es.length cap' := k1
  cases k1
  have hlt : ∀ j, j < sz → k * sz + j < C.size := fun j hj => by
    rw [k7]
    have : (k + 1) * sz ≤ cap * sz := Nat.mul_le_mul_right _ (by omega)
    rw [Nat.add_mul, Nat.one_mul] at this
    omega
  refine ⟨rfl, (List.range sz).map fun j => C.getD (k * sz + j) undef, by simp, fun v hv => ?_, fun j v hj => ?_, fun j hj => ?_, fun j c v hc hv => ?_⟩
  · obtain ⟨j, hj, rfl⟩ := List.mem_map.1 hv
    have hj' := hlt j (List.mem_range.1 hj)
    rw [Array.getD_eq_getD_getElem?, Array.getElem?_eq_getElem hj']
    exact k8 _ _ (Array.getElem?_eq_getElem hj')
  · have hjs : j < sz := by have := getElem?_lt hj; simpa using this
    rw [List.getElem?_map, List.getElem?_range hjs] at hj
    simp only [Option.map_some, Option.some.injEq] at hj
    subst hj
    have hj' := hlt j hjs
    rw [Nat.zero_add]
    simp [World.cell?, k3, hj', Array.getD_eq_getD_getElem?]
  · rw [Nat.zero_add]
    simp only [World.frozen?, k3]
    have := k4 (k * sz + j) (hlt j hj)
    simpa using this
  · have hjs : j < sz := by have := getElem?_lt hv; simpa using this
    rw [List.getElem?_map, List.getElem?_range hjs] at hv
    simp only [Option.map_some, Option.some.injEq] at hv
    subst hv
    obtain ⟨v, hv, hr⟩ := k9 k j x c hk hc
    rw [Array.getD_eq_getD_getElem?, hv]
    have hI2 : isI c = true := (isIL_iff _).1 (List.all_eq_true.1 g2 x (List.mem_of_getElem? hk)) c (List.mem_of_getElem? hc)
    exact (hr.toI hI2).mono (Nat.le_refl _) (fun _ _ _ => rfl) (fun x _ hd => hd.imp id fun e => by rw [e])
theorem SpecX.swap {sf : Nat} (gS : Bool) (hx : ∀ args W, (callFunc sf args).run P W = ((Extern.ReflectliteSwapper.swap gS args).run P W).andThen fun v w' => .ok (.value v) w')
    {e sz b n cap : Nat} {ie : TypeInfo} (hie : P.info? e = some ie) (hs : ie.size = sz) (hagg : ∀ w, (isAgg e).run P w = .ok true w) {es : List (List HV)} {i j : Nat} (hi : i < es.length) (hj : j < es.length) :
    SpecX P sf #[.slice (some ⟨b, 0, none⟩) n cap, typeHandle P e] [i64 i, i64 j] (.slice (some ⟨b, 0, none⟩) n cap) (some b) e sz es (.lit (.tuple #[])) (sw es i j) := by
  intro D w us hD hG hW hus hrep
  have hu0 : us[0]? = some (.int .i64 i) := by
    have h := Array.getElem?_eq_getElem (show 0 < us.size by rw [hus]; simp)
    rw [h, (irep_lit (hrep 0 _ _ rfl h))]
  have hu1 : us[1]? = some (.int .i64 j) := by
    have h := Array.getElem?_eq_getElem (show 1 < us.size by rw [hus]; simp)
    rw [h, (irep_lit (hrep 1 _ _ rfl h))]
  obtain rfl : us = #[.int .i64 i, .int .i64 j] := by
    apply Array.ext_getElem?
    intro k
    match k with
    | 0 => rw [hu0]; rfl
    | 1 => rw [hu1]; rfl
    | k + 2 => rw [Array.getElem?_eq_none (by rw [hus]; simp), Array.getElem?_eq_none (by simp)]
  have ei : es[i]? = some es[i] := List.getElem?_eq_getElem hi
  have ej : es[j]? = some es[j] := List.getElem?_eq_getElem hj
  subst hs
  have hlen := hW.2.2.2.2.1
  have lxi : es[i].length = ie.size := hlen _ (List.getElem_mem hi)
  have lxj : es[j].length = ie.size := hlen _ (List.getElem_mem hj)
  obtain ⟨hn, X, lX, oX, cX, fX, rX⟩ := hW.elem ei
  obtain ⟨_, Y, lY, oY, cY, fY, rY⟩ := hW.elem ej
  have hI : isILL es = true := hW.2.1
  have hIi : isIL es[i] = true := List.all_eq_true.1 hI _ (List.getElem_mem hi)
  have hIj : isIL es[j] = true := List.all_eq_true.1 hI _ (List.getElem_mem hj)
  have hrun := run_swap_cells (P := P) gS e ie hie hagg b 0 n cap i j (by omega) (by omega) X Y lX lY oX oY w (fun k v h => cX k v h) (fun k v h => cY k v h) fX fY
  refine .inr ⟨.tuple #[], (w.setCells b (i * ie.size) Y).setCells b (j * ie.size) X, ?_, ?_, ?_, .lit _⟩
  · rw [hx, show (#[Value.int .i64 (i : Int), Value.int .i64 (j : Int)] ++ #[Value.slice (some ⟨b, 0, none⟩) n cap, typeHandle P e]) = #[.int .i64 i, .int .i64 j, .slice (some ⟨b, 0, none⟩) n cap, typeHandle P e] from rfl, hrun]
    simp only [Nat.zero_add, Result.andThen_ok]
  · have nF : ¬ (fun x => x < w.heap.size ∧ some b ≠ some x) b := fun h => h.2 rfl
    exact Kept.setCells nF X _ (Kept.setCells nF Y _ (Kept.refl _ _))
  · have h1 := hW.setElem hi lxj lY hIj oY rY
    have hm : ∀ {c : HV} {v : Value}, IRep w (fun x => D x ∨ b = x) c v → IRep (w.setCells b (i * ie.size) Y) (fun x => D x ∨ b = x) c v := fun r =>
      r.mono (by rw [size_setCells]; exact Nat.le_refl _) (fun x _ hd => heap_setCells_other b Y _ w x (fun e => hd (.inr e.symm))) (fun _ _ h => h)
    have h2 := h1.setElem (k := j) (by rw [List.length_set]; exact hj) lxi lX hIi oX (fun k c v hc hv => hm (rX k c v hc hv))
    unfold sw
    rw [ei, ej]
    exact h2
end
theorem SpecX.less {G0 : GI} {g e sz bB : Nat} {V : Value} {ob : Option Nat} {es : List (List HV)} {i j : Nat} {r : Bool} (hbody : hasBody P g = true) (hob : ob ≠ some bB) (hV : V.oneCell' = true)
    (h : @Spec1 G0 P g [i64 i, i64 j, .cptr [.sl sz false es]] (bo r)) :
    @SpecX (G0.box bB V) P g #[.pointer (some ⟨bB, 0, none⟩)] [i64 i, i64 j] V ob e sz es (bo r) es := by
  letI : GI := G0.box bB V
  intro D w us hD hG hW hus hrep
  refine .inl ⟨hbody, ?_⟩
  have hbl : bB < w.heap.size := (hG.sub bB (.inr rfl)).1
  have hcell : w.cell? ⟨bB, 0, none⟩ = some V := hG.g.2
  have hW' := hW
  obtain ⟨h1, h2, h3, h4⟩ := hW
  have hcall := h (fun b => D b ∧ b ≠ bB) w (us ++ #[.pointer (some ⟨bB, 0, none⟩)]) (fun b hb => hD b hb.1) hG.g.1 (by simp [hus]) (fun k c v hc hv => ?_)
  · refine hcall.mono ?_
    rintro x w' ⟨v, rfl, hB, hI⟩
    exact ⟨v, rfl, ⟨hB.os, hB.tape, hB.output, hB.size, fun b hb => hB.block b hb.1⟩, hW'.grow hB.size (fun b hb => hB.block b hb), hI.scal rfl⟩
  · have hk : k < 2 ∨ k = 2 := by
      have := getElem?_lt hc
      simp at this; omega
    rcases hk with hk | rfl
    · rw [Array.getElem?_append_left (by rw [hus]; exact hk)] at hv
      have hc' : ([i64 i, i64 j] : List HV)[k]? = some c := by
        match k, hk with
        | 0, _ => simpa using hc
        | 1, _ => simpa using hc
      exact (hrep k c v hc' hv).mono (Nat.le_refl _) (fun _ _ _ => rfl) (fun b _ hb => .inl hb.1)
    · rw [Array.getElem?_append_right (by rw [hus]; simp)] at hv
      have hv' : (#[Value.pointer (some ⟨bB, 0, none⟩)] : Array Value)[0]? = some v := by
        have : 2 - us.size = 0 := by rw [hus]; rfl
        rwa [this] at hv
      simp at hv' hc
      subst hv'; subst hc
      have hcr := ORel.irep h4 h2 (dead' := fun b => D b ∧ b ≠ bB) (fun b hb hd => (h3 b hb).1 hd.1) (fun b hd => .inl hd.1)
      refine .cptr (fun _ => V) (fun hd => hd.2 rfl) hbl (fun k hk => ?_) (fun k hk => hV) (fun k c hc => ?_)
      · obtain rfl : k = 0 := by simpa using hk
        exact hcell
      · obtain rfl : k = 0 := by have := getElem?_lt hc; simpa using this
        simp at hc
        subst hc
        exact hcr
end Go.Hv
set_option linter.unusedVariables false
set_option linter.unusedSectionVars false
set_option linter.unusedSimpArgs false
/- What a sort of the library leans on; the lists that come and go while it works. -/
namespace Go.Hv
open Go Go.RowKit Go.Stab
variable [GI]
@[simp] theorem oneCell_func (f : Fn) (a b : Array Value) : (Value.func f a b).oneCell' = true := rfl
@[simp] theorem isI_fnlit (v : Value) : isI (.lit v) = true := rfl
def mapE {α : Type} (enc : α → List HV) (l : List α) : List (List HV) := l.map enc
structure SortCtx {α : Type} (P : Program) (enc : α → List HV) (key : α → Int) (V : Value) (ob : Option Nat) (e sz : Nat) (g sf : Nat) (lb sb : Array Value) (N : Nat) : Prop where
  less : ∀ (l : List α) (i' j' : Nat) (i j : Int) (x y : α), l.length = N → i = i' → j = j' → l[i']? = some x → l[j']? = some y → SpecX P g lb [i64 i, i64 j] V ob e sz (mapE enc l) (bo (decide (key x < key y))) (mapE enc l)
  swap : ∀ (l : List α) (i' j' : Nat) (i j : Int), l.length = N → i = i' → j = j' → i' < l.length → j' < l.length → i' ≠ j' → SpecX P sf sb [i64 i, i64 j] V ob e sz (mapE enc l) (.lit (.tuple #[])) (mapE enc (sw l i' j'))
  il : ∀ l : List α, isILL (mapE enc l) = true
  hN : N ≤ 1000000
@[simp] def fnv (g : Nat) (lb : Array Value) : HV := .lit (.func (.func g) #[] lb)
end Go.Hv
namespace Go.Stab
variable {α : Type}
def insSt (p S : List α) (x : α) (s : List α) (m : Nat) : List α := p ++ (S.take m ++ x :: S.drop m) ++ s
theorem insSt_length (p S : List α) (x : α) (s : List α) (m : Nat) : (insSt p S x s m).length = p.length + S.length + 1 + s.length := by
  unfold insSt; simp; omega
theorem insSt_x (p S : List α) (x : α) (s : List α) {m : Nat} (hm : m ≤ S.length) : (insSt p S x s m)[p.length + m]? = some x := by
  unfold insSt
  have h1 : (S.take m).length = m := by rw [List.length_take]; omega
  rw [List.append_assoc, get_r, get_l (by rw [List.length_append, h1, List.length_cons]; omega), List.getElem?_append_right (by omega), h1, Nat.sub_self]
  rfl
theorem insSt_y (p S : List α) (x : α) (s : List α) {m : Nat} (hm : m < S.length) : (insSt p S x s (m + 1))[p.length + m]? = some S[m] := by
  unfold insSt
  have h1 : (S.take (m + 1)).length = m + 1 := by rw [List.length_take]; omega
  rw [List.append_assoc, get_r, get_l (by rw [List.length_append, h1]; omega), get_l (by omega), List.getElem?_take_of_lt (by omega), List.getElem?_eq_getElem hm]
theorem insSt_sw (p S : List α) (x : α) (s : List α) {m : Nat} (hm : m < S.length) : sw (insSt p S x s (m + 1)) (p.length + m + 1) (p.length + m) = insSt p S x s m := by
  rw [sw_comm _ _ _ (by omega)]
  have h1 : (S.take m).length = m := by rw [List.length_take]; omega
  have key := sw_at (p ++ S.take m) [] (S.drop (m + 1) ++ s) S[m] x
  rw [List.length_append, h1, List.length_nil, Nat.add_zero] at key
  have e1 : insSt p S x s (m + 1) = p ++ S.take m ++ S[m] :: ([] ++ x :: (S.drop (m + 1) ++ s)) := by
    unfold insSt; rw [List.take_succ_eq_append_getElem hm]; simp only [List.append_assoc, List.cons_append, List.nil_append]
  have e2 : insSt p S x s m = p ++ S.take m ++ x :: ([] ++ S[m] :: (S.drop (m + 1) ++ s)) := by
    unfold insSt; rw [List.drop_eq_getElem_cons hm]; simp only [List.append_assoc, List.cons_append, List.nil_append]
  rw [e1, e2, key]
theorem insSt_swr (p S : List α) (x : α) (s : List α) {m : Nat} (hm : m < S.length) : sw (insSt p S x s m) (p.length + m) (p.length + m + 1) = insSt p S x s (m + 1) := by
  have h1 : (S.take m).length = m := by rw [List.length_take]; omega
  have key := sw_at (p ++ S.take m) [] (S.drop (m + 1) ++ s) x S[m]
  rw [List.length_append, h1, List.length_nil, Nat.add_zero] at key
  have e1 : insSt p S x s (m + 1) = p ++ S.take m ++ S[m] :: ([] ++ x :: (S.drop (m + 1) ++ s)) := by
    unfold insSt; rw [List.take_succ_eq_append_getElem hm]; simp only [List.append_assoc, List.cons_append, List.nil_append]
  have e2 : insSt p S x s m = p ++ S.take m ++ x :: ([] ++ S[m] :: (S.drop (m + 1) ++ s)) := by
    unfold insSt; rw [List.drop_eq_getElem_cons hm]; simp only [List.append_assoc, List.cons_append, List.nil_append]
  rw [e1, e2, key]
theorem insSt_zero (p S : List α) (x : α) (s : List α) : insSt p S x s 0 = p ++ (x :: S) ++ s := by simp [insSt]
theorem insSt_last (p S : List α) (x : α) (s : List α) : insSt p S x s S.length = p ++ (S ++ [x]) ++ s := by simp [insSt]
def isK (key : α → Int) (p U s : List α) (k : Nat) : List α := p ++ srtK key (U.take k) ++ (U.drop k ++ s)
theorem isK_all (key : α → Int) (p U s : List α) {k : Nat} (hk : U.length ≤ k) : isK key p U s k = p ++ srtK key U ++ s := by
  unfold isK; rw [List.take_of_length_le hk, List.drop_of_length_le hk]; rfl
theorem isK_one (key : α → Int) (p U s : List α) : isK key p U s 1 = p ++ U ++ s := by
  unfold isK
  rw [srtK_of_srt]
  · simp only [List.append_assoc]; rw [← List.append_assoc (U.take 1), List.take_append_drop]
  · cases U with
    | nil => exact List.Pairwise.nil
    | cons x U => simp [Srt]
theorem isK_start (key : α → Int) (p U s : List α) {k : Nat} (hk : k < U.length) : isK key p U s k = insSt p (srtK key (U.take k)) U[k] (U.drop (k + 1) ++ s) k := by
  have h1 : (srtK key (U.take k)).length = k := by rw [srtK_length, List.length_take]; omega
  have e1 : (srtK key (U.take k)).take k = srtK key (U.take k) := List.take_of_length_le (by omega)
  have e2 : (srtK key (U.take k)).drop k = [] := List.drop_of_length_le (by omega)
  unfold isK insSt
  rw [e1, e2, List.drop_eq_getElem_cons hk]
  simp only [List.append_assoc, List.cons_append, List.nil_append]
theorem isK_end (key : α → Int) (p U s : List α) {k m : Nat} (hk : k < U.length) (hm : m ≤ k) (h1 : m = 0 ∨ ∃ y, (srtK key (U.take k))[m - 1]? = some y ∧ key y ≤ key U[k]) (h2 : ∀ y ∈ (srtK key (U.take k)).drop m, key U[k] < key y) :
    insSt p (srtK key (U.take k)) U[k] (U.drop (k + 1) ++ s) m = isK key p U s (k + 1) := by
  have hl : (srtK key (U.take k)).length = k := by rw [srtK_length, List.length_take]; omega
  have hs := srtK_srt key (U.take k)
  have key' : srtK key (U.take (k + 1)) = (srtK key (U.take k)).take m ++ U[k] :: (srtK key (U.take k)).drop m := by
    rw [← srtK_stb_eq (srt_snoc hk)]
    have hd : (srtK key (U.take k)).take m ++ (srtK key (U.take k)).drop m = srtK key (U.take k) := List.take_append_drop ..
    have := srtK_ins (key := key) (y := U[k]) (a1 := (srtK key (U.take k)).take m) (a2 := (srtK key (U.take k)).drop m) (by rw [hd]; exact hs) (fun x hx => ?_) h2
    · rw [hd] at this; exact this
    · rcases h1 with rfl | ⟨y, hy, hle⟩
      · simp at hx
      · obtain ⟨i, hi⟩ := List.mem_iff_getElem?.1 hx
        have hil : i < m := by have := List.getElem?_eq_some_iff.1 hi; obtain ⟨h, _⟩ := this; rw [List.length_take] at h; omega
        rw [List.getElem?_take_of_lt hil] at hi
        have := hs.le_of (show i ≤ m - 1 by omega) hi hy
        omega
  unfold insSt isK
  rw [key']
theorem rot_gt {p x y s : List α} (h : y.length < x.length) : swN (p ++ x ++ y ++ s) p.length (p.length + x.length) y.length = (p ++ y) ++ x.drop y.length ++ x.take y.length ++ s := by
  have h1 : (x.take y.length).length = y.length := by rw [List.length_take]; omega
  have := swN_all p (x.drop y.length) s (x.take y.length) y h1
  rw [h1] at this
  have e1 : p.length + y.length + (x.drop y.length).length = p.length + x.length := by rw [List.length_drop]; omega
  rw [e1] at this
  have e2 : p ++ x.take y.length ++ x.drop y.length ++ y ++ s = p ++ x ++ y ++ s := by
    rw [List.append_assoc p, List.take_append_drop]
  rw [e2] at this
  exact this
theorem rot_lt {p x y s : List α} (h : x.length < y.length) : swN (p ++ x ++ y ++ s) p.length (p.length + x.length + (y.length - x.length)) x.length = p ++ y.drop (y.length - x.length) ++ y.take (y.length - x.length) ++ (x ++ s) := by
  have h1 : x.length = (y.drop (y.length - x.length)).length := by rw [List.length_drop]; omega
  have := swN_all p (y.take (y.length - x.length)) s x (y.drop (y.length - x.length)) h1
  have e1 : (y.take (y.length - x.length)).length = y.length - x.length := by rw [List.length_take]; omega
  rw [e1] at this
  have e2 : p ++ x ++ y.take (y.length - x.length) ++ y.drop (y.length - x.length) ++ s = p ++ x ++ y ++ s := by
    rw [List.append_assoc (p ++ x), List.take_append_drop]
  rw [e2] at this
  rw [this]; simp only [List.append_assoc]
theorem rot_eq {p x y s : List α} (h : x.length = y.length) : swN (p ++ x ++ y ++ s) p.length (p.length + x.length) x.length = p ++ y ++ x ++ s := by
  have := swN_all p [] s x y h
  simpa using this
end Go.Stab
namespace Go.Stab
variable {α : Type}
theorem fdiv_half {m : Nat} (z : Int) (h : z = 2 * m ∨ z = 2 * m + 1) : z.fdiv (2 ^ min 1 Go.IntKind.u64.bits) = (m : Int) := by
  show Int.fdiv z 2 = m
  rw [Int.fdiv_eq_ediv_of_nonneg _ (by omega)]; omega
theorem at4_a {p A B s : List α} {i : Nat} (h : i < A.length) : (p ++ A ++ B ++ s)[p.length + i]? = A[i]? := by
  rw [List.append_assoc, List.append_assoc, get_r, get_l h]
theorem at4_b {p A B s : List α} {i : Nat} (h : i < B.length) : (p ++ A ++ B ++ s)[p.length + A.length + i]? = B[i]? := by
  rw [List.append_assoc, ← List.length_append, get_r, get_l h]
theorem put_end {key : α → Int} {p B s : List α} {x : α} {u : Nat} (hB : Srt key B) (h1 : ∀ i y, i < u → B[i]? = some y → key y < key x) (h2 : ∀ i y, u ≤ i → B[i]? = some y → key x ≤ key y) (hu : u ≤ B.length) :
    insSt p B x s u = p ++ srtK key ([x] ++ B) ++ s := by
  have hd : B.take u ++ B.drop u = B := List.take_append_drop ..
  have := srtK_put (key := key) (x := x) (b1 := B.take u) (b2 := B.drop u) (by rw [hd]; exact hB) (fun y hy => by
    obtain ⟨i, hi⟩ := List.mem_iff_getElem?.1 hy
    have hiu : i < u := by obtain ⟨h, _⟩ := List.getElem?_eq_some_iff.1 hi; rw [List.length_take] at h; omega
    rw [List.getElem?_take_of_lt hiu] at hi
    exact h1 i y hiu hi) (fun y hy => by
    obtain ⟨i, hi⟩ := List.mem_iff_getElem?.1 hy
    rw [List.getElem?_drop] at hi
    exact h2 _ y (by omega) hi)
  rw [hd] at this
  unfold insSt
  rw [show [x] ++ B = x :: B from rfl, this]
theorem ins_end {key : α → Int} {p A s : List α} {y : α} {u : Nat} (hA : Srt key A) (h1 : ∀ i x, i < u → A[i]? = some x → key x ≤ key y) (h2 : ∀ i x, u ≤ i → A[i]? = some x → key y < key x) (hu : u ≤ A.length) :
    insSt p A y s u = p ++ srtK key (A ++ [y]) ++ s := by
  have hd : A.take u ++ A.drop u = A := List.take_append_drop ..
  have := srtK_ins (key := key) (y := y) (a1 := A.take u) (a2 := A.drop u) (by rw [hd]; exact hA) (fun x hx => by
    obtain ⟨i, hi⟩ := List.mem_iff_getElem?.1 hx
    have hiu : i < u := by obtain ⟨h, _⟩ := List.getElem?_eq_some_iff.1 hi; rw [List.length_take] at h; omega
    rw [List.getElem?_take_of_lt hiu] at hi
    exact h1 i x hiu hi) (fun x hx => by
    obtain ⟨i, hi⟩ := List.mem_iff_getElem?.1 hx
    rw [List.getElem?_drop] at hi
    exact h2 _ x (by omega) hi)
  rw [hd] at this
  unfold insSt
  rw [this]
theorem cut_end {key : α → Int} {A B : List α} {u v : Nat} (hA : Srt key A) (hB : Srt key B) (hu : u ≤ A.length) (hv : v ≤ B.length)
    (h1 : u = A.length ∨ v = 0 ∨ ∃ x y, A[u]? = some x ∧ B[v - 1]? = some y ∧ key y < key x) (h2 : u = 0 ∨ v = B.length ∨ ∃ x y, A[u - 1]? = some x ∧ B[v]? = some y ∧ key x ≤ key y) :
    srtK key (A ++ B) = srtK key (A.take u ++ B.take v) ++ srtK key (A.drop u ++ B.drop v) := by
  have dA : A.take u ++ A.drop u = A := List.take_append_drop ..
  have dB : B.take v ++ B.drop v = B := List.take_append_drop ..
  have := srtK_sym (key := key) (a1 := A.take u) (a2 := A.drop u) (b1 := B.take v) (b2 := B.drop v) (by rw [dA]; exact hA) (by rw [dB]; exact hB) (fun y hy x hx => ?_) (fun x hx y hy => ?_)
  · rw [dA, dB] at this; exact this
  · obtain ⟨i, hi⟩ := List.mem_iff_getElem?.1 hy
    have hiu : i < v := by obtain ⟨h, _⟩ := List.getElem?_eq_some_iff.1 hi; rw [List.length_take] at h; omega
    rw [List.getElem?_take_of_lt hiu] at hi
    obtain ⟨j, hj⟩ := List.mem_iff_getElem?.1 hx
    rw [List.getElem?_drop] at hj
    rcases h1 with rfl | rfl | ⟨x0, y0, e1, e2, h⟩
    · obtain ⟨h, _⟩ := List.getElem?_eq_some_iff.1 hj; omega
    · omega
    · have a1 := hA.le_of (show u ≤ u + j by omega) e1 hj
      have a2 := hB.le_of (show i ≤ v - 1 by omega) hi e2
      omega
  · obtain ⟨i, hi⟩ := List.mem_iff_getElem?.1 hx
    have hiu : i < u := by obtain ⟨h, _⟩ := List.getElem?_eq_some_iff.1 hi; rw [List.length_take] at h; omega
    rw [List.getElem?_take_of_lt hiu] at hi
    obtain ⟨j, hj⟩ := List.mem_iff_getElem?.1 hy
    rw [List.getElem?_drop] at hj
    rcases h2 with rfl | rfl | ⟨x0, y0, e1, e2, h⟩
    · omega
    · obtain ⟨h, _⟩ := List.getElem?_eq_some_iff.1 hj; omega
    · have a1 := hA.le_of (show i ≤ u - 1 by omega) hi e1
      have a2 := hB.le_of (show v ≤ v + j by omega) e2 hj
      omega
end Go.Stab
namespace Go.Stab
variable {α : Type}
theorem qT {key : α → Int} {A B : List α} (hA : Srt key A) (hB : Srt key B) {x y : α} {u v u' v' : Nat} (hx : A[u]? = some x) (hy : B[v]? = some y) (h : key x ≤ key y) (hu : u' ≤ u) (hv : v ≤ v') (hv' : v' < B.length) :
    ∃ x' y', A[u']? = some x' ∧ B[v']? = some y' ∧ key x' ≤ key y' := by
  have hul := (List.getElem?_eq_some_iff.1 hx).1
  have e1 : A[u']? = some (A[u']'(by omega)) := List.getElem?_eq_getElem (by omega)
  have e2 : B[v']? = some B[v'] := List.getElem?_eq_getElem hv'
  have a1 := hA.le_of hu e1 hx
  have a2 := hB.le_of hv hy e2
  exact ⟨_, _, e1, e2, by omega⟩
theorem qF {key : α → Int} {A B : List α} (hA : Srt key A) (hB : Srt key B) {x y : α} {u v u' v' : Nat} (hx : A[u]? = some x) (hy : B[v]? = some y) (h : key y < key x) (hu : u ≤ u') (hv : v' ≤ v) (hu' : u' < A.length) :
    ∃ x' y', A[u']? = some x' ∧ B[v']? = some y' ∧ key y' < key x' := by
  have hvl := (List.getElem?_eq_some_iff.1 hy).1
  have e1 : A[u']? = some A[u'] := List.getElem?_eq_getElem hu'
  have e2 : B[v']? = some (B[v']'(by omega)) := List.getElem?_eq_getElem (by omega)
  have a1 := hA.le_of hu hx e1
  have a2 := hB.le_of hv e2 hy
  exact ⟨_, _, e1, e2, by omega⟩
theorem srtK_left {key : α → Int} {A B : List α} {u v : Nat} (hA : Srt key A) (hB : Srt key B) (h : u = 0 ∨ v = 0) : srtK key (A.take u ++ B.take v) = A.take u ++ B.take v := by
  refine srtK_of_srt ?_
  rcases h with rfl | rfl
  · simpa using hB.sub (List.take_sublist v B)
  · simpa using hA.sub (List.take_sublist u A)
theorem srtK_right {key : α → Int} {A B : List α} {u v : Nat} (hA : Srt key A) (hB : Srt key B) (h : A.length ≤ u ∨ B.length ≤ v) : srtK key (A.drop u ++ B.drop v) = A.drop u ++ B.drop v := by
  refine srtK_of_srt ?_
  rcases h with h | h
  · rw [List.drop_of_length_le h]; simpa using hB.sub (List.drop_sublist v B)
  · rw [List.drop_of_length_le h]; simpa using hA.sub (List.drop_sublist u A)
end Go.Stab
namespace Go.Stab
variable {α : Type}
def blkAt (c i : Nat) (l : List α) : List α := (l.drop (i * c)).take c
theorem blkAt_other {c i : Nat} {P X X' S : List α} (hl : X'.length = X.length) (h : i * c + c ≤ P.length ∨ P.length + X.length ≤ i * c) : blkAt c i (P ++ X' ++ S) = blkAt c i (P ++ X ++ S) := by
  unfold blkAt
  rcases h with h | h
  · rw [List.append_assoc, List.append_assoc, List.drop_append_of_le_length (by omega), List.drop_append_of_le_length (by omega), List.take_append_of_le_length (by rw [List.length_drop]; omega), List.take_append_of_le_length (by rw [List.length_drop]; omega)]
  · have e1 : (P ++ X' ++ S).drop (i * c) = S.drop (i * c - (P.length + X.length)) := by
      rw [List.drop_append, List.drop_of_length_le (by rw [List.length_append]; omega), List.nil_append, List.length_append, hl]
    have e2 : (P ++ X ++ S).drop (i * c) = S.drop (i * c - (P.length + X.length)) := by
      rw [List.drop_append, List.drop_of_length_le (by rw [List.length_append]; omega), List.nil_append, List.length_append]
    rw [e1, e2]
theorem blkAt_here {c i : Nat} {P X S : List α} (hp : P.length = i * c) (h : X.length = c ∨ (X.length ≤ c ∧ S = [])) : blkAt c i (P ++ X ++ S) = X := by
  unfold blkAt
  rw [List.append_assoc, ← hp, List.drop_left]
  rcases h with h | ⟨h, rfl⟩
  · rw [List.take_append_of_le_length (by omega), List.take_of_length_le (by omega)]
  · rw [List.append_nil, List.take_of_length_le h]
theorem blkAt_far {c i : Nat} {l : List α} (h : l.length ≤ i * c) : blkAt c i l = [] := by unfold blkAt; simp [List.drop_of_length_le h]
theorem cut3 (l : List α) (a c : Nat) : l.take a ++ (l.drop a).take c ++ l.drop (a + c) = l := by
  rw [List.append_assoc, ← List.drop_drop, List.take_append_drop, List.take_append_drop]
theorem cut4 (l : List α) (a c d : Nat) : l.take a ++ (l.drop a).take c ++ (l.drop (a + c)).take d ++ l.drop (a + c + d) = l := by
  have e1 := cut3 l (a + c) d
  have e2 : l.take (a + c) = l.take a ++ (l.drop a).take c := by
    rw [List.take_add]
  rw [← e2]; exact e1
theorem stb_mid {key : α → Int} {P X X' S : List α} (h : Stb key X' X) : Stb key (P ++ X' ++ S) (P ++ X ++ S) := ((Stb.refl key P).append h).append (Stb.refl key S)
theorem srt_nil (key : α → Int) : Srt key ([] : List α) := List.Pairwise.nil
theorem ins_step {key : α → Int} {c j : Nat} {l : List α} (hc : 0 < c) (h : ∀ i, i < j → Srt key (blkAt c i l)) (hj : j * c ≤ l.length) :
    (∀ i, i < j + 1 → Srt key (blkAt c i (l.take (j * c) ++ srtK key ((l.drop (j * c)).take c) ++ l.drop (j * c + c)))) ∧ Stb key (l.take (j * c) ++ srtK key ((l.drop (j * c)).take c) ++ l.drop (j * c + c)) l := by
  have hl := cut3 l (j * c) c
  have hP : (l.take (j * c)).length = j * c := by rw [List.length_take]; omega
  have hX := srtK_length key ((l.drop (j * c)).take c)
  refine ⟨fun i hi => ?_, ?_⟩
  · by_cases e : i = j
    · subst e
      rw [blkAt_here hP]
      · exact srtK_srt ..
      · rw [hX, List.length_take, List.length_drop]
        by_cases hc2 : c ≤ l.length - i * c
        · left; omega
        · right; exact ⟨by omega, List.drop_of_length_le (by omega)⟩
    · rw [blkAt_other hX, hl]
      · exact h i (by omega)
      · left; rw [hP]
        have := Nat.mul_le_mul_right c (show i + 1 ≤ j by omega)
        rw [Nat.add_mul, Nat.one_mul] at this; exact this
  · have := stb_mid (P := l.take (j * c)) (S := l.drop (j * c + c)) (srtK_stb key ((l.drop (j * c)).take c))
    rw [hl] at this; exact this
theorem mrg_step {key : α → Int} {c j : Nat} {l : List α} (hc : 0 < c) (h1 : ∀ i, i < j → Srt key (blkAt (2 * c) i l)) (h2 : ∀ i, 2 * j ≤ i → Srt key (blkAt c i l)) (hj : j * (2 * c) ≤ l.length) :
    let A := (l.drop (j * (2 * c))).take c; let B := (l.drop (j * (2 * c) + c)).take c
    let l' := l.take (j * (2 * c)) ++ srtK key (A ++ B) ++ l.drop (j * (2 * c) + c + c)
    Srt key A ∧ Srt key B ∧ (∀ i, i < j + 1 → Srt key (blkAt (2 * c) i l')) ∧ (∀ i, 2 * (j + 1) ≤ i → Srt key (blkAt c i l')) ∧ Stb key l' l := by
  intro A B l'
  have hl : l.take (j * (2 * c)) ++ (A ++ B) ++ l.drop (j * (2 * c) + c + c) = l := by
    have := cut4 l (j * (2 * c)) c c
    rw [← List.append_assoc]; exact this
  have hP : (l.take (j * (2 * c))).length = j * (2 * c) := by rw [List.length_take]; omega
  have hX : (srtK key (A ++ B)).length = (A ++ B).length := srtK_length key _
  have hA : A.length = min c (l.length - j * (2 * c)) := by simp [A]
  have hB : B.length = min c (l.length - (j * (2 * c) + c)) := by simp [B]
  have hAB : (A ++ B).length = A.length + B.length := List.length_append
  have e0 : 2 * j * c = j * (2 * c) := by rw [Nat.mul_comm 2 j, Nat.mul_assoc]
  refine ⟨?_, ?_, fun i hi => ?_, fun i hi => ?_, ?_⟩
  · have := h2 (2 * j) (Nat.le_refl _)
    unfold blkAt at this; rw [e0] at this; exact this
  · have := h2 (2 * j + 1) (by omega)
    unfold blkAt at this; rw [Nat.add_mul, Nat.one_mul, e0] at this; exact this
  · by_cases e : i = j
    · subst e
      rw [blkAt_here hP]
      · exact srtK_srt ..
      · by_cases hc2 : 2 * c ≤ l.length - i * (2 * c)
        · left; omega
        · right; exact ⟨by omega, List.drop_of_length_le (by omega)⟩
    · rw [blkAt_other hX, hl]
      · exact h1 i (by omega)
      · left; rw [hP]
        have := Nat.mul_le_mul_right (2 * c) (show i + 1 ≤ j by omega)
        rw [Nat.add_mul, Nat.one_mul] at this; exact this
  · by_cases hc2 : 2 * c ≤ l.length - j * (2 * c)
    · rw [blkAt_other hX, hl]
      · exact h2 i (by omega)
      · right; rw [hP, hAB]
        have := Nat.mul_le_mul_right c hi
        rw [Nat.mul_comm 2 (j + 1), Nat.mul_assoc, Nat.add_mul, Nat.one_mul] at this
        omega
    · rw [blkAt_far]
      · exact srt_nil key
      · have hll : l'.length = l.length := by
          have := congrArg List.length hl
          simp only [List.length_append] at this
          show (l.take (j * (2 * c)) ++ srtK key (A ++ B) ++ l.drop (j * (2 * c) + c + c)).length = l.length
          rw [List.length_append, List.length_append, hX, List.length_append]; omega
        have := Nat.mul_le_mul_right c hi
        rw [Nat.mul_comm 2 (j + 1), Nat.mul_assoc, Nat.add_mul, Nat.one_mul] at this
        omega
  · have := stb_mid (P := l.take (j * (2 * c))) (S := l.drop (j * (2 * c) + c + c)) (srtK_stb key (A ++ B))
    rw [hl] at this; exact this
theorem all_blk {key : α → Int} {c j : Nat} {l : List α} (h : ∀ i, i < j + 1 → Srt key (blkAt c i l)) (hl : l.length ≤ (j + 1) * c) : ∀ i, Srt key (blkAt c i l) := fun i => by
  by_cases e : i < j + 1
  · exact h i e
  · rw [blkAt_far (Nat.le_trans hl (Nat.mul_le_mul_right c (by omega)))]; exact srt_nil key
theorem all_blk2 {key : α → Int} {c j : Nat} {l : List α} (h1 : ∀ i, i < j → Srt key (blkAt (2 * c) i l)) (h2 : ∀ i, 2 * j ≤ i → Srt key (blkAt c i l)) (hl : l.length ≤ j * (2 * c) + c) : ∀ i, Srt key (blkAt (2 * c) i l) := by
  refine all_blk (j := j) (fun i hi => ?_) (by rw [Nat.add_mul, Nat.one_mul]; omega)
  by_cases e : i < j
  · exact h1 i e
  · obtain rfl : i = j := by omega
    have := h2 (2 * i) (Nat.le_refl _)
    unfold blkAt at this ⊢
    rw [show 2 * i * c = i * (2 * c) by rw [Nat.mul_comm 2 i, Nat.mul_assoc]] at this
    rw [List.take_of_length_le (by rw [List.length_drop]; omega)] at this ⊢
    exact this
theorem blk_done {key : α → Int} {c : Nat} {l l' : List α} (h : ∀ i, Srt key (blkAt c i l')) (hs : Stb key l' l) (hl : l'.length ≤ c) : srtK key l = l' := by
  refine srtK_eq ?_ hs
  have := h 0
  unfold blkAt at this
  rw [Nat.zero_mul, List.drop_zero, List.take_of_length_le hl] at this
  exact this
theorem stb_len {a b c d : List α} (h : a.length = b.length) : (c ++ a ++ d).length = (c ++ b ++ d).length := by simp [h]
end Go.Stab
namespace Go.Stab
theorem sw_map {α β : Type} (f : α → β) (l : List α) (i j : Nat) : (sw l i j).map f = sw (l.map f) i j := by
  unfold sw
  rw [List.getElem?_map, List.getElem?_map]
  cases l[i]? <;> cases l[j]? <;> simp [List.map_set]
end Go.Stab
set_option linter.unusedVariables false
set_option linter.unusedSectionVars false
set_option linter.unusedSimpArgs false
/- What the library asks of a slice in an interface value, over a pinned row. -/
namespace Go.Hv
open Go Go.RowKit Go.Stab Go.Lib
variable [GI]
variable {P : Program}
theorem us_one {w : World} {dead : Nat → Prop} {us : Array Value} {v : Value} (hus : us.size = 1) (h : ∀ (j : Nat) (c : HV) (u : Value), [HV.lit v][j]? = some c → us[j]? = some u → IRep w dead c u) : us = #[v] := by
  have h0 := Array.getElem?_eq_getElem (show 0 < us.size by omega)
  apply Array.ext_getElem?
  intro k
  match k with
  | 0 => rw [h0, irep_lit (h 0 _ _ rfl h0)]; rfl
  | k + 1 => rw [Array.getElem?_eq_none (by omega), Array.getElem?_eq_none (by simp)]
theorem SpecX.valueOf {f t e : Nat} {i : TypeInfo} (hx : ∀ args W, (callFunc f args).run P W = ((Extern.ReflectliteValue.unpack (args.getD 0 (.tuple #[]))).run P W).andThen fun v w' => .ok (.value v) w')
    (hi : P.info? t = some i) (hd : i.desc = .slice e) {p : Option Addr} {n c sz : Nat} {ob : Option Nat} {es : List (List HV)} :
    SpecX P f #[] [.lit (.iface t (.slice p n c))] (.slice p n c) ob e sz es (.agg [.lit (typeHandle P t), .cptr [.lit (.slice p n c)], .lit (.int .u64 151)]) es := by
  intro D w us hD hG hW hus hrep
  obtain rfl := us_one hus hrep
  have hrun := run_valueOf_slice (P := P) t e i hi hd p n c w
  have hk : Kept (fun b => b < w.heap.size ∧ ob ≠ some b) w (w.alloc (.cells #[.slice p n c] t)) := (Kept.refl _ _).alloc (fun b h => h.1) _
  refine .inr ⟨.agg #[typeHandle P t, .pointer (some ⟨w.heap.size, 0, none⟩), .int .u64 151], w.alloc (.cells #[.slice p n c] t), ?_, hk, hW.grow (by simp) (fun b hb => Below.heap_alloc w _ b hb), ?_⟩
  · rw [hx]
    have : (#[Value.iface t (.slice p n c)] ++ #[] : Array Value).getD 0 (.tuple #[]) = .iface t (.slice p n c) := rfl
    rw [this, hrun]
    rfl
  · refine .agg rfl fun j h v hj hv => ?_
    match j with
    | 0 => simp at hj hv; subst hj; subst hv; exact .lit _
    | 1 =>
      simp at hj hv; subst hj; subst hv
      refine .cptr (fun _ => .slice p n c) (fun hd => ?_) (by simp) (fun j hj => ?_) (fun _ _ => rfl) (fun j c' hc => ?_)
      · rcases hd with hd | hd
        · have := hD _ hd; omega
        · have := (hW.2.2.1 _ hd).2; omega
      · obtain rfl : j = 0 := by simpa using hj
        exact World.cell?_alloc_at _ _ _ _ rfl
      · obtain rfl : j = 0 := by have := getElem?_lt hc; simpa using this
        simp at hc; subst hc; exact .lit _
    | 2 => simp at hj hv; subst hj; subst hv; exact .lit _
    | j + 3 => simp at hj
theorem SpecX.swapper {f t e : Nat} {i ie : TypeInfo} (hx : ∀ args W, (callFunc f args).run P W = ((Extern.ReflectliteSwapper.swapper "internal/reflectlite" (Extern.ReflectliteValue.valueError "Swapper") args).run P W).andThen fun v w' => .ok (.value v) w')
    (hi : P.info? t = some i) (hd : i.desc = .slice e) (hie : P.info? e = some ie) {ke : Nat} (hke : ∀ w, (Extern.Rtype.kind e).run P w = .ok ke w) {p : Option Addr} {n c sz : Nat} {ob : Option Nat} {es : List (List HV)}
    {sf : Nat} (hf : P.funcs.findIdx? (·.name == "internal/reflectlite" ++ ".Swapper$" ++ toString (swapperK n ie ke)) = some sf) :
    SpecX P f #[] [.lit (.iface t (.slice p n c))] (.slice p n c) ob e sz es (.lit (.func (.func sf) #[] (if swapperK n ie ke ≤ 2 then #[] else #[.slice p n c, typeHandle P e]))) es := by
  intro D w us hD hG hW hus hrep
  obtain rfl := us_one hus hrep
  have hrun := run_swapper_slice (P := P) t e i ie hi hd hie ke hke p n c sf hf w
  refine .inr ⟨.func (.func sf) #[] (if swapperK n ie ke ≤ 2 then #[] else #[.slice p n c, typeHandle P e]), w, ?_, Kept.refl _ _, hW, .lit _⟩
  rw [hx, Array.append_empty, hrun]
  rfl
theorem SpecX.rlen {f t e : Nat} {i : TypeInfo} (hx : ∀ args W, (callFunc f args).run P W = ((Extern.ReflectliteValue.method (Extern.ReflectliteValue.valueError "reflectlite.Value.Len" 0) Extern.ReflectliteValue.len args).run P W).andThen fun v w' => .ok (.value v) w')
    (hi : P.info? t = some i) (hd : i.desc = .slice e) (hpk : P.packed t = false) {p : Option Addr} {n c sz : Nat} {ob : Option Nat} {es : List (List HV)} :
    SpecX P f #[] [.agg [.lit (typeHandle P t), .cptr [.lit (.slice p n c)], .lit (.int .u64 151)]] (.slice p n c) ob e sz es (i64 n) es := by
  intro D w us hD hG hW hus hrep
  have h0 := Array.getElem?_eq_getElem (show 0 < us.size by rw [hus]; simp)
  have r := hrep 0 _ _ rfl h0
  obtain ⟨vs, hv, hl, hh⟩ := agg_irep r
  have g0 := Array.getElem?_eq_getElem (show 0 < vs.size by rw [hl]; simp)
  have g1 := Array.getElem?_eq_getElem (show 1 < vs.size by rw [hl]; simp)
  have g2 := Array.getElem?_eq_getElem (show 2 < vs.size by rw [hl]; simp)
  have r0 := irep_lit (hh 0 _ _ rfl g0)
  have r1 := hh 1 _ _ rfl g1
  have r2 := irep_lit (hh 2 _ _ rfl g2)
  have ex : ∃ a : Addr, vs[1]'(by rw [hl]; simp) = .pointer (some a) ∧ w.cell? a = some (.slice p n c) := by
    generalize vs[1]'(by rw [hl]; simp) = u at r1
    cases r1 with
    | @cptr _ b off g hb hbl hc h1 hh =>
      have k0 := hc 0 (by simp)
      have k1 := irep_lit (hh 0 _ rfl)
      rw [Nat.add_zero] at k0
      exact ⟨_, rfl, by rw [k0, k1]⟩
  obtain ⟨a, ha, hcell⟩ := ex
  obtain rfl : vs = #[typeHandle P t, .pointer (some a), .int .u64 151] := by
    apply Array.ext_getElem?
    intro k
    match k with
    | 0 => rw [g0, r0]; rfl
    | 1 => rw [g1, ha]; rfl
    | 2 => rw [g2, r2]; rfl
    | k + 3 => rw [Array.getElem?_eq_none (by rw [hl]; simp), Array.getElem?_eq_none (by simp)]
  obtain rfl : us = #[.agg #[typeHandle P t, .pointer (some a), .int .u64 151]] := by
    apply Array.ext_getElem?
    intro k
    match k with
    | 0 => rw [h0, hv]; rfl
    | k + 1 => rw [Array.getElem?_eq_none (by rw [hus]; simp), Array.getElem?_eq_none (by simp)]
  have hrun := run_valueLen_slice (P := P) t e i hi hd hpk a p n c w hcell
  refine .inr ⟨.int .i64 n, w, ?_, Kept.refl _ _, hW, .lit _⟩
  rw [hx, Array.append_empty, hrun]
  rfl
theorem RowW.shape {w : World} {D : Nat → Prop} {V : Value} {ob : Option Nat} {e sz : Nat} {es : List (List HV)} (h : RowW w D V ob e sz es) :
    (es = [] ∧ ∃ A, V = .slice A 0 0) ∨ ∃ b cap, V = .slice (some ⟨b, 0, none⟩) es.length cap ∧ ob = some b := by
  obtain ⟨_, _, _, _, _, R⟩ := h
  rcases R with ⟨h1, h2, _⟩ | ⟨b, cap, C, fr, h1, h2, _⟩
  · exact .inl ⟨h1, h2⟩
  · exact .inr ⟨b, cap, h1, h2⟩
end Go.Hv
set_option linter.unusedVariables false
set_option linter.unusedSectionVars false
set_option linter.unusedSimpArgs false
/- A scope without a jump, and a label. -/
namespace Go.Hv
open Go Go.RowKit
variable [GI]
variable {P : Program} {σ : HS}
def Exit.scopeH (Q : Exit → HS → Prop) : Exit → HS → Prop
  | .goto _, _ => False
  | e, σ => Q e σ
@[simp] theorem scopeH_normal (Q : Exit → HS → Prop) (σ : HS) : Exit.scopeH Q .normal σ = Q .normal σ := rfl
@[simp] theorem scopeH_ret (Q : Exit → HS → Prop) (σ : HS) : Exit.scopeH Q .ret σ = Q .ret σ := rfl
@[simp] theorem scopeH_exit (Q : Exit → HS → Prop) (i : Nat) (σ : HS) : Exit.scopeH Q (.exit i) σ = Q (.exit i) σ := rfl
theorem HT.scope {c : Code} {Q : Exit → HS → Prop} (h : HT P c σ (Exit.scopeH Q)) : HT P (.scope c) σ Q := by
  intro D F a w γ bl S
  refine wp_scope_straight (Code.wp_mono ?_ (h D F a w γ bl S))
  rintro e a' w' ⟨σ', q, r⟩
  cases e <;> first | exact ⟨σ', q, r⟩ | exact q.elim
theorem HT.label {l : Nat} {Q : Exit → HS → Prop} (h : Q .normal σ) : HT P (.label l) σ Q := by
  intro D F a w γ bl S
  exact wp_label ⟨σ, h, Kept.refl _ _, γ, bl, S⟩
end Go.Hv
