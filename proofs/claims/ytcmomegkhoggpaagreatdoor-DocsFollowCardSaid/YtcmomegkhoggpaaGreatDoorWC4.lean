import Derived.Test.YtcmomegkhoggpaaGreatDoorWC3
set_option linter.unusedVariables false
set_option linter.unusedSimpArgs false
/- Right histories (layer 26). -/
namespace Go.Hv
open Go Go.Hv Go.Proofs Go.RowKit
open Go.Proofs.YtcmomegkhoggpaaGreatDoor
theorem lastId_pos {bf : List Commit} (h : 0 < bf.length) : (bf[bf.length - 1]'(by omega)).id = lastId bf := by
 unfold lastId
 rw [List.getLast?_eq_getElem?, List.getElem?_eq_getElem (by omega)]
theorem lastId_nil {bf : List Commit} (h : ¬ 0 < bf.length) : lastId bf = 0 := by
 obtain rfl : bf = [] := List.eq_nil_of_length_eq_zero (by omega)
 rfl
theorem lateV_none {bf : List Commit} {t p : Int} (h : idxC bf p = none) : lateV bf t p = false := by unfold lateV; rw [h]
theorem lateV_some {bf : List Commit} {t p : Int} {j : Nat} (h : idxC bf p = some j) : lateV bf t p = decide (t < (bf[j]'(idxC_lt h)).time) := by
 unfold lateV; rw [h]; simp only [List.getElem?_eq_getElem (idxC_lt h), Option.getD_some]
theorem numbers_bad {bf : List Commit} {c : Commit} (h : c.id ≤ lastId bf ∨ c.id > 9999 ∨ c.time < 0 ∨ c.time > 1000000 ∨ c.author < 0 ∨ c.author > 9999) : numbersV bf c = false := by
 unfold numbersV; rw [decide_eq_true h]; rfl
theorem numbers_rest {bf : List Commit} {c : Commit} (h : ¬ (c.id ≤ lastId bf ∨ c.id > 9999 ∨ c.time < 0 ∨ c.time > 1000000 ∨ c.author < 0 ∨ c.author > 9999)) : numbersV bf c = c.parents.all fun p => !lateV bf c.time p := by
 unfold numbersV; rw [decide_eq_false h]; rfl
theorem all_upto {α : Type} {q : α → Bool} {l : List α} (h : UpTo q l l.length) : l.all q = true := by
 rw [List.all_eq_true]
 intro x hx
 obtain ⟨i, hi⟩ := List.mem_iff_getElem?.1 hx
 exact h i x (getElem?_lt hi) hi
theorem all_fail {α : Type} {q : α → Bool} {l : List α} {k : Nat} (hk : k < l.length) (h : q l[k] = false) : l.all q = false := by
 rw [List.all_eq_false]
 exact ⟨_, List.getElem_mem hk, by simp [h]⟩
set_option maxRecDepth 20000 in
set_option maxHeartbeats 2000000 in
theorem numbers_spec (bf : List Commit) (c : Commit) (rows : List (List HV)) (hrows : rows = cmsHV bf) (hn : bf.length ≤ 140737488355328) (hp : c.parents.length ≤ 140737488355328) : Spec1 Tryz.prog 86 [.sl 5 false rows, .agg c.enc] (bo (numbersV bf c)) := by
 subst hrows
 refine Spec1.of_HT Tryz.func86 rfl (by rw [Tryz.ntmps86]; simp) rfl ?_
 rw [Tryz.ntmps86]
 refine HT.seq ?_;refine HT.region ?_;simp (disch := first|omega|(simp<;>omega)|fail) [wr3]
 refine HT.seq ?_;refine HT.region ?_;simp (disch := first|omega|(simp<;>omega)|fail) [wr3]
 refine HT.joinK [.s 5 (i64 (lastId bf)), .o 3 (.box [i64 c.id, .sl 1 false (intsHV c.parents), .sl 2 false (filesHV c.changes), i64 c.time, i64 c.author])] [0, 3, 24, 25, 26, 29, 30, 31, 34, 35, 36, 39, 40, 41, 44, 45, 46, 67, 68, 69, 70, 71] [] ?_ ?_
 ·refine HT.seq ?_;refine HT.region ?_;simp (disch := first|omega|(simp<;>omega)|fail) [wr3]
  refine HT.cond' ?_;simp (disch := first|omega|(simp<;>omega)|fail) [wr3]
  refine ⟨fun h11 => ?_, fun h11 => ?_⟩
  ·have h0 : 0 < bf.length := by omega
   have hlast := lastId_pos h0
   refine HT.region ?_;simp (disch := first|omega|(simp<;>omega)|fail) [wr3, hlast]
   all_goals (first | (simp (disch := first|omega|(simp<;>omega)|fail) [wr3, hlast]; done) | simp (disch := first|omega|(simp<;>omega)|fail) [wr3])
  ·have hlast := lastId_nil (bf := bf) (by first | omega | (have e : bf.length = 0 := (by simpa using h11); omega))
   refine HT.skip ?_;simp (disch := first|omega|(simp<;>omega)|fail) [wr3]
   all_goals (first | (simp (disch := first|omega|(simp<;>omega)|fail) [wr3, hlast]; done) | simp (disch := first|omega|(simp<;>omega)|fail) [wr3])
 ·simp (disch := first|omega|(simp<;>omega)|fail) [wr3]
  refine HT.seq ?_;refine HT.seq ?_
  by_cases n1 : c.id ≤ lastId bf
  ·refine HT.region ?_;simp (disch := first|omega|(simp<;>omega)|fail) [wr3, n1]
   refine HT.cond' ?_;simp (disch := first|omega|(simp<;>omega)|fail) [wr3]
   refine HT.seq ?_;refine HT.region ?_;simp (disch := first|omega|(simp<;>omega)|fail) [wr3]
   refine HT.ret ?_
   have hx := numbers_bad (bf := bf) (c := c) (by omega)
   simp (disch := first|omega|(simp<;>omega)|fail) [wr3, hx]
  by_cases n2 : 9999 < c.id
  ·refine HT.region ?_;simp (disch := first|omega|(simp<;>omega)|fail) [wr3, n1, n2]
   refine HT.cond' ?_;simp (disch := first|omega|(simp<;>omega)|fail) [wr3]
   refine HT.seq ?_;refine HT.region ?_;simp (disch := first|omega|(simp<;>omega)|fail) [wr3]
   refine HT.ret ?_
   have hx := numbers_bad (bf := bf) (c := c) (by omega)
   simp (disch := first|omega|(simp<;>omega)|fail) [wr3, hx]
  by_cases n3 : c.time < 0
  ·refine HT.region ?_;simp (disch := first|omega|(simp<;>omega)|fail) [wr3, n1, n2, n3]
   refine HT.cond' ?_;simp (disch := first|omega|(simp<;>omega)|fail) [wr3]
   refine HT.seq ?_;refine HT.region ?_;simp (disch := first|omega|(simp<;>omega)|fail) [wr3]
   refine HT.ret ?_
   have hx := numbers_bad (bf := bf) (c := c) (by omega)
   simp (disch := first|omega|(simp<;>omega)|fail) [wr3, hx]
  by_cases n4 : 1000000 < c.time
  ·refine HT.region ?_;simp (disch := first|omega|(simp<;>omega)|fail) [wr3, n1, n2, n3, n4]
   refine HT.cond' ?_;simp (disch := first|omega|(simp<;>omega)|fail) [wr3]
   refine HT.seq ?_;refine HT.region ?_;simp (disch := first|omega|(simp<;>omega)|fail) [wr3]
   refine HT.ret ?_
   have hx := numbers_bad (bf := bf) (c := c) (by omega)
   simp (disch := first|omega|(simp<;>omega)|fail) [wr3, hx]
  by_cases n5 : c.author < 0
  ·refine HT.region ?_;simp (disch := first|omega|(simp<;>omega)|fail) [wr3, n1, n2, n3, n4, n5]
   refine HT.cond' ?_;simp (disch := first|omega|(simp<;>omega)|fail) [wr3]
   refine HT.seq ?_;refine HT.region ?_;simp (disch := first|omega|(simp<;>omega)|fail) [wr3]
   refine HT.ret ?_
   have hx := numbers_bad (bf := bf) (c := c) (by omega)
   simp (disch := first|omega|(simp<;>omega)|fail) [wr3, hx]
  by_cases n6 : 9999 < c.author
  ·refine HT.region ?_;simp (disch := first|omega|(simp<;>omega)|fail) [wr3, n1, n2, n3, n4, n5, n6]
   refine HT.cond' ?_;simp (disch := first|omega|(simp<;>omega)|fail) [wr3]
   refine HT.seq ?_;refine HT.region ?_;simp (disch := first|omega|(simp<;>omega)|fail) [wr3]
   refine HT.ret ?_
   have hx := numbers_bad (bf := bf) (c := c) (by omega)
   simp (disch := first|omega|(simp<;>omega)|fail) [wr3, hx]
  have hnr := numbers_rest (bf := bf) (c := c) (by omega)
  refine HT.region ?_;simp (disch := first|omega|(simp<;>omega)|fail) [wr3, n1, n2, n3, n4, n5, n6]
  refine HT.cond' ?_;simp (disch := first|omega|(simp<;>omega)|fail) [wr3]
  refine HT.skip ?_;simp (disch := first|omega|(simp<;>omega)|fail) [wr3]
  refine HT.seq ?_;refine HT.seq ?_;refine HT.region ?_;simp (disch := first|omega|(simp<;>omega)|fail) [wr3]
  refine HT.block ?_;refine HT.loopK (fun k : {k : Nat // k ≤ c.parents.length ∧ UpTo (fun p => !lateV bf c.time p) c.parents k} => [.s 6 (i64 k)]) [0, 3] [3] (fun k => c.parents.length - k) (⟨0, by omega, UpTo.zero _ _⟩) ?_ ?_
  ·simp (disch := first|omega|(simp<;>omega)|fail) [wr3]
  rintro ⟨k, hk, hg⟩
  simp (disch := first|omega|(simp<;>omega)|fail) [wr3]
  refine HT.seq ?_;refine HT.seq ?_;refine HT.region ?_;simp (disch := first|omega|(simp<;>omega)|fail) [wr3]
  refine HT.cond' ?_;simp (disch := first|omega|(simp<;>omega)|fail) [wr3]
  refine ⟨fun h52 => ?_, fun h52 => ?_⟩
  ·have hk' : k < c.parents.length := by omega
   refine HT.skip ?_;simp (disch := first|omega|(simp<;>omega)|fail) [wr3]
   refine HT.seq ?_;refine HT.block ?_;refine HT.seq ?_
   by_cases q : idxC bf c.parents[k] = none
   ·have hgv := getHV_none q
    have his : (idxC bf c.parents[k]).isSome = false := by rw [q]; rfl
    have hls := lateV_none (t := c.time) q
    refine HT.region ?_;simp (disch := first|omega|(simp<;>omega)|fail) [wr3, hgv, his]
    refine stepK.mk (.callTf _ _ _ _ _ rfl Ty.hb47 rfl rfl (refGetC_spec bf c.parents[k] hn) rfl) ?_
    simp (disch := first|omega|(simp<;>omega)|fail) [wr3, hgv, his]
    refine HT.seq ?_;refine HT.region ?_;simp (disch := first|omega|(simp<;>omega)|fail) [wr3]
    refine HT.cond' ?_;simp (disch := first|omega|(simp<;>omega)|fail) [wr3]
    have hl8 : (!lateV bf c.time c.parents[k]) = true := by first | (rw [hls, decide_eq_false (by omega)]; rfl) | (rw [hls]; rfl)
    refine HT.skip ?_;simp (disch := first|omega|(simp<;>omega)|fail) [wr3]
    refine HT.region ?_;simp (disch := first|omega|(simp<;>omega)|fail) [wr3]
    refine Round.mk' (⟨k + 1, by omega, hg.succ hk' hl8⟩) (by dsimp only; omega) rfl ?_
    simp (disch := first|omega|(simp<;>omega)|fail) [wr3]
   obtain ⟨j, hj⟩ := Option.ne_none_iff_exists'.1 q
   have hgv := getHV_some hj
   have his : (idxC bf c.parents[k]).isSome = true := by rw [hj]; rfl
   have hls := lateV_some (t := c.time) hj
   refine HT.region ?_;simp (disch := first|omega|(simp<;>omega)|fail) [wr3, hgv, his]
   refine stepK.mk (.callTf _ _ _ _ _ rfl Ty.hb47 rfl rfl (refGetC_spec bf c.parents[k] hn) rfl) ?_
   simp (disch := first|omega|(simp<;>omega)|fail) [wr3, hgv, his]
   refine HT.seq ?_;refine HT.region ?_;simp (disch := first|omega|(simp<;>omega)|fail) [wr3]
   refine HT.cond' ?_;simp (disch := first|omega|(simp<;>omega)|fail) [wr3]
   refine ⟨fun h72 => ?_, fun h72 => ?_⟩
   ·have hl9 : (!lateV bf c.time c.parents[k]) = false := by rw [hls, decide_eq_true h72]; rfl
    refine HT.seq ?_;refine HT.region ?_;simp (disch := first|omega|(simp<;>omega)|fail) [wr3]
    refine HT.ret ?_;simp (disch := first|omega|(simp<;>omega)|fail) [wr3, hnr, all_fail (q := fun p => !lateV bf c.time p) hk' hl9]
   ·have hl8 : (!lateV bf c.time c.parents[k]) = true := by first | (rw [hls, decide_eq_false (by omega)]; rfl) | (rw [hls]; rfl)
    refine HT.skip ?_;simp (disch := first|omega|(simp<;>omega)|fail) [wr3]
    refine HT.region ?_;simp (disch := first|omega|(simp<;>omega)|fail) [wr3]
    refine Round.mk' (⟨k + 1, by omega, hg.succ hk' hl8⟩) (by dsimp only; omega) rfl ?_
    simp (disch := first|omega|(simp<;>omega)|fail) [wr3]
  ·obtain rfl : k = c.parents.length := by omega
   have hx := all_upto hg
   refine HT.exit ?_
   simp (disch := first|omega|(simp<;>omega)|fail) [wr3]
   refine HT.seq ?_;refine HT.region ?_;simp (disch := first|omega|(simp<;>omega)|fail) [wr3]
   refine HT.ret ?_;simp (disch := first|omega|(simp<;>omega)|fail) [wr3, hnr, hx]
theorem twice_no {l : List Int} (h : ¬ l.length = 2) : twiceV l = false := by
 match l, h with
 | [], _ => rfl
 | [a], _ => rfl
 | [a, b], h => exact absurd rfl h
 | a :: b :: c :: r, _ => rfl
theorem twice_at {l : List Int} (h : l.length = 2) : twiceV l = decide (l[0] = l[1]) := by
 match l, h with
 | [a, b], _ => rfl
theorem check2 {bf : List Commit} {c : Commit} (h : numbersV bf c = false) : checkC bf c = 2 := by unfold checkC; rw [if_pos h]
theorem check4 {bf : List Commit} {c : Commit} (h : numbersV bf c = true) (h2 : c.parents.length > 2 ∨ c.changes.length > 16) : checkC bf c = 4 := by
 unfold checkC; rw [if_neg (by simp [h]), if_pos h2]
theorem check8 {bf : List Commit} {c : Commit} (h : numbersV bf c = true) (h2 : ¬ (c.parents.length > 2 ∨ c.changes.length > 16)) (h3 : (c.parents.all fun p => (idxC bf p).isSome) = false) : checkC bf c = 8 := by
 unfold checkC; rw [if_neg (by simp [h]), if_neg h2, if_pos h3]
theorem check_tail {bf : List Commit} {c : Commit} (h : numbersV bf c = true) (h2 : ¬ (c.parents.length > 2 ∨ c.changes.length > 16)) (h3 : (c.parents.all fun p => (idxC bf p).isSome) = true) : checkC bf c = if twiceV c.parents = true then 7 else (afterV bf c).2 := by
 unfold checkC; rw [if_neg (by simp [h]), if_neg h2, if_neg (by simp [h3])]
set_option maxRecDepth 20000 in
set_option maxHeartbeats 2000000 in
theorem checkC_spec (bf : List Commit) (c : Commit) (rows : List (List HV)) (hrows : rows = cmsHV bf) (hb : ComB bf) (hp : CommitF 140737488355328 c) : Spec1 Tryz.prog 68 [.sl 5 false rows, .agg c.enc] (i64 (checkC bf c)) := by
 subst hrows
 have hn := hb.1
 have hp1 := hp.1
 have hp2 := hp.2.1
 refine Spec1.of_HT Tryz.func68 rfl (by rw [Tryz.ntmps68]; simp) rfl ?_
 rw [Tryz.ntmps68]
 refine HT.seq ?_;refine HT.region ?_;simp (disch := first|omega|(simp<;>omega)|fail) [wr3]
 refine HT.seq ?_;refine HT.seq ?_;refine HT.region ?_;simp (disch := first|omega|(simp<;>omega)|fail) [wr3]
 refine stepK.mk (.call1 _ _ _ _ rfl Ty.hb86 rfl (numbers_spec bf c _ rfl hn hp1) rfl rfl) ?_
 simp (disch := first|omega|(simp<;>omega)|fail) [wr3]
 refine HT.cond' ?_;simp (disch := first|omega|(simp<;>omega)|fail) [wr3]
 refine ⟨fun h13 => ?_, fun h13 => ?_⟩
 ·refine HT.seq ?_;refine HT.region ?_;simp (disch := first|omega|(simp<;>omega)|fail) [wr3]
  refine HT.ret ?_;simp (disch := first|omega|(simp<;>omega)|fail) [wr3, check2 (bf := bf) (c := c) (by simpa using h13)]
 ·have g1 : numbersV bf c = true := by simpa using h13
  refine HT.skip ?_;simp (disch := first|omega|(simp<;>omega)|fail) [wr3]
  refine HT.seq ?_;refine HT.seq ?_
  by_cases c2 : 2 < c.parents.length
  ·refine HT.region ?_;simp (disch := first|omega|(simp<;>omega)|fail) [wr3, c2]
   refine HT.cond' ?_;simp (disch := first|omega|(simp<;>omega)|fail) [wr3]
   refine HT.seq ?_;refine HT.region ?_;simp (disch := first|omega|(simp<;>omega)|fail) [wr3]
   refine HT.ret ?_;simp (disch := first|omega|(simp<;>omega)|fail) [wr3, check4 g1 (show c.parents.length > 2 ∨ c.changes.length > 16 by omega)]
  by_cases c3 : 16 < c.changes.length
  ·refine HT.region ?_;simp (disch := first|omega|(simp<;>omega)|fail) [wr3, c2, c3]
   refine HT.cond' ?_;simp (disch := first|omega|(simp<;>omega)|fail) [wr3]
   refine HT.seq ?_;refine HT.region ?_;simp (disch := first|omega|(simp<;>omega)|fail) [wr3]
   refine HT.ret ?_;simp (disch := first|omega|(simp<;>omega)|fail) [wr3, check4 g1 (show c.parents.length > 2 ∨ c.changes.length > 16 by omega)]
  have g2 : ¬ (c.parents.length > 2 ∨ c.changes.length > 16) := by omega
  have hq : FileQ c.changes := ⟨by omega, hp.2.2⟩
  refine HT.region ?_;simp (disch := first|omega|(simp<;>omega)|fail) [wr3, c2, c3]
  refine HT.cond' ?_;simp (disch := first|omega|(simp<;>omega)|fail) [wr3]
  refine HT.skip ?_;simp (disch := first|omega|(simp<;>omega)|fail) [wr3]
  refine HT.seq ?_;refine HT.seq ?_;refine HT.region ?_;simp (disch := first|omega|(simp<;>omega)|fail) [wr3]
  refine HT.block ?_;refine HT.loopK (fun k : {k : Nat // k ≤ c.parents.length ∧ UpTo (fun p => (idxC bf p).isSome) c.parents k} => [.s 5 (i64 k)]) [0, 3, 48, 49, 50, 51, 52, 53, 54, 55, 56] [3] (fun k => c.parents.length - k) (⟨0, by omega, UpTo.zero _ _⟩) ?_ ?_
  ·simp (disch := first|omega|(simp<;>omega)|fail) [wr3]
  rintro ⟨k, hk, hg⟩
  simp (disch := first|omega|(simp<;>omega)|fail) [wr3]
  refine HT.seq ?_;refine HT.seq ?_;refine HT.region ?_;simp (disch := first|omega|(simp<;>omega)|fail) [wr3]
  refine HT.cond' ?_;simp (disch := first|omega|(simp<;>omega)|fail) [wr3]
  refine ⟨fun h28 => ?_, fun h28 => ?_⟩
  ·have hk' : k < c.parents.length := by omega
   refine HT.skip ?_;simp (disch := first|omega|(simp<;>omega)|fail) [wr3]
   refine HT.seq ?_;refine HT.block ?_;refine HT.seq ?_
   by_cases q : idxC bf c.parents[k] = none
   ·have hgv := getHV_none q
    have his : (idxC bf c.parents[k]).isSome = false := by rw [q]; rfl
    refine HT.region ?_;simp (disch := first|omega|(simp<;>omega)|fail) [wr3, hgv, his]
    refine stepK.mk (.callTf _ _ _ _ _ rfl Ty.hb47 rfl rfl (refGetC_spec bf c.parents[k] hn) rfl) ?_
    simp (disch := first|omega|(simp<;>omega)|fail) [wr3, hgv, his]
    refine HT.seq ?_;refine HT.region ?_;simp (disch := first|omega|(simp<;>omega)|fail) [wr3]
    refine HT.cond' ?_;simp (disch := first|omega|(simp<;>omega)|fail) [wr3]
    refine HT.seq ?_;refine HT.region ?_;simp (disch := first|omega|(simp<;>omega)|fail) [wr3]
    refine HT.ret ?_;simp (disch := first|omega|(simp<;>omega)|fail) [wr3, check8 g1 g2 (all_fail (q := fun p => (idxC bf p).isSome) hk' his)]
   obtain ⟨j, hj⟩ := Option.ne_none_iff_exists'.1 q
   have hgv := getHV_some hj
   have his : (idxC bf c.parents[k]).isSome = true := by rw [hj]; rfl
   refine HT.region ?_;simp (disch := first|omega|(simp<;>omega)|fail) [wr3, hgv, his]
   refine stepK.mk (.callTf _ _ _ _ _ rfl Ty.hb47 rfl rfl (refGetC_spec bf c.parents[k] hn) rfl) ?_
   simp (disch := first|omega|(simp<;>omega)|fail) [wr3, hgv, his]
   refine HT.seq ?_;refine HT.region ?_;simp (disch := first|omega|(simp<;>omega)|fail) [wr3]
   refine HT.cond' ?_;simp (disch := first|omega|(simp<;>omega)|fail) [wr3]
   refine HT.skip ?_;simp (disch := first|omega|(simp<;>omega)|fail) [wr3]
   refine HT.region ?_;simp (disch := first|omega|(simp<;>omega)|fail) [wr3]
   refine Round.mk' (⟨k + 1, by omega, hg.succ hk' his⟩) (by dsimp only; omega) rfl ?_
   simp (disch := first|omega|(simp<;>omega)|fail) [wr3]
  ·obtain rfl : k = c.parents.length := by omega
   have g3 := all_upto hg
   have hct := check_tail g1 g2 g3
   refine HT.exit ?_
   simp (disch := first|omega|(simp<;>omega)|fail) [wr3]
   refine HT.seq ?_;refine HT.seq ?_
   by_cases d0 : ¬ c.parents.length = 2
   ·have ht := twice_no d0
    refine HT.draw [.batch [0, 1, 2, 3, 4, 5, 6, 7, 8, 9, 10, 11, 12, 13, 14]] (by kernel_rfl) ?_
    simp -dsimp (disch := first|omega|(simp<;>omega)|fail) [wr3, d0]
    refine HT.cond' ?_;simp (disch := first|omega|(simp<;>omega)|fail) [wr3]
    refine HT.skip ?_;simp (disch := first|omega|(simp<;>omega)|fail) [wr3]
    refine HT.seq ?_;refine HT.region ?_;simp (disch := first|omega|(simp<;>omega)|fail) [wr3]
    refine stepK.mk (.callTf _ _ _ _ _ rfl Ty.hb87 rfl rfl (after_spec bf c _ rfl hb hq) rfl) ?_
    simp (disch := first|omega|(simp<;>omega)|fail) [wr3]
    refine HT.seq ?_;refine HT.region ?_;simp (disch := first|omega|(simp<;>omega)|fail) [wr3]
    refine HT.ret ?_
    first | (simp (disch := first|omega|(simp<;>omega)|fail) [wr3, hct, ht, d1]; done) | simp (disch := first|omega|(simp<;>omega)|fail) [wr3, hct, ht]
   rw [Classical.not_not] at d0
   have ht := twice_at d0
   by_cases d1 : c.parents[0] = c.parents[1]
   ·refine HT.draw [.batch [0, 1, 2, 3, 4, 5, 6, 7, 8, 9, 10, 11, 12, 13, 14]] (by kernel_rfl) ?_
    simp -dsimp (disch := first|omega|(simp<;>omega)|fail) [wr3, d0, d1]
    refine HT.cond' ?_;simp (disch := first|omega|(simp<;>omega)|fail) [wr3]
    refine HT.seq ?_;refine HT.region ?_;simp (disch := first|omega|(simp<;>omega)|fail) [wr3]
    refine HT.ret ?_;simp (disch := first|omega|(simp<;>omega)|fail) [wr3, hct, ht, d1]
   refine HT.draw [.batch [0, 1, 2, 3, 4, 5, 6, 7, 8, 9, 10, 11, 12, 13, 14]] (by kernel_rfl) ?_
   simp -dsimp (disch := first|omega|(simp<;>omega)|fail) [wr3, d0, d1]
   refine HT.cond' ?_;simp (disch := first|omega|(simp<;>omega)|fail) [wr3]
   refine HT.skip ?_;simp (disch := first|omega|(simp<;>omega)|fail) [wr3]
   refine HT.seq ?_;refine HT.region ?_;simp (disch := first|omega|(simp<;>omega)|fail) [wr3]
   refine stepK.mk (.callTf _ _ _ _ _ rfl Ty.hb87 rfl rfl (after_spec bf c _ rfl hb hq) rfl) ?_
   simp (disch := first|omega|(simp<;>omega)|fail) [wr3]
   refine HT.seq ?_;refine HT.region ?_;simp (disch := first|omega|(simp<;>omega)|fail) [wr3]
   refine HT.ret ?_
   first | (simp (disch := first|omega|(simp<;>omega)|fail) [wr3, hct, ht, d1]; done) | simp (disch := first|omega|(simp<;>omega)|fail) [wr3, hct, ht]
theorem rightC_long {l : List Commit} (h : 64 < l.length) : rightC l = 4 := by unfold rightC; rw [if_pos h]
theorem rightC_hit {l : List Commit} {k : Nat} (hl : ¬ l.length > 64) (hk : k < l.length) (hg : ∀ j, j < k → checkC (l.take j) (l[j]?.getD default) = 0) (h : ¬ checkC (l.take k) l[k] = 0) : rightC l = checkC (l.take k) l[k] := by
 unfold rightC
 rw [if_neg hl, firstE_hit hk hg]
 ·rw [List.getElem?_eq_getElem hk]; rfl
 ·rw [List.getElem?_eq_getElem hk]; exact h
theorem rightC_all {l : List Commit} (hl : ¬ l.length > 64) (hg : ∀ j, j < l.length → checkC (l.take j) (l[j]?.getD default) = 0) : rightC l = 0 := by
 unfold rightC; rw [if_neg hl]; exact (firstE_zero _ _).2 hg
theorem comB_upto {l : List Commit} {k : Nat} (hl : l.length ≤ 140737488355328) (hc : ∀ c ∈ l, CommitF 140737488355328 c) (hg : ∀ j, j < k → checkC (l.take j) (l[j]?.getD default) = 0) : ComB (l.take k) := by
 refine ⟨by rw [List.length_take]; omega, fun c hm => ?_⟩
 obtain ⟨j, hj, rfl⟩ := List.mem_iff_getElem.1 hm
 rw [List.length_take] at hj
 have h := hg j (by omega)
 rw [List.getElem?_eq_getElem (by omega), Option.getD_some] at h
 rw [List.getElem_take]
 have := (checkC_ok h).chg
 exact ⟨by omega, (hc _ (List.getElem_mem (by omega))).2.2⟩
set_option maxRecDepth 20000 in
theorem RightC_spec (l : List Commit) (hl : l.length ≤ 140737488355328) (hc : ∀ c ∈ l, CommitF 140737488355328 c) : Spec1 Tryz.prog 45 [.sl 5 false (cmsHV l)] (i64 (rightC l)) := by
 refine Spec1.of_HT Tryz.func45 rfl (by rw [Tryz.ntmps45]; simp) rfl ?_
 rw [Tryz.ntmps45]
 refine HT.seq ?_;refine HT.region ?_;simp (disch := first|omega|(simp<;>omega)|fail) [wr3]
 refine HT.seq ?_;refine HT.seq ?_;refine HT.region ?_;simp (disch := first|omega|(simp<;>omega)|fail) [wr3]
 refine HT.cond' ?_;simp (disch := first|omega|(simp<;>omega)|fail) [wr3]
 refine ⟨fun h7 => ?_, fun h7 => ?_⟩
 ·have hx := rightC_long (l := l) (by omega)
  refine HT.seq ?_;refine HT.region ?_;simp (disch := first|omega|(simp<;>omega)|fail) [wr3]
  refine HT.ret ?_;simp (disch := first|omega|(simp<;>omega)|fail) [wr3, hx]
 ·have hlen : ¬ l.length > 64 := by omega
  refine HT.skip ?_;simp (disch := first|omega|(simp<;>omega)|fail) [wr3]
  refine HT.seq ?_;refine HT.seq ?_;refine HT.region ?_;simp (disch := first|omega|(simp<;>omega)|fail) [wr3]
  refine HT.block ?_;refine HT.loopK (fun k : {k : Nat // k ≤ l.length ∧ ∀ j, j < k → checkC (l.take j) (l[j]?.getD default) = 0} => [.s 3 (i64 k)]) [0] [] (fun k => l.length - k) (⟨0, by omega, fun j hj => absurd hj (Nat.not_lt_zero _)⟩) ?_ ?_
  ·simp (disch := first|omega|(simp<;>omega)|fail) [wr3]
  rintro ⟨k, hk, hg⟩
  simp (disch := first|omega|(simp<;>omega)|fail) [wr3]
  refine HT.seq ?_;refine HT.seq ?_;refine HT.region ?_;simp (disch := first|omega|(simp<;>omega)|fail) [wr3]
  refine HT.cond' ?_;simp (disch := first|omega|(simp<;>omega)|fail) [wr3]
  refine ⟨fun h11 => ?_, fun h11 => ?_⟩
  ·have hk' : k < l.length := by omega
   refine HT.skip ?_;simp (disch := first|omega|(simp<;>omega)|fail) [wr3]
   refine HT.seq ?_;refine HT.block ?_;refine HT.seq ?_;refine HT.draw [.batch [0, 1, 2, 3, 4, 5, 6, 7, 8]] (by kernel_rfl) ?_
   simp (disch := first|omega|(simp<;>omega)|fail) [wr3]
   refine stepK.mk (.call1 _ _ _ rfl Ty.hb68 rfl rfl (checkC_spec (l.take k) l[k] _ (cmsHV_take l k) (comB_upto hl hc hg) (hc _ (List.getElem_mem hk')))) ?_
   refine HT.seq ?_;refine HT.region ?_;simp (disch := first|omega|(simp<;>omega)|fail) [wr3]
   refine HT.cond' ?_;simp (disch := first|omega|(simp<;>omega)|fail) [wr3]
   refine ⟨fun h23 => ?_, fun h23 => ?_⟩
   ·refine HT.seq ?_;refine HT.region ?_;simp (disch := first|omega|(simp<;>omega)|fail) [wr3]
    refine HT.ret ?_;simp (disch := first|omega|(simp<;>omega)|fail) [wr3, rightC_hit hlen hk' hg (by simpa using h23)]
   ·refine HT.skip ?_;simp (disch := first|omega|(simp<;>omega)|fail) [wr3]
    refine HT.region ?_;simp (disch := first|omega|(simp<;>omega)|fail) [wr3]
    refine Round.mk' (⟨k + 1, by omega, upto_succ hg (by rw [List.getElem?_eq_getElem hk', Option.getD_some]; simpa using h23)⟩) (by dsimp only; omega) rfl ?_
    simp (disch := first|omega|(simp<;>omega)|fail) [wr3]
  ·obtain rfl : k = l.length := by omega
   refine HT.exit ?_
   simp (disch := first|omega|(simp<;>omega)|fail) [wr3]
   refine HT.seq ?_;refine HT.region ?_;simp (disch := first|omega|(simp<;>omega)|fail) [wr3]
   refine HT.ret ?_;simp (disch := first|omega|(simp<;>omega)|fail) [wr3, rightC_all hlen hg]
def HistB (l : List Commit) : Prop := rightC l = 0 ∧ ∀ c ∈ l, CommitF 140737488355328 c
theorem chain_changes {l : List Commit} (h : HistB l) {i : Nat} (hi : i < l.length) {k : Nat} (hk : k < (chainV l i).length) : FileQ (chainV l i)[k].changes := by
 have hm := chain_sub (l := l) i _ (List.getElem_mem hk)
 obtain ⟨j, hj, e⟩ := List.mem_iff_getElem.1 hm
 rw [← e]
 have := (checkC_ok (right_check h.1 hj)).chg
 exact ⟨by omega, (h.2 _ (List.getElem_mem hj)).2.2⟩
theorem applyT_fin {l c r0 : List File} (h : applyT l c = (r0, 0)) : ∀ r, runT l c = some r → FileB 1000 r := fun r hr => by
 unfold applyT at h
 split at h
 ·next h1 => exact absurd (congrArg Prod.snd h) h1
 ·split at h
  ·exact absurd (congrArg Prod.snd h) (by simp)
  ·rw [hr] at h
   dsimp only at h
   split at h
   ·next h1 => exact absurd (congrArg Prod.snd h) h1
   ·next h1 => exact rightB (by simpa using h1)
theorem chain_pos {l : List Commit} {i : Nat} (hi : i < l.length) : 0 < (chainV l i).length := by rw [chainV_at hi]; simp
theorem chain_zero {l : List Commit} {i : Nat} (hi : i < l.length) : (chainV l i)[0]'(chain_pos hi) = l[i] := by simp only [chainV_at hi, List.getElem_cons_zero]
theorem treeV_some {l : List Commit} {id : Int} (h0 : ¬ id = 0) {i : Nat} (h : idxC l id = some i) : treeV l id = (filesOf (chainV l i), 0) := by unfold treeV; rw [if_neg h0, h]
theorem cms_step {m : List Commit} {k : Nat} (hk : k < m.length) : m.take k ++ [m[k]] = m.take (k + 1) := (List.take_succ_eq_append_getElem hk).symm
structure ChG (l : List Commit) (i k : Nat) : Prop where
 lt : k < (chainV l i).length
set_option maxRecDepth 20000 in
set_option maxHeartbeats 2000000 in
theorem Tree_spec (l : List Commit) (id : Int) (hl : HistB l) : SpecT Tryz.prog 61 [.sl 5 false (cmsHV l), i64 id] [.sl 2 false (filesHV (treeV l id).1), i64 (treeV l id).2] := by
 have hl64 := rightC_len hl.1
 refine SpecT.of_HT Tryz.func61 rfl (by rw [Tryz.ntmps61]; simp) (rs := [.tmp 4, .tmp 5]) rfl (by decide) ?_
 rw [Tryz.ntmps61]
 refine HT.seq ?_;refine HT.region ?_;simp (disch := first|omega|(simp<;>omega)|fail) [wr3]
 refine HT.seq ?_;refine HT.seq ?_;refine HT.region ?_;simp (disch := first|omega|(simp<;>omega)|fail) [wr3]
 refine HT.cond' ?_;simp (disch := first|omega|(simp<;>omega)|fail) [wr3]
 refine ⟨fun h15 => ?_, fun h15 => ?_⟩
 ·refine HT.seq ?_;refine HT.region ?_;simp (disch := first|omega|(simp<;>omega)|fail) [wr3]
  refine HT.weaken (HS.le_wk 4 (.sl 2 false []) (by decide) rfl rfl (HLe.nilf 0 2 true)) ?_
  refine HT.ret ?_;simp (disch := first|omega|(simp<;>omega)|fail) [wr3, h15, treeV_zero]
 ·have h0 : ¬ id = 0 := by simpa using h15
  refine HT.skip ?_;simp (disch := first|omega|(simp<;>omega)|fail) [wr3]
  refine HT.seq ?_
  by_cases q : idxC l id = none
  ·have hgv := getHV_none q
   have his : (idxC l id).isSome = false := by rw [q]; rfl
   refine HT.region ?_;simp (disch := first|omega|(simp<;>omega)|fail) [wr3, hgv, his]
   refine stepK.mk (.callTf _ _ _ _ _ rfl Ty.hb80 rfl rfl (GetC_spec l id (by omega)) rfl) ?_
   simp (disch := first|omega|(simp<;>omega)|fail) [wr3, hgv, his]
   refine HT.seq ?_;refine HT.seq ?_;refine HT.region ?_;simp (disch := first|omega|(simp<;>omega)|fail) [wr3]
   refine HT.cond' ?_;simp (disch := first|omega|(simp<;>omega)|fail) [wr3]
   refine HT.seq ?_;refine HT.region ?_;simp (disch := first|omega|(simp<;>omega)|fail) [wr3]
   refine HT.weaken (HS.le_wk 4 (.sl 2 false []) (by decide) rfl rfl (HLe.nilf 0 2 true)) ?_
   refine HT.ret ?_;simp (disch := first|omega|(simp<;>omega)|fail) [wr3, treeV_miss h0 q]
  obtain ⟨i, hi⟩ := Option.ne_none_iff_exists'.1 q
  have hil := idxC_lt hi
  have hgv := getHV_some hi
  have his : (idxC l id).isSome = true := by rw [hi]; rfl
  have hcl := chain_length (l := l) i
  have hch := chain_step hl.1 i hil
  have hx := treeV_some h0 hi
  have hz := chain_zero hil
  refine HT.region ?_;simp (disch := first|omega|(simp<;>omega)|fail) [wr3, hgv, his]
  refine stepK.mk (.callTf _ _ _ _ _ rfl Ty.hb80 rfl rfl (GetC_spec l id (by omega)) rfl) ?_
  simp (disch := first|omega|(simp<;>omega)|fail) [wr3, hgv, his]
  refine HT.seq ?_;refine HT.seq ?_;refine HT.region ?_;simp (disch := first|omega|(simp<;>omega)|fail) [wr3]
  refine HT.cond' ?_;simp (disch := first|omega|(simp<;>omega)|fail) [wr3]
  refine HT.skip ?_;simp (disch := first|omega|(simp<;>omega)|fail) [wr3]
  refine HT.seq ?_;refine HT.region ?_;simp (disch := first|omega|(simp<;>omega)|fail) [wr3]
  refine HT.weaken (HS.le_own (t := 8) 200 80 5 _ (by decide) rfl (by decide)) ?_
  refine HT.seq ?_;refine HT.seq ?_;refine HT.region ?_;simp (disch := first|omega|(simp<;>omega)|fail) [wr3]
  refine HT.block ?_;refine HT.loopK (fun k : {k : Nat // k < (chainV l i).length} => [.s 9 (i64 ((l.length : Int) - k)), .s 7 (bo true), .o 6 (.box ((chainV l i)[k.1]'k.2).enc), .s 8 (.ref 200), .o 200 (.row 80 5 (cmsHV ((chainV l i).take k)))]) [0, 6] [] (fun k => (chainV l i).length - k) (⟨0, chain_pos hil⟩) ?_ ?_
  ·simp (disch := first|omega|(simp<;>omega)|fail) [wr3, hz]
  rintro ⟨k, hk⟩
  simp (disch := first|omega|(simp<;>omega)|fail) [wr3]
  refine HT.seq ?_;refine HT.seq ?_;refine HT.region ?_;simp (disch := first|omega|(simp<;>omega)|fail) [wr3]
  refine HT.cond' ?_;simp (disch := first|omega|(simp<;>omega)|fail) [wr3]
  refine HT.skip ?_;simp (disch := first|omega|(simp<;>omega)|fail) [wr3]
  refine HT.seq ?_;refine HT.block ?_;refine HT.seq ?_
  have htl : ((chainV l i).take k).length = k := by rw [List.length_take]; omega
  have hst : (chainV l i).take k ++ [⟨(chainV l i)[k].id, (chainV l i)[k].parents, (chainV l i)[k].changes, (chainV l i)[k].time, (chainV l i)[k].author⟩] = (chainV l i).take (k + 1) := cms_step hk
  refine HT.region ?_;simp (disch := first|omega|(simp<;>omega)|fail) [wr3, hst]
  refine HT.seq ?_;refine HT.seq ?_;refine HT.region ?_;simp (disch := first|omega|(simp<;>omega)|fail) [wr3]
  refine HT.cond' ?_;simp (disch := first|omega|(simp<;>omega)|fail) [wr3]
  refine ⟨fun h40 => ?_, fun h40 => ?_⟩
  ·have hke : k + 1 = (chainV l i).length := (hch k hk).1 (by simpa using h40)
   have hful : (chainV l i).take (k + 1) = chainV l i := by rw [hke]; exact List.take_length
   refine HT.exit ?_
   simp (disch := first|omega|(simp<;>omega)|fail) [wr3]
   simp only [hful]
   refine HT.weaken (HS.le_frzref (id := 200) (xr := .sl 5 false (cmsHV (chainV l i))) (xm := .any) (by simp)) ?_
   refine HT.seq ?_;refine HT.region ?_;simp (disch := first|omega|(simp<;>omega)|fail) [wr3]
   refine HT.weaken (HS.le_wk 10 (.sl 2 false []) (by decide) rfl rfl (HLe.nilf 0 2 true)) ?_
   refine HT.seq ?_;refine HT.seq ?_;refine HT.region ?_;simp (disch := first|omega|(simp<;>omega)|fail) [wr3]
   refine HT.block ?_;refine HT.loopK (fun m : {m : Nat // m ≤ (chainV l i).length} => [.s 11 (i64 ((m : Int) - 1)), .s 10 (.sl 2 false (filesHV (filesOf ((chainV l i).drop m))))]) [8] [] (fun m => m) (⟨(chainV l i).length, Nat.le_refl _⟩) ?_ ?_
   ·simp (disch := first|omega|(simp<;>omega)|fail) [wr3, List.drop_length, filesOf]
   rintro ⟨m, hm⟩
   simp (disch := first|omega|(simp<;>omega)|fail) [wr3]
   refine HT.seq ?_;refine HT.seq ?_;refine HT.region ?_;simp (disch := first|omega|(simp<;>omega)|fail) [wr3]
   refine HT.cond' ?_;simp (disch := first|omega|(simp<;>omega)|fail) [wr3]
   refine ⟨fun h54 => ?_, fun h54 => ?_⟩
   ·obtain ⟨m', rfl⟩ : ∃ m', m = m' + 1 := ⟨m - 1, by omega⟩
    have hm' : m' < (chainV l i).length := by omega
    have hok := chain_ok hl.1 i hil m' hm'
    refine HT.skip ?_;simp (disch := first|omega|(simp<;>omega)|fail) [wr3]
    refine HT.seq ?_;refine HT.block ?_;refine HT.seq ?_;refine HT.region ?_;simp (disch := first|omega|(simp<;>omega)|fail) [wr3, hok]
    refine stepK.mk (.callTf _ _ _ _ _ rfl Ty.hb81 rfl rfl (TApply_spec (filesOf ((chainV l i).drop (m' + 1))) (chainV l i)[m'].changes (rightB (filesOf_right _)) (chain_changes hl hil hm') (applyT_fin hok)) rfl) ?_
    simp (disch := first|omega|(simp<;>omega)|fail) [wr3, hok]
    refine HT.seq ?_;refine HT.seq ?_;refine HT.region ?_;simp (disch := first|omega|(simp<;>omega)|fail) [wr3]
    refine HT.cond' ?_;simp (disch := first|omega|(simp<;>omega)|fail) [wr3]
    refine HT.skip ?_;simp (disch := first|omega|(simp<;>omega)|fail) [wr3]
    refine HT.region ?_;simp (disch := first|omega|(simp<;>omega)|fail) [wr3]
    refine HT.region ?_;simp (disch := first|omega|(simp<;>omega)|fail) [wr3]
    refine Round.mk' (⟨m', by omega⟩) (by dsimp only; omega) rfl ?_
    simp (disch := first|omega|(simp<;>omega)|fail) [wr3]
   ·obtain rfl : m = 0 := by omega
    refine HT.exit ?_
    simp (disch := first|omega|(simp<;>omega)|fail) [wr3]
    refine HT.seq ?_;refine HT.region ?_;simp (disch := first|omega|(simp<;>omega)|fail) [wr3]
    refine HT.ret ?_;simp (disch := first|omega|(simp<;>omega)|fail) [wr3, hx]
  ·obtain ⟨p, q2, hpq⟩ : ∃ p q2, (chainV l i)[k].parents = p :: q2 := List.exists_cons_of_ne_nil (by simpa using h40)
   obtain ⟨j, hj, hix, hk2, hnx⟩ := (hch k hk).2 p q2 hpq
   have hgv2 : getHV l p = ((chainV l i)[k + 1]).enc := by rw [getHV_some hix, hnx]
   have his2 : (idxC l p).isSome = true := by rw [hix]; rfl
   refine HT.skip ?_;simp (disch := first|omega|(simp<;>omega)|fail) [wr3]
   refine HT.region ?_;simp (disch := first|omega|(simp<;>omega)|fail) [wr3, hpq, hgv2, his2]
   refine stepK.mk (.callTf _ _ _ _ _ rfl Ty.hb80 rfl rfl (GetC_spec l p (by omega)) rfl) ?_
   simp (disch := first|omega|(simp<;>omega)|fail) [wr3, hpq, hgv2, his2]
   refine HT.region ?_;simp (disch := first|omega|(simp<;>omega)|fail) [wr3]
   refine Round.mk' (⟨k + 1, hk2⟩) (by dsimp only; omega) rfl ?_
   simp (disch := first|omega|(simp<;>omega)|fail) [wr3, hst]
   omega
end Go.Hv
set_option linter.unusedVariables false
set_option linter.unusedSimpArgs false
/- Stores and repositories (layers 24 and 27). -/
namespace Go.Hv
open Go Go.Hv Go.Proofs Go.RowKit
open Go.Proofs.YtcmomegkhoggpaaGreatDoor
theorem getB_hit {l : List Blob} {id : Int} {k : Nat} (hk : k < l.length) (hg : UpTo (fun b => !decide (b.id = id)) l k) (h : l[k].id = id) : getB l id = some l[k].text := by
 unfold getB
 have : l.find? (fun b => decide (b.id = id)) = some l[k] := by
  rw [List.find?_eq_some_iff_getElem]
  refine ⟨by simpa using h, k, hk, rfl, fun j hj => ?_⟩
  exact hg j _ hj (List.getElem?_eq_getElem (by omega))
 rw [this]; rfl
theorem getB_miss {l : List Blob} {id : Int} (hg : UpTo (fun b => !decide (b.id = id)) l l.length) : getB l id = none := by
 unfold getB
 rw [List.find?_eq_none.2]
 ·rfl
 ·intro x hx
  obtain ⟨i, hi⟩ := List.mem_iff_getElem?.1 hx
  have := hg i x (getElem?_lt hi) hi
  simpa using this
set_option maxRecDepth 20000 in
theorem refGetB_spec (s : Store) (id : Int) (hn : s.blobs.length ≤ 140737488355328) : SpecT Tryz.prog 46 [.agg s.enc, i64 id] [.str ((getB s.blobs id).getD []), bo (getB s.blobs id).isSome] := by
 refine SpecT.of_HT Tryz.func46 rfl (by rw [Tryz.ntmps46]; simp) (rs := [.tmp 4, .tmp 5]) rfl (by decide) ?_
 rw [Tryz.ntmps46]
 refine HT.seq ?_;refine HT.region ?_;simp (disch := first|omega|(simp<;>omega)|fail) [wr3]
 refine HT.seq ?_;refine HT.seq ?_;refine HT.region ?_;simp (disch := first|omega|(simp<;>omega)|fail) [wr3]
 refine HT.block ?_;refine HT.loopK (fun k : {k : Nat // k ≤ s.blobs.length ∧ UpTo (fun b => !decide (b.id = id)) s.blobs k} => [.s 6 (i64 k)]) [1, 2] [2] (fun k => s.blobs.length - k) (⟨0, by omega, UpTo.zero _ _⟩) ?_ ?_
 ·simp (disch := first|omega|(simp<;>omega)|fail) [wr3]
 rintro ⟨k, hk, hg⟩
 simp (disch := first|omega|(simp<;>omega)|fail) [wr3]
 refine HT.seq ?_;refine HT.seq ?_;refine HT.region ?_;simp (disch := first|omega|(simp<;>omega)|fail) [wr3]
 refine HT.cond' ?_;simp (disch := first|omega|(simp<;>omega)|fail) [wr3]
 refine ⟨fun h11 => ?_, fun h11 => ?_⟩
 ·have hk' : k < s.blobs.length := by omega
  refine HT.skip ?_;simp (disch := first|omega|(simp<;>omega)|fail) [wr3]
  refine HT.seq ?_;refine HT.block ?_;refine HT.seq ?_;refine HT.region ?_;simp (disch := first|omega|(simp<;>omega)|fail) [wr3]
  refine HT.cond' ?_;simp (disch := first|omega|(simp<;>omega)|fail) [wr3]
  refine ⟨fun h21 => ?_, fun h21 => ?_⟩
  ·have hx := getB_hit hk' hg (by simpa using h21)
   refine HT.seq ?_;refine HT.region ?_;simp (disch := first|omega|(simp<;>omega)|fail) [wr3]
   refine HT.ret ?_;simp (disch := first|omega|(simp<;>omega)|fail) [wr3, hx]
  ·refine HT.skip ?_;simp (disch := first|omega|(simp<;>omega)|fail) [wr3]
   refine HT.region ?_;simp (disch := first|omega|(simp<;>omega)|fail) [wr3]
   refine Round.mk' (⟨k + 1, by omega, hg.succ hk' (by simpa using h21)⟩) (by dsimp only; omega) rfl ?_
   simp (disch := first|omega|(simp<;>omega)|fail) [wr3]
 ·obtain rfl : k = s.blobs.length := by omega
  have hx := getB_miss hg
  refine HT.exit ?_
  simp (disch := first|omega|(simp<;>omega)|fail) [wr3]
  refine HT.seq ?_;refine HT.region ?_;simp (disch := first|omega|(simp<;>omega)|fail) [wr3]
  refine HT.ret ?_;simp (disch := first|omega|(simp<;>omega)|fail) [wr3, hx]
set_option maxRecDepth 20000 in
theorem GetB_spec (s : Store) (id : Int) (hn : s.blobs.length ≤ 140737488355328) : SpecT Tryz.prog 48 [.agg s.enc, i64 id] [.str ((getB s.blobs id).getD []), bo (getB s.blobs id).isSome] := by
 refine SpecT.of_HT Tryz.func48 rfl (by rw [Tryz.ntmps48]; simp) (rs := [.tmp 4, .tmp 5]) rfl (by decide) ?_
 rw [Tryz.ntmps48]
 refine HT.seq ?_;refine HT.region ?_;simp (disch := first|omega|(simp<;>omega)|fail) [wr3]
 refine HT.seq ?_;refine HT.seq ?_;refine HT.region ?_;simp (disch := first|omega|(simp<;>omega)|fail) [wr3]
 refine HT.block ?_;refine HT.loopK (fun k : {k : Nat // k ≤ s.blobs.length ∧ UpTo (fun b => !decide (b.id = id)) s.blobs k} => [.s 11 (i64 k)]) [1, 9, 10] [] (fun k => s.blobs.length - k) (⟨0, by omega, UpTo.zero _ _⟩) ?_ ?_
 ·simp (disch := first|omega|(simp<;>omega)|fail) [wr3]
 rintro ⟨k, hk, hg⟩
 simp (disch := first|omega|(simp<;>omega)|fail) [wr3]
 refine HT.seq ?_;refine HT.region ?_;simp (disch := first|omega|(simp<;>omega)|fail) [wr3]
 refine HT.seq ?_;refine HT.cond' ?_;simp (disch := first|omega|(simp<;>omega)|fail) [wr3]
 refine ⟨fun h12 => ?_, fun h12 => ?_⟩
 ·have hk' : k < s.blobs.length := by omega
  refine HT.skip ?_;simp (disch := first|omega|(simp<;>omega)|fail) [wr3]
  refine HT.seq ?_;refine HT.block ?_;refine HT.seq ?_;refine HT.region ?_;simp (disch := first|omega|(simp<;>omega)|fail) [wr3]
  refine HT.seq ?_;refine HT.region ?_;simp (disch := first|omega|(simp<;>omega)|fail) [wr3]
  refine HT.cond' ?_;simp (disch := first|omega|(simp<;>omega)|fail) [wr3]
  refine ⟨fun h18 => ?_, fun h18 => ?_⟩
  ·have hx := getB_hit hk' hg (by simpa using h18)
   refine HT.seq ?_;refine HT.region ?_;simp (disch := first|omega|(simp<;>omega)|fail) [wr3]
   refine HT.ret ?_;simp (disch := first|omega|(simp<;>omega)|fail) [wr3, hx]
  ·refine HT.skip ?_;simp (disch := first|omega|(simp<;>omega)|fail) [wr3]
   refine HT.region ?_;simp (disch := first|omega|(simp<;>omega)|fail) [wr3]
   refine Round.mk' (⟨k + 1, by omega, hg.succ hk' (by simpa using h18)⟩) (by dsimp only; omega) rfl ?_
   simp (disch := first|omega|(simp<;>omega)|fail) [wr3]
 ·obtain rfl : k = s.blobs.length := by omega
  have hx := getB_miss hg
  refine HT.exit ?_
  simp (disch := first|omega|(simp<;>omega)|fail) [wr3]
  refine HT.seq ?_;refine HT.region ?_;simp (disch := first|omega|(simp<;>omega)|fail) [wr3]
  refine HT.ret ?_;simp (disch := first|omega|(simp<;>omega)|fail) [wr3, hx]
set_option maxRecDepth 20000 in
theorem name27_spec (s : List UInt8) (hs : s.length ≤ 140737488355328) : Spec1 Tryz.prog 43 [.str s] (bo (nameV s)) := by
 refine Spec1.of_HT Tryz.func43 rfl (by rw [Tryz.ntmps43]; simp) rfl ?_
 rw [Tryz.ntmps43]
 refine HT.seq ?_;refine HT.region ?_;simp (disch := first|omega|(simp<;>omega)|fail) [wr3]
 refine HT.seq ?_;refine HT.seq ?_;refine HT.region ?_;simp (disch := first|omega|(simp<;>omega)|fail) [wr3]
 refine HT.block ?_;refine HT.loopK (fun k : {k : Nat // k ≤ s.length ∧ UpTo (fun c => decide (c ≠ 47)) s k} => [.s 3 (i64 k)]) [0] [] (fun k => s.length - k) (⟨0, by omega, UpTo.zero _ _⟩) ?_ ?_
 ·simp (disch := first|omega|(simp<;>omega)|fail) [wr3]
 rintro ⟨k, hk, hg⟩
 simp (disch := first|omega|(simp<;>omega)|fail) [wr3]
 refine HT.seq ?_;refine HT.seq ?_;refine HT.region ?_;simp (disch := first|omega|(simp<;>omega)|fail) [wr3]
 refine HT.cond' ?_;simp (disch := first|omega|(simp<;>omega)|fail) [wr3]
 refine ⟨fun h7 => ?_, fun h7 => ?_⟩
 ·have hk' : k < s.length := by omega
  refine HT.skip ?_;simp (disch := first|omega|(simp<;>omega)|fail) [wr3]
  refine HT.seq ?_;refine HT.block ?_;refine HT.seq ?_;refine HT.region ?_;simp (disch := first|omega|(simp<;>omega)|fail) [wr3]
  refine HT.cond' ?_;simp (disch := first|omega|(simp<;>omega)|fail) [wr3]
  refine ⟨fun h13 => ?_, fun h13 => ?_⟩
  ·refine HT.seq ?_;refine HT.region ?_;simp (disch := first|omega|(simp<;>omega)|fail) [wr3]
   refine HT.ret ?_
   have hx : 47 ∈ s := by rw [← u8_47 h13]; exact List.getElem_mem hk'
   simp (disch := first|omega|(simp<;>omega)|fail) [wr3, nameV, hx]
  ·refine HT.skip ?_;simp (disch := first|omega|(simp<;>omega)|fail) [wr3]
   refine HT.region ?_;simp (disch := first|omega|(simp<;>omega)|fail) [wr3]
   refine Round.mk' (⟨k + 1, by omega, hg.succ hk' (decide_eq_true (fun e => h13 (by rw [e]; rfl)))⟩) (by dsimp only; omega) rfl ?_
   simp (disch := first|omega|(simp<;>omega)|fail) [wr3]
 ·obtain rfl : k = s.length := by omega
  have hx : 47 ∉ s := fun h => by have := List.all_eq_true.1 hg.all 47 h; simp at this
  refine HT.exit ?_
  simp (disch := first|omega|(simp<;>omega)|fail) [wr3]
  refine HT.seq ?_;refine HT.region ?_;simp (disch := first|omega|(simp<;>omega)|fail) [wr3]
  refine stepK.mk (.call1 _ _ _ _ rfl Ty.hb66 rfl (refPath_spec s hs) rfl rfl) ?_
  simp (disch := first|omega|(simp<;>omega)|fail) [wr3]
  refine HT.ret ?_;simp (disch := first|omega|(simp<;>omega)|fail) [wr3, nameV, hx]
section
variable {s : Store} {k : Nat}
theorem bErr2 (hk : k < s.blobs.length) (h : s.blobs[k].id < 1 ∨ s.blobs[k].id ≥ s.next ∨ (0 < k ∧ s.blobs[k].id ≤ (s.blobs[k - 1]'(by omega)).id)) : bErr s k = 2 := by
 unfold bErr; rw [List.getElem?_eq_getElem hk, List.getElem?_eq_getElem (show k - 1 < s.blobs.length by omega)]; simp only [Option.getD_some]; rw [if_pos h]
theorem bErr0 (hk : k < s.blobs.length) (h : ¬ (s.blobs[k].id < 1 ∨ s.blobs[k].id ≥ s.next ∨ (0 < k ∧ s.blobs[k].id ≤ (s.blobs[k - 1]'(by omega)).id))) : bErr s k = 0 := by
 unfold bErr; rw [List.getElem?_eq_getElem hk, List.getElem?_eq_getElem (show k - 1 < s.blobs.length by omega)]; simp only [Option.getD_some]; rw [if_neg h]
theorem rightS_next (h : s.next < 1 ∨ s.next > 10000) : rightS s = 2 := by unfold rightS; rw [if_pos h]
theorem rightS_hit (h : ¬ (s.next < 1 ∨ s.next > 10000)) (hk : k < s.blobs.length) (hg : ∀ j, j < k → bErr s j = 0) (hb : bErr s k = 2) : rightS s = 2 := by
 unfold rightS
 rw [if_neg h, if_pos]
 rw [firstE_hit hk hg (by rw [hb]; decide), hb]; decide
theorem rightS_tail (h : ¬ (s.next < 1 ∨ s.next > 10000)) (hg : ∀ j, j < s.blobs.length → bErr s j = 0) :
  rightS s = if s.blobs.length > 128 then 4 else if (s.blobs.all fun b => textV b.text) = false then 3 else if (s.blobs.map Blob.text).Nodup then 0 else 7 := by
 unfold rightS
 rw [if_neg h, if_neg]
 rw [(firstE_zero _ _).2 hg]; simp
theorem nodTo_succ {l : List Blob} {i : Nat} (h : ((l.take i).map Blob.text).Nodup) (hi : i < l.length) (hn : ∀ j (hj : j < l.length), j < i → ¬ l[i].text = l[j].text) : ((l.take (i + 1)).map Blob.text).Nodup := by
 rw [List.take_succ_eq_append_getElem hi, List.map_append, List.nodup_append]
 refine ⟨h, by simp, fun x hx y hy => ?_⟩
 obtain ⟨d, hd, rfl⟩ := List.mem_map.1 hx
 obtain ⟨a, ha, rfl⟩ := List.mem_iff_getElem.1 hd
 rw [List.length_take] at ha
 rw [List.getElem_take]
 simp at hy
 subst hy
 exact fun e => hn a (by omega) (by omega) e.symm
theorem not_nodB {l : List Blob} {i j : Nat} (hj : j < i) (hi : i < l.length) (h : l[i].text = (l[j]'(by omega)).text) : ¬ (l.map Blob.text).Nodup := fun hn => by
 have h2 := List.pairwise_iff_getElem.1 hn j i (by rw [List.length_map]; omega) (by rw [List.length_map]; exact hi) hj
 rw [List.getElem_map, List.getElem_map] at h2
 exact h2 h.symm
end
set_option maxRecDepth 20000 in
set_option maxHeartbeats 4000000 in
theorem RightS_spec (s : Store) (hn : s.blobs.length ≤ 140737488355328) (ht : ∀ b ∈ s.blobs, b.text.length ≤ 140737488355328) : Spec1 Tryz.prog 44 [.agg s.enc] (i64 (rightS s)) := by
 refine Spec1.of_HT Tryz.func44 rfl (by rw [Tryz.ntmps44]; simp) rfl ?_
 rw [Tryz.ntmps44]
 refine HT.seq ?_;refine HT.region ?_;simp (disch := first|omega|(simp<;>omega)|fail) [wr3]
 refine HT.seq ?_;refine HT.seq ?_
 by_cases c1 : s.next < 1
 ·refine HT.region ?_;simp (disch := first|omega|(simp<;>omega)|fail) [wr3, c1]
  refine HT.cond' ?_;simp (disch := first|omega|(simp<;>omega)|fail) [wr3]
  refine HT.seq ?_;refine HT.region ?_;simp (disch := first|omega|(simp<;>omega)|fail) [wr3]
  refine HT.ret ?_
  have hx := rightS_next (s := s) (by omega)
  simp (disch := first|omega|(simp<;>omega)|fail) [wr3, hx]
 by_cases c2 : 10000 < s.next
 ·refine HT.region ?_;simp (disch := first|omega|(simp<;>omega)|fail) [wr3, c1, c2]
  refine HT.cond' ?_;simp (disch := first|omega|(simp<;>omega)|fail) [wr3]
  refine HT.seq ?_;refine HT.region ?_;simp (disch := first|omega|(simp<;>omega)|fail) [wr3]
  refine HT.ret ?_
  have hx := rightS_next (s := s) (by omega)
  simp (disch := first|omega|(simp<;>omega)|fail) [wr3, hx]
 have g0 : ¬ (s.next < 1 ∨ s.next > 10000) := by omega
 refine HT.region ?_;simp (disch := first|omega|(simp<;>omega)|fail) [wr3, c1, c2]
 refine HT.cond' ?_;simp (disch := first|omega|(simp<;>omega)|fail) [wr3]
 refine HT.skip ?_;simp (disch := first|omega|(simp<;>omega)|fail) [wr3]
 refine HT.seq ?_;refine HT.seq ?_;refine HT.region ?_;simp (disch := first|omega|(simp<;>omega)|fail) [wr3]
 refine HT.block ?_;refine HT.loopK (fun k : {k : Nat // k ≤ s.blobs.length ∧ ∀ j, j < k → bErr s j = 0} => [.s 3 (i64 k)]) [1] [1] (fun k => s.blobs.length - k) (⟨0, by omega, fun j hj => absurd hj (Nat.not_lt_zero _)⟩) ?_ ?_
 ·simp (disch := first|omega|(simp<;>omega)|fail) [wr3]
 rintro ⟨k, hk, hg⟩
 simp (disch := first|omega|(simp<;>omega)|fail) [wr3]
 refine HT.seq ?_;refine HT.seq ?_;refine HT.region ?_;simp (disch := first|omega|(simp<;>omega)|fail) [wr3]
 refine HT.cond' ?_;simp (disch := first|omega|(simp<;>omega)|fail) [wr3]
 refine ⟨fun h19 => ?_, fun h19 => ?_⟩
 ·have hk' : k < s.blobs.length := by omega
  refine HT.skip ?_;simp (disch := first|omega|(simp<;>omega)|fail) [wr3]
  refine HT.seq ?_;refine HT.block ?_;refine HT.seq ?_
  by_cases e1 : s.blobs[k].id < 1
  ·refine HT.draw [.batch [0, 1, 2, 3, 4, 5, 6, 7, 8, 9, 10, 11, 12, 13, 14, 15, 16, 17, 18, 19, 20, 21, 22, 23, 24, 25, 26, 27, 28, 29, 30, 31, 32, 33, 34, 35, 36, 37]] (by kernel_rfl) ?_
   simp (disch := first|omega|(simp<;>omega)|fail) [wr3, e1]
   refine HT.cond' ?_;simp (disch := first|omega|(simp<;>omega)|fail) [wr3]
   refine HT.seq ?_;refine HT.region ?_;simp (disch := first|omega|(simp<;>omega)|fail) [wr3]
   refine HT.ret ?_
   have hx := rightS_hit g0 hk' hg (bErr2 hk' (by omega))
   simp (disch := first|omega|(simp<;>omega)|fail) [wr3, hx]
  by_cases e2 : s.next ≤ s.blobs[k].id
  ·refine HT.draw [.batch [0, 1, 2, 3, 4, 5, 6, 7, 8, 9, 10, 11, 12, 13, 14, 15, 16, 17, 18, 19, 20, 21, 22, 23, 24, 25, 26, 27, 28, 29, 30, 31, 32, 33, 34, 35, 36, 37]] (by kernel_rfl) ?_
   simp (disch := first|omega|(simp<;>omega)|fail) [wr3, e1, e2]
   refine HT.cond' ?_;simp (disch := first|omega|(simp<;>omega)|fail) [wr3]
   refine HT.seq ?_;refine HT.region ?_;simp (disch := first|omega|(simp<;>omega)|fail) [wr3]
   refine HT.ret ?_
   have hx := rightS_hit g0 hk' hg (bErr2 hk' (by omega))
   simp (disch := first|omega|(simp<;>omega)|fail) [wr3, hx]
  by_cases e3 : ¬ 0 < k
  ·refine HT.draw [.batch [0, 1, 2, 3, 4, 5, 6, 7, 8, 9, 10, 11, 12, 13, 14, 15, 16, 17, 18, 19, 20, 21, 22, 23, 24, 25, 26, 27, 28, 29, 30, 31, 32, 33, 34, 35, 36, 37]] (by kernel_rfl) ?_
   simp (disch := first|omega|(simp<;>omega)|fail) [wr3, e1, e2, e3]
   have hb0 := bErr0 hk' (by omega)
   refine HT.cond' ?_;simp (disch := first|omega|(simp<;>omega)|fail) [wr3]
   refine HT.skip ?_;simp (disch := first|omega|(simp<;>omega)|fail) [wr3]
   refine HT.region ?_;simp (disch := first|omega|(simp<;>omega)|fail) [wr3]
   refine Round.mk' (⟨k + 1, by omega, upto_succ hg hb0⟩) (by dsimp only; omega) rfl ?_
   simp (disch := first|omega|(simp<;>omega)|fail) [wr3]
  rw [Classical.not_not] at e3
  by_cases e4 : s.blobs[k].id ≤ (s.blobs[k - 1]'(by omega)).id
  ·refine HT.draw [.batch [0, 1, 2, 3, 4, 5, 6, 7, 8, 9, 10, 11, 12, 13, 14, 15, 16, 17, 18, 19, 20, 21, 22, 23, 24, 25, 26, 27, 28, 29, 30, 31, 32, 33, 34, 35, 36, 37]] (by kernel_rfl) ?_
   simp (disch := first|omega|(simp<;>omega)|fail) [wr3, e1, e2, e4]
   refine HT.cond' ?_;simp (disch := first|omega|(simp<;>omega)|fail) [wr3]
   refine HT.seq ?_;refine HT.region ?_;simp (disch := first|omega|(simp<;>omega)|fail) [wr3]
   refine HT.ret ?_
   have hx := rightS_hit g0 hk' hg (bErr2 hk' (by omega))
   simp (disch := first|omega|(simp<;>omega)|fail) [wr3, hx]
  have hb0 := bErr0 hk' (by omega)
  refine HT.draw [.batch [0, 1, 2, 3, 4, 5, 6, 7, 8, 9, 10, 11, 12, 13, 14, 15, 16, 17, 18, 19, 20, 21, 22, 23, 24, 25, 26, 27, 28, 29, 30, 31, 32, 33, 34, 35, 36, 37]] (by kernel_rfl) ?_
  simp (disch := first|omega|(simp<;>omega)|fail) [wr3, e1, e2, e4]
  refine HT.cond' ?_;simp (disch := first|omega|(simp<;>omega)|fail) [wr3]
  refine HT.skip ?_;simp (disch := first|omega|(simp<;>omega)|fail) [wr3]
  refine HT.region ?_;simp (disch := first|omega|(simp<;>omega)|fail) [wr3]
  refine Round.mk' (⟨k + 1, by omega, upto_succ hg hb0⟩) (by dsimp only; omega) rfl ?_
  simp (disch := first|omega|(simp<;>omega)|fail) [wr3]
 ·obtain rfl : k = s.blobs.length := by omega
  have hta := rightS_tail g0 hg
  refine HT.exit ?_
  simp (disch := first|omega|(simp<;>omega)|fail) [wr3]
  refine HT.seq ?_;refine HT.seq ?_;refine HT.region ?_;simp (disch := first|omega|(simp<;>omega)|fail) [wr3]
  refine HT.cond' ?_;simp (disch := first|omega|(simp<;>omega)|fail) [wr3]
  refine ⟨fun h63 => ?_, fun h63 => ?_⟩
  ·have hl : s.blobs.length > 128 := by omega
   refine HT.seq ?_;refine HT.region ?_;simp (disch := first|omega|(simp<;>omega)|fail) [wr3]
   refine HT.ret ?_;simp (disch := first|omega|(simp<;>omega)|fail) [wr3, hta, hl]
  ·have hl : ¬ s.blobs.length > 128 := by omega
   refine HT.skip ?_;simp (disch := first|omega|(simp<;>omega)|fail) [wr3]
   refine HT.seq ?_;refine HT.seq ?_;refine HT.region ?_;simp (disch := first|omega|(simp<;>omega)|fail) [wr3]
   refine HT.block ?_;refine HT.loopK (fun k : {k : Nat // k ≤ s.blobs.length ∧ UpTo (fun b => textV b.text) s.blobs k} => [.s 4 (i64 k)]) [1] [1] (fun k => s.blobs.length - k) (⟨0, by omega, UpTo.zero _ _⟩) ?_ ?_
   ·simp (disch := first|omega|(simp<;>omega)|fail) [wr3]
   rintro ⟨k, hk, hgt⟩
   simp (disch := first|omega|(simp<;>omega)|fail) [wr3]
   refine HT.seq ?_;refine HT.seq ?_;refine HT.region ?_;simp (disch := first|omega|(simp<;>omega)|fail) [wr3]
   refine HT.cond' ?_;simp (disch := first|omega|(simp<;>omega)|fail) [wr3]
   refine ⟨fun h68 => ?_, fun h68 => ?_⟩
   ·have hk2 : k < s.blobs.length := by omega
    refine HT.skip ?_;simp (disch := first|omega|(simp<;>omega)|fail) [wr3]
    refine HT.seq ?_;refine HT.block ?_;refine HT.seq ?_;refine HT.region ?_;simp (disch := first|omega|(simp<;>omega)|fail) [wr3]
    refine stepK.mk (.call1 _ _ _ _ rfl Ty.hb67 rfl (refValid_spec s.blobs[k].text (ht _ (List.getElem_mem hk2))) rfl rfl) ?_
    simp (disch := first|omega|(simp<;>omega)|fail) [wr3]
    refine HT.cond' ?_;simp (disch := first|omega|(simp<;>omega)|fail) [wr3]
    refine ⟨fun h78 => ?_, fun h78 => ?_⟩
    ·refine HT.seq ?_;refine HT.region ?_;simp (disch := first|omega|(simp<;>omega)|fail) [wr3]
     refine HT.ret ?_
     have hf := all_fail (q := fun b : Blob => textV b.text) hk2 (by simpa using h78)
     simp (disch := first|omega|(simp<;>omega)|fail) [wr3, hta, hl, hf]
    ·refine HT.skip ?_;simp (disch := first|omega|(simp<;>omega)|fail) [wr3]
     refine HT.region ?_;simp (disch := first|omega|(simp<;>omega)|fail) [wr3]
     refine Round.mk' (⟨k + 1, by omega, hgt.succ hk2 (by simpa using h78)⟩) (by dsimp only; omega) rfl ?_
     simp (disch := first|omega|(simp<;>omega)|fail) [wr3]
   ·obtain rfl : k = s.blobs.length := by omega
    have hta2 := all_upto hgt
    refine HT.exit ?_
    simp (disch := first|omega|(simp<;>omega)|fail) [wr3]
    refine HT.seq ?_;refine HT.seq ?_;refine HT.region ?_;simp (disch := first|omega|(simp<;>omega)|fail) [wr3]
    refine HT.block ?_;refine HT.loopK (fun i : {i : Nat // i ≤ s.blobs.length ∧ ((s.blobs.take i).map Blob.text).Nodup} => [.s 5 (i64 i)]) [1] [1] (fun i => s.blobs.length - i) (⟨0, by omega, by simp⟩) ?_ ?_
    ·simp (disch := first|omega|(simp<;>omega)|fail) [wr3]
    rintro ⟨i, hi, hgi⟩
    simp (disch := first|omega|(simp<;>omega)|fail) [wr3]
    refine HT.seq ?_;refine HT.seq ?_;refine HT.region ?_;simp (disch := first|omega|(simp<;>omega)|fail) [wr3]
    refine HT.cond' ?_;simp (disch := first|omega|(simp<;>omega)|fail) [wr3]
    refine ⟨fun h83 => ?_, fun h83 => ?_⟩
    ·have hi2 : i < s.blobs.length := by omega
     refine HT.skip ?_;simp (disch := first|omega|(simp<;>omega)|fail) [wr3]
     refine HT.seq ?_;refine HT.block ?_;refine HT.seq ?_;refine HT.region ?_;simp (disch := first|omega|(simp<;>omega)|fail) [wr3]
     refine HT.block ?_;refine HT.loopK (fun j : {j : Nat // j ≤ i ∧ ∀ a (ha : a < s.blobs.length), a < j → ¬ s.blobs[i].text = s.blobs[a].text} => [.s 6 (i64 j)]) [1, 5] [1] (fun j => i - j) (⟨0, by omega, fun a ha hj => absurd hj (Nat.not_lt_zero _)⟩) ?_ ?_
     ·simp (disch := first|omega|(simp<;>omega)|fail) [wr3]
     rintro ⟨j, hj, hgj⟩
     simp (disch := first|omega|(simp<;>omega)|fail) [wr3]
     refine HT.seq ?_;refine HT.seq ?_;refine HT.region ?_;simp (disch := first|omega|(simp<;>omega)|fail) [wr3]
     refine HT.cond' ?_;simp (disch := first|omega|(simp<;>omega)|fail) [wr3]
     refine ⟨fun h88 => ?_, fun h88 => ?_⟩
     ·have hj2 : j < i := by omega
      have hj3 : j < s.blobs.length := by omega
      refine HT.skip ?_;simp (disch := first|omega|(simp<;>omega)|fail) [wr3]
      refine HT.seq ?_;refine HT.block ?_;refine HT.seq ?_;refine HT.draw [.batch [0, 1, 2, 3, 4, 5, 6, 7, 8, 9, 10, 11, 12]] (by kernel_rfl) ?_
      simp (disch := first|omega|(simp<;>omega)|fail) [wr3]
      refine HT.cond' ?_;simp (disch := first|omega|(simp<;>omega)|fail) [wr3]
      refine ⟨fun h103 => ?_, fun h103 => ?_⟩
      ·refine HT.seq ?_;refine HT.region ?_;simp (disch := first|omega|(simp<;>omega)|fail) [wr3]
       refine HT.ret ?_
       have hf := not_nodB hj2 hi2 (by simpa using h103)
       simp (disch := first|omega|(simp<;>omega)|fail) [wr3, hta, hl, hta2, hf]
      ·refine HT.skip ?_;simp (disch := first|omega|(simp<;>omega)|fail) [wr3]
       refine HT.region ?_;simp (disch := first|omega|(simp<;>omega)|fail) [wr3]
       refine Round.mk' (⟨j + 1, by omega, fun a ha haj => if e : a = j then by subst e; simpa using h103 else hgj a ha (by omega)⟩) (by dsimp only; omega) rfl ?_
       simp (disch := first|omega|(simp<;>omega)|fail) [wr3]
     ·obtain rfl : i = j := by omega
      refine HT.exit ?_
      simp (disch := first|omega|(simp<;>omega)|fail) [wr3]
      refine HT.region ?_;simp (disch := first|omega|(simp<;>omega)|fail) [wr3]
      refine Round.mk' (⟨i + 1, by omega, nodTo_succ hgi hi2 (fun a ha hai => hgj a ha (by omega))⟩) (by dsimp only; omega) rfl ?_
      simp (disch := first|omega|(simp<;>omega)|fail) [wr3]
    ·obtain rfl : i = s.blobs.length := by omega
     rw [List.take_length] at hgi
     refine HT.exit ?_
     simp (disch := first|omega|(simp<;>omega)|fail) [wr3]
     refine HT.seq ?_;refine HT.region ?_;simp (disch := first|omega|(simp<;>omega)|fail) [wr3]
     refine HT.ret ?_;simp (disch := first|omega|(simp<;>omega)|fail) [wr3, hta, hl, hta2, hgi]
theorem idxB_hit {l : List Brch} {n : List UInt8} {k : Nat} (hk : k < l.length) (hg : UpTo (fun b => !decide (b.name = n)) l k) (h : l[k].name = n) : idxB l n = some k := by
 refine List.findIdx?_eq_some_iff_getElem.2 ⟨hk, by simpa using h, fun j hj => ?_⟩
 have := hg j _ hj (List.getElem?_eq_getElem (by omega))
 simpa using this
theorem idxB_miss {l : List Brch} {n : List UInt8} (hg : UpTo (fun b => !decide (b.name = n)) l l.length) : idxB l n = none := by
 refine List.findIdx?_eq_none_iff.2 fun x hx => ?_
 obtain ⟨i, hi⟩ := List.mem_iff_getElem?.1 hx
 have := hg i x (getElem?_lt hi) hi
 simpa using this
theorem idxB_lt {l : List Brch} {n : List UInt8} {k : Nat} (h : idxB l n = some k) : k < l.length := (List.findIdx?_eq_some_iff_getElem.1 h).1
theorem headV_none {r : Repo} {n : List UInt8} (h : idxB r.brs n = none) : headV r n = (0, false) := by unfold headV; rw [h]
theorem headV_some {r : Repo} {n : List UInt8} {k : Nat} (h : idxB r.brs n = some k) : headV r n = ((r.brs[k]'(idxB_lt h)).head, true) := by
 unfold headV; rw [h]; simp only [List.getElem?_eq_getElem (idxB_lt h), Option.getD_some]
theorem filesV_none {r : Repo} {n : List UInt8} (h : idxB r.brs n = none) : filesV r n = ([], 8) := by unfold filesV; rw [h]
theorem filesV_some {r : Repo} {n : List UInt8} {k : Nat} (h : idxB r.brs n = some k) : filesV r n = treeV r.commits (r.brs[k]'(idxB_lt h)).head := by
 unfold filesV; rw [h]; simp only [List.getElem?_eq_getElem (idxB_lt h), Option.getD_some]
def idxBI (l : List Brch) (n : List UInt8) : Int := match idxB l n with
 | some i => (i : Int)
 | none => -1
theorem idxBI_some {l : List Brch} {n : List UInt8} {k : Nat} (h : idxB l n = some k) : idxBI l n = k := by unfold idxBI; rw [h]
theorem idxBI_none {l : List Brch} {n : List UInt8} (h : idxB l n = none) : idxBI l n = -1 := by unfold idxBI; rw [h]
theorem indexC_spec (b : Brch) (n : List UInt8) : Spec1 Tryz.prog 118 [.agg b.enc, .cptr [.str n]] (bo (decide (b.name = n))) := by
 refine Spec1.of_HT Tryz.func118 rfl (by rw [Tryz.ntmps118]; simp) rfl ?_
 rw [Tryz.ntmps118]
 refine HT.seq ?_;refine HT.region ?_;simp (disch := first|omega|(simp<;>omega)|fail) [wr3]
 refine HT.seq ?_;refine HT.region ?_;simp (disch := first|omega|(simp<;>omega)|fail) [wr3]
 refine HT.ret ?_;simp (disch := first|omega|(simp<;>omega)|fail) [wr3]
set_option maxRecDepth 20000 in
theorem IndexB_spec (l : List Brch) (n : List UInt8) (hl : l.length ≤ 1000000) : Spec1 Tryz.prog 117 [.sl 2 false (brsHV l), .fn (.func 118) [.cptr [.str n]]] (i64 (idxBI l n)) := by
 refine Spec1.of_HT Tryz.func117 rfl (by rw [Tryz.ntmps117]; simp) rfl ?_
 rw [Tryz.ntmps117]
 refine HT.seq ?_;refine HT.region ?_;simp (disch := first|omega|(simp<;>omega)|fail) [wr3]
 refine HT.seq ?_;refine HT.seq ?_;refine HT.region ?_;simp (disch := first|omega|(simp<;>omega)|fail) [wr3]
 refine HT.block ?_;refine HT.loopK (fun k : {k : Nat // k ≤ l.length ∧ UpTo (fun b => !decide (b.name = n)) l k} => [.s 8 (i64 k)]) [0, 1, 7] [] (fun k => l.length - k) (⟨0, by omega, UpTo.zero _ _⟩) ?_ ?_
 ·simp (disch := first|omega|(simp<;>omega)|fail) [wr3]
 rintro ⟨k, hk, hg⟩
 simp (disch := first|omega|(simp<;>omega)|fail) [wr3]
 refine HT.seq ?_;refine HT.region ?_;simp (disch := first|omega|(simp<;>omega)|fail) [wr3]
 refine HT.seq ?_;refine HT.cond' ?_;simp (disch := first|omega|(simp<;>omega)|fail) [wr3]
 refine ⟨fun h9 => ?_, fun h9 => ?_⟩
 ·have hk' : k < l.length := by omega
  refine HT.skip ?_;simp (disch := first|omega|(simp<;>omega)|fail) [wr3]
  refine HT.seq ?_;refine HT.block ?_;refine HT.seq ?_;refine HT.region ?_;simp (disch := first|omega|(simp<;>omega)|fail) [wr3]
  refine HT.seq ?_;refine HT.region ?_;simp (disch := first|omega|(simp<;>omega)|fail) [wr3]
  refine stepK.mk (.call1 _ _ _ _ rfl Ty.hb118 rfl (indexC_spec l[k] n) rfl rfl) ?_
  simp (disch := first|omega|(simp<;>omega)|fail) [wr3]
  refine HT.cond' ?_;simp (disch := first|omega|(simp<;>omega)|fail) [wr3]
  refine ⟨fun h16 => ?_, fun h16 => ?_⟩
  ·have hx := idxBI_some (idxB_hit hk' hg (by simpa using h16))
   refine HT.seq ?_;refine HT.region ?_;simp (disch := first|omega|(simp<;>omega)|fail) [wr3]
   refine HT.ret ?_;simp (disch := first|omega|(simp<;>omega)|fail) [wr3, hx]
  ·refine HT.skip ?_;simp (disch := first|omega|(simp<;>omega)|fail) [wr3]
   refine HT.region ?_;simp (disch := first|omega|(simp<;>omega)|fail) [wr3]
   refine Round.mk' (⟨k + 1, by omega, hg.succ hk' (by simpa using h16)⟩) (by dsimp only; omega) rfl ?_
   simp (disch := first|omega|(simp<;>omega)|fail) [wr3]
 ·obtain rfl : k = l.length := by omega
  have hx := idxBI_none (idxB_miss hg)
  refine HT.exit ?_
  simp (disch := first|omega|(simp<;>omega)|fail) [wr3]
  refine HT.seq ?_;refine HT.region ?_;simp (disch := first|omega|(simp<;>omega)|fail) [wr3]
  refine HT.ret ?_;simp (disch := first|omega|(simp<;>omega)|fail) [wr3, hx]
theorem index_spec (r : Repo) (n : List UInt8) (hl : r.brs.length ≤ 1000000) : Spec1 Tryz.prog 79 [.agg r.enc, .str n] (i64 (idxBI r.brs n)) := by
 refine Spec1.of_HT Tryz.func79 rfl (by rw [Tryz.ntmps79]; simp) rfl ?_
 rw [Tryz.ntmps79]
 refine HT.seq ?_;refine HT.region ?_;simp (disch := first|omega|(simp<;>omega)|fail) [wr3]
 refine HT.weaken (HS.le_frzbox 3 3 (by decide) rfl rfl (by simp [isIL, isI])) ?_
 refine HT.seq ?_;refine HT.region ?_;simp (disch := first|omega|(simp<;>omega)|fail) [wr3]
 refine stepK.mk (.call1f _ _ _ _ _ rfl Ty.hb117 rfl rfl (IndexB_spec r.brs n hl) rfl) ?_
 simp (disch := first|omega|(simp<;>omega)|fail) [wr3]
 refine HT.ret ?_;simp (disch := first|omega|(simp<;>omega)|fail) [wr3]
set_option maxRecDepth 20000 in
theorem Head_spec (r : Repo) (n : List UInt8) (hl : r.brs.length ≤ 1000000) : SpecT Tryz.prog 60 [.agg r.enc, .str n] [i64 (headV r n).1, bo (headV r n).2] := by
 refine SpecT.of_HT Tryz.func60 rfl (by rw [Tryz.ntmps60]; simp) (rs := [.tmp 4, .tmp 5]) rfl (by decide) ?_
 rw [Tryz.ntmps60]
 refine HT.seq ?_;refine HT.region ?_;simp (disch := first|omega|(simp<;>omega)|fail) [wr3]
 refine HT.seq ?_
 by_cases q : idxB r.brs n = none
 ·have hh := headV_none q
  have hx := idxBI_none q
  refine HT.region ?_;simp (disch := first|omega|(simp<;>omega)|fail) [wr3, hx]
  refine stepK.mk (.call1 _ _ _ _ rfl Ty.hb79 rfl (index_spec r n hl) rfl rfl) ?_
  simp (disch := first|omega|(simp<;>omega)|fail) [wr3, hx]
  refine HT.seq ?_;refine HT.seq ?_;refine HT.region ?_;simp (disch := first|omega|(simp<;>omega)|fail) [wr3]
  refine HT.cond' ?_;simp (disch := first|omega|(simp<;>omega)|fail) [wr3]
  refine HT.seq ?_;refine HT.region ?_;simp (disch := first|omega|(simp<;>omega)|fail) [wr3]
  refine HT.ret ?_;simp (disch := first|omega|(simp<;>omega)|fail) [wr3, hh]
 obtain ⟨i, hi⟩ := Option.ne_none_iff_exists'.1 q
 have hil := idxB_lt hi
 have hh := headV_some hi
 have hx := idxBI_some hi
 refine HT.region ?_;simp (disch := first|omega|(simp<;>omega)|fail) [wr3, hx]
 refine stepK.mk (.call1 _ _ _ _ rfl Ty.hb79 rfl (index_spec r n hl) rfl rfl) ?_
 simp (disch := first|omega|(simp<;>omega)|fail) [wr3, hx]
 refine HT.seq ?_;refine HT.seq ?_;refine HT.region ?_;simp (disch := first|omega|(simp<;>omega)|fail) [wr3]
 refine HT.cond' ?_;simp (disch := first|omega|(simp<;>omega)|fail) [wr3]
 refine HT.skip ?_;simp (disch := first|omega|(simp<;>omega)|fail) [wr3]
 refine HT.seq ?_;refine HT.region ?_;simp (disch := first|omega|(simp<;>omega)|fail) [wr3]
 refine HT.ret ?_;simp (disch := first|omega|(simp<;>omega)|fail) [wr3, hh]
set_option maxRecDepth 20000 in
theorem Files_spec (r : Repo) (n : List UInt8) (hn : r.brs.length ≤ 1000000) (hc : HistB r.commits) : SpecT Tryz.prog 36 [.agg r.enc, .str n] [.sl 2 false (filesHV (filesV r n).1), i64 (filesV r n).2] := by
 refine SpecT.of_HT Tryz.func36 rfl (by rw [Tryz.ntmps36]; simp) (rs := [.tmp 4, .tmp 5]) rfl (by decide) ?_
 rw [Tryz.ntmps36]
 refine HT.seq ?_;refine HT.region ?_;simp (disch := first|omega|(simp<;>omega)|fail) [wr3]
 refine HT.seq ?_
 by_cases q : idxB r.brs n = none
 ·have hh := headV_none q
  have hx := filesV_none q
  refine HT.region ?_;simp (disch := first|omega|(simp<;>omega)|fail) [wr3, hh]
  refine stepK.mk (.callTf _ _ _ _ _ rfl Ty.hb60 rfl rfl (Head_spec r n hn) rfl) ?_
  simp (disch := first|omega|(simp<;>omega)|fail) [wr3, hh]
  refine HT.seq ?_;refine HT.seq ?_;refine HT.region ?_;simp (disch := first|omega|(simp<;>omega)|fail) [wr3]
  refine HT.cond' ?_;simp (disch := first|omega|(simp<;>omega)|fail) [wr3]
  refine HT.seq ?_;refine HT.region ?_;simp (disch := first|omega|(simp<;>omega)|fail) [wr3]
  refine HT.weaken (HS.le_wk 4 (.sl 2 false []) (by decide) rfl rfl (HLe.nilf 0 2 true)) ?_
  refine HT.ret ?_;simp (disch := first|omega|(simp<;>omega)|fail) [wr3, hx]
 obtain ⟨i, hi⟩ := Option.ne_none_iff_exists'.1 q
 have hh := headV_some hi
 have hx := filesV_some hi
 refine HT.region ?_;simp (disch := first|omega|(simp<;>omega)|fail) [wr3, hh]
 refine stepK.mk (.callTf _ _ _ _ _ rfl Ty.hb60 rfl rfl (Head_spec r n hn) rfl) ?_
 simp (disch := first|omega|(simp<;>omega)|fail) [wr3, hh]
 refine HT.seq ?_;refine HT.seq ?_;refine HT.region ?_;simp (disch := first|omega|(simp<;>omega)|fail) [wr3]
 refine HT.cond' ?_;simp (disch := first|omega|(simp<;>omega)|fail) [wr3]
 refine HT.skip ?_;simp (disch := first|omega|(simp<;>omega)|fail) [wr3]
 refine HT.seq ?_;refine HT.region ?_;simp (disch := first|omega|(simp<;>omega)|fail) [wr3]
 refine stepK.mk (.callTf _ _ _ _ _ rfl Ty.hb61 rfl rfl (Tree_spec r.commits _ hc) rfl) ?_
 simp (disch := first|omega|(simp<;>omega)|fail) [wr3]
 refine HT.ret ?_;simp (disch := first|omega|(simp<;>omega)|fail) [wr3, hx]
section
variable {r : Repo} {k : Nat}
theorem brErr3 (hk : k < r.brs.length) (h : nameV r.brs[k].name = false) : brErr r k = 3 := by
 unfold brErr; rw [List.getElem?_eq_getElem hk]; simp only; rw [if_pos h]
theorem brErr7 (hk : k < r.brs.length) (h1 : nameV r.brs[k].name = true) (h0 : 0 < k) (h : ¬ stepL (r.brs[k - 1]'(by omega)).name r.brs[k].name = true) : brErr r k = 7 := by
 unfold brErr; rw [List.getElem?_eq_getElem hk, List.getElem?_eq_getElem (show k - 1 < r.brs.length by omega)]; simp only [Option.getD_some]
 rw [if_neg (by simp [h1]), if_pos ⟨h0, by simpa using h⟩]
theorem brErr_rest (hk : k < r.brs.length) (h1 : nameV r.brs[k].name = true) (h3 : ¬ 0 < k ∨ stepL (r.brs[k - 1]'(by omega)).name r.brs[k].name = true) :
  brErr r k = if r.brs[k].head ≠ 0 ∧ (idxC r.commits r.brs[k].head).isSome = false then 8 else 0 := by
 unfold brErr; rw [List.getElem?_eq_getElem hk]; simp only
 rw [if_neg (by simp [h1]), if_neg]
 rintro ⟨a, b⟩
 rcases h3 with h3 | h3
 ·exact h3 a
 ·rw [List.getElem?_eq_getElem (show k - 1 < r.brs.length by omega), Option.getD_some, h3] at b; cases b
theorem rightR3 (h : nameV r.name = false) : rightR r = 3 := by unfold rightR; rw [if_pos h]
theorem rightRS (h : nameV r.name = true) (h2 : ¬ rightS r.store = 0) : rightR r = rightS r.store := by unfold rightR; rw [if_neg (by simp [h]), if_pos h2]
theorem rightRC (h : nameV r.name = true) (h2 : rightS r.store = 0) (h3 : ¬ rightC r.commits = 0) : rightR r = rightC r.commits := by unfold rightR; rw [if_neg (by simp [h]), if_neg (by simp [h2]), if_pos h3]
theorem rightR8 (h : nameV r.name = true) (h2 : rightS r.store = 0) (h3 : rightC r.commits = 0) (h4 : (r.commits.all fun c => c.changes.all (knownV r)) = false) : rightR r = 8 := by
 unfold rightR; rw [if_neg (by simp [h]), if_neg (by simp [h2]), if_neg (by simp [h3]), if_pos h4]
theorem rightR4 (h : nameV r.name = true) (h2 : rightS r.store = 0) (h3 : rightC r.commits = 0) (h4 : (r.commits.all fun c => c.changes.all (knownV r)) = true) (h5 : r.brs.length > 8 ∨ r.brs.length = 0) : rightR r = 4 := by
 unfold rightR; rw [if_neg (by simp [h]), if_neg (by simp [h2]), if_neg (by simp [h3]), if_neg (by simp [h4]), if_pos h5]
theorem rightR_tail (h : nameV r.name = true) (h2 : rightS r.store = 0) (h3 : rightC r.commits = 0) (h4 : (r.commits.all fun c => c.changes.all (knownV r)) = true) (h5 : ¬ (r.brs.length > 8 ∨ r.brs.length = 0)) : rightR r = firstE (brErr r) r.brs.length := by
 unfold rightR; rw [if_neg (by simp [h]), if_neg (by simp [h2]), if_neg (by simp [h3]), if_neg (by simp [h4]), if_neg h5]
theorem known_zero {c : File} (h : c.blob = 0) : knownV r c = true := by unfold knownV; rw [decide_eq_true h]; rfl
theorem known_at {c : File} (h : ¬ c.blob = 0) : knownV r c = (getB r.store.blobs c.blob).isSome := by unfold knownV; rw [decide_eq_false h]; rfl
end
set_option maxRecDepth 20000 in
set_option maxHeartbeats 8000000 in
theorem RightR_spec (r : Repo) (hr : RepoF 140737488355328 r) : Spec1 Tryz.prog 15 [.agg r.enc] (i64 (rightR r)) := by
 have hbl := hr.blobs
 have hcl := hr.commits
 have hbr := hr.brs
 refine Spec1.of_HT Tryz.func15 rfl (by rw [Tryz.ntmps15]; simp) rfl ?_
 rw [Tryz.ntmps15]
 refine HT.seq ?_;refine HT.region ?_;simp (disch := first|omega|(simp<;>omega)|fail) [wr3]
 refine HT.seq ?_;refine HT.seq ?_;refine HT.region ?_;simp (disch := first|omega|(simp<;>omega)|fail) [wr3]
 refine stepK.mk (.call1 _ _ _ _ rfl Ty.hb43 rfl (name27_spec r.name hr.name) rfl rfl) ?_
 simp (disch := first|omega|(simp<;>omega)|fail) [wr3]
 refine HT.cond' ?_;simp (disch := first|omega|(simp<;>omega)|fail) [wr3]
 refine ⟨fun h17 => ?_, fun h17 => ?_⟩
 ·refine HT.seq ?_;refine HT.region ?_;simp (disch := first|omega|(simp<;>omega)|fail) [wr3]
  refine HT.ret ?_;simp (disch := first|omega|(simp<;>omega)|fail) [wr3, rightR3 (r := r) (by simpa using h17)]
 ·have g1 : nameV r.name = true := by simpa using h17
  refine HT.skip ?_;simp (disch := first|omega|(simp<;>omega)|fail) [wr3]
  refine HT.seq ?_;refine HT.seq ?_;refine HT.region ?_;simp (disch := first|omega|(simp<;>omega)|fail) [wr3]
  refine stepK.mk (.call1 _ _ _ _ rfl Ty.hb44 rfl (RightS_spec r.store hr.blobs hr.texts) rfl rfl) ?_
  simp (disch := first|omega|(simp<;>omega)|fail) [wr3]
  refine HT.seq ?_;refine HT.region ?_;simp (disch := first|omega|(simp<;>omega)|fail) [wr3]
  refine HT.cond' ?_;simp (disch := first|omega|(simp<;>omega)|fail) [wr3]
  refine ⟨fun h22 => ?_, fun h22 => ?_⟩
  ·refine HT.seq ?_;refine HT.region ?_;simp (disch := first|omega|(simp<;>omega)|fail) [wr3]
   refine HT.ret ?_;simp (disch := first|omega|(simp<;>omega)|fail) [wr3, rightRS g1 (by simpa using h22)]
  ·have g2 : rightS r.store = 0 := by simpa using h22
   refine HT.skip ?_;simp (disch := first|omega|(simp<;>omega)|fail) [wr3]
   refine HT.seq ?_;refine HT.seq ?_;refine HT.region ?_;simp (disch := first|omega|(simp<;>omega)|fail) [wr3]
   refine stepK.mk (.call1 _ _ _ _ rfl Ty.hb45 rfl (RightC_spec r.commits hr.commits hr.commit) rfl rfl) ?_
   simp (disch := first|omega|(simp<;>omega)|fail) [wr3]
   refine HT.seq ?_;refine HT.region ?_;simp (disch := first|omega|(simp<;>omega)|fail) [wr3]
   refine HT.cond' ?_;simp (disch := first|omega|(simp<;>omega)|fail) [wr3]
   refine ⟨fun h28 => ?_, fun h28 => ?_⟩
   ·refine HT.seq ?_;refine HT.region ?_;simp (disch := first|omega|(simp<;>omega)|fail) [wr3]
    refine HT.ret ?_;simp (disch := first|omega|(simp<;>omega)|fail) [wr3, rightRC g1 g2 (by simpa using h28)]
   ·have g3 : rightC r.commits = 0 := by simpa using h28
    refine HT.skip ?_;simp (disch := first|omega|(simp<;>omega)|fail) [wr3]
    refine HT.seq ?_;refine HT.seq ?_;refine HT.region ?_;simp (disch := first|omega|(simp<;>omega)|fail) [wr3]
    refine HT.block ?_;refine HT.loopK (fun k : {k : Nat // k ≤ r.commits.length ∧ UpTo (fun c => c.changes.all (knownV r)) r.commits k} => [.s 5 (i64 k)]) [1, 76, 77, 78, 79, 100, 101, 102, 103, 104, 105, 106, 107, 108, 109, 123, 124] [1] (fun k => r.commits.length - k) (⟨0, by omega, UpTo.zero _ _⟩) ?_ ?_
    ·simp (disch := first|omega|(simp<;>omega)|fail) [wr3]
    rintro ⟨k, hk, hg⟩
    simp (disch := first|omega|(simp<;>omega)|fail) [wr3]
    refine HT.seq ?_;refine HT.seq ?_;refine HT.region ?_;simp (disch := first|omega|(simp<;>omega)|fail) [wr3]
    refine HT.cond' ?_;simp (disch := first|omega|(simp<;>omega)|fail) [wr3]
    refine ⟨fun h34 => ?_, fun h34 => ?_⟩
    ·have hk' : k < r.commits.length := by omega
     have hcm := hr.commit _ (List.getElem_mem hk')
     have hcc := hcm.2.1
     refine HT.skip ?_;simp (disch := first|omega|(simp<;>omega)|fail) [wr3]
     refine HT.seq ?_;refine HT.block ?_;refine HT.seq ?_;refine HT.region ?_;simp (disch := first|omega|(simp<;>omega)|fail) [wr3]
     refine HT.block ?_;refine HT.loopK (fun j : {j : Nat // j ≤ r.commits[k].changes.length ∧ UpTo (knownV r) r.commits[k].changes j} => [.s 6 (i64 j)]) [1, 5, 76, 77, 78, 79, 100, 101, 102, 103, 104, 105, 106, 107, 108, 109, 123, 124] [1] (fun j => r.commits[k].changes.length - j) (⟨0, by omega, UpTo.zero _ _⟩) ?_ ?_
     ·simp (disch := first|omega|(simp<;>omega)|fail) [wr3]
     rintro ⟨j, hj, hgj⟩
     simp (disch := first|omega|(simp<;>omega)|fail) [wr3]
     refine HT.seq ?_;refine HT.seq ?_;refine HT.region ?_;simp (disch := first|omega|(simp<;>omega)|fail) [wr3]
     refine HT.cond' ?_;simp (disch := first|omega|(simp<;>omega)|fail) [wr3]
     refine ⟨fun h45 => ?_, fun h45 => ?_⟩
     ·have hj' : j < r.commits[k].changes.length := by omega
      refine HT.skip ?_;simp (disch := first|omega|(simp<;>omega)|fail) [wr3]
      refine HT.seq ?_;refine HT.block ?_;refine HT.seq ?_;refine HT.region ?_;simp (disch := first|omega|(simp<;>omega)|fail) [wr3]
      refine HT.seq ?_;refine HT.region ?_;simp (disch := first|omega|(simp<;>omega)|fail) [wr3]
      refine stepK.mk (.callT _ _ _ _ rfl Ty.hb46 rfl (refGetB_spec r.store r.commits[k].changes[j].blob hr.blobs) rfl rfl) ?_
      simp (disch := first|omega|(simp<;>omega)|fail) [wr3]
      refine HT.seq ?_
      by_cases z0 : r.commits[k].changes[j].blob = 0
      ·refine HT.region ?_;simp (disch := first|omega|(simp<;>omega)|fail) [wr3, z0]
       have hkn : knownV r r.commits[k].changes[j] = true := known_zero z0
       refine HT.cond' ?_;simp (disch := first|omega|(simp<;>omega)|fail) [wr3]
       refine HT.skip ?_;simp (disch := first|omega|(simp<;>omega)|fail) [wr3]
       refine HT.region ?_;simp (disch := first|omega|(simp<;>omega)|fail) [wr3]
       refine Round.mk' (⟨j + 1, by omega, hgj.succ hj' hkn⟩) (by dsimp only; omega) rfl ?_
       simp (disch := first|omega|(simp<;>omega)|fail) [wr3]
      by_cases z1 : (getB r.store.blobs r.commits[k].changes[j].blob).isSome = true
      ·refine HT.region ?_;simp (disch := first|omega|(simp<;>omega)|fail) [wr3, z0, z1]
       have hkn : knownV r r.commits[k].changes[j] = true := by rw [known_at z0]; exact z1
       refine HT.cond' ?_;simp (disch := first|omega|(simp<;>omega)|fail) [wr3]
       refine HT.skip ?_;simp (disch := first|omega|(simp<;>omega)|fail) [wr3]
       refine HT.region ?_;simp (disch := first|omega|(simp<;>omega)|fail) [wr3]
       refine Round.mk' (⟨j + 1, by omega, hgj.succ hj' hkn⟩) (by dsimp only; omega) rfl ?_
       simp (disch := first|omega|(simp<;>omega)|fail) [wr3]
      have hkn : knownV r r.commits[k].changes[j] = false := by rw [known_at z0]; simpa using z1
      refine HT.region ?_;simp (disch := first|omega|(simp<;>omega)|fail) [wr3, z0, z1]
      refine HT.cond' ?_;simp (disch := first|omega|(simp<;>omega)|fail) [wr3]
      refine HT.seq ?_;refine HT.region ?_;simp (disch := first|omega|(simp<;>omega)|fail) [wr3]
      refine HT.ret ?_
      have hf := all_fail (q := knownV r) hj' hkn
      have hf2 := all_fail (q := fun c : Commit => c.changes.all (knownV r)) hk' hf
      simp (disch := first|omega|(simp<;>omega)|fail) [wr3, rightR8 g1 g2 g3 hf2]
     ·obtain rfl : j = r.commits[k].changes.length := by omega
      have hall := all_upto hgj
      refine HT.exit ?_
      simp (disch := first|omega|(simp<;>omega)|fail) [wr3]
      refine HT.region ?_;simp (disch := first|omega|(simp<;>omega)|fail) [wr3]
      refine Round.mk' (⟨k + 1, by omega, hg.succ hk' hall⟩) (by dsimp only; omega) rfl ?_
      simp (disch := first|omega|(simp<;>omega)|fail) [wr3]
    ·obtain rfl : k = r.commits.length := by omega
     have g4 := all_upto hg
     refine HT.exit ?_
     simp (disch := first|omega|(simp<;>omega)|fail) [wr3]
     refine HT.seq ?_;refine HT.seq ?_
     by_cases c2 : 8 < r.brs.length
     ·refine HT.region ?_;simp (disch := first|omega|(simp<;>omega)|fail) [wr3, c2]
      refine HT.cond' ?_;simp (disch := first|omega|(simp<;>omega)|fail) [wr3]
      refine HT.seq ?_;refine HT.region ?_;simp (disch := first|omega|(simp<;>omega)|fail) [wr3]
      refine HT.ret ?_;simp (disch := first|omega|(simp<;>omega)|fail) [wr3, rightR4 g1 g2 g3 g4 (show r.brs.length > 8 ∨ r.brs.length = 0 by omega)]
     by_cases c3 : r.brs.length = 0
     ·have c3' : r.brs = [] := List.eq_nil_of_length_eq_zero c3
      refine HT.region ?_;simp (disch := first|omega|(simp<;>omega)|fail) [wr3, c2, c3']
      refine HT.cond' ?_;simp (disch := first|omega|(simp<;>omega)|fail) [wr3]
      refine HT.seq ?_;refine HT.region ?_;simp (disch := first|omega|(simp<;>omega)|fail) [wr3]
      refine HT.ret ?_;simp (disch := first|omega|(simp<;>omega)|fail) [wr3, rightR4 g1 g2 g3 g4 (show r.brs.length > 8 ∨ r.brs.length = 0 by omega)]
     have g5 : ¬ (r.brs.length > 8 ∨ r.brs.length = 0) := by omega
     have c3 : ¬ r.brs = [] := fun e => g5 (.inr (by rw [e]; rfl))
     refine HT.region ?_;simp (disch := first|omega|(simp<;>omega)|fail) [wr3, c2, c3]
     refine HT.cond' ?_;simp (disch := first|omega|(simp<;>omega)|fail) [wr3]
     refine HT.skip ?_;simp (disch := first|omega|(simp<;>omega)|fail) [wr3]
     refine HT.seq ?_;refine HT.seq ?_;refine HT.region ?_;simp (disch := first|omega|(simp<;>omega)|fail) [wr3]
     refine HT.block ?_;refine HT.loopK (fun b : {b : Nat // b ≤ r.brs.length ∧ ∀ j, j < b → brErr r j = 0} => [.s 10 (i64 b)]) [1] [1] (fun b => r.brs.length - b) (⟨0, by omega, fun j hj => absurd hj (Nat.not_lt_zero _)⟩) ?_ ?_
     ·simp (disch := first|omega|(simp<;>omega)|fail) [wr3]
     rintro ⟨b, hb, hgb⟩
     simp (disch := first|omega|(simp<;>omega)|fail) [wr3]
     refine HT.seq ?_;refine HT.seq ?_;refine HT.region ?_;simp (disch := first|omega|(simp<;>omega)|fail) [wr3]
     refine HT.cond' ?_;simp (disch := first|omega|(simp<;>omega)|fail) [wr3]
     refine ⟨fun h85 => ?_, fun h85 => ?_⟩
     ·have hb' : b < r.brs.length := by omega
      have hnb := hr.names _ (List.getElem_mem hb')
      have hrt := rightR_tail g1 g2 g3 g4 g5
      refine HT.skip ?_;simp (disch := first|omega|(simp<;>omega)|fail) [wr3]
      refine HT.seq ?_;refine HT.block ?_;refine HT.seq ?_;refine HT.region ?_;simp (disch := first|omega|(simp<;>omega)|fail) [wr3]
      refine HT.seq ?_;refine HT.seq ?_;refine HT.region ?_;simp (disch := first|omega|(simp<;>omega)|fail) [wr3]
      refine stepK.mk (.call1 _ _ _ _ rfl Ty.hb43 rfl (name27_spec r.brs[b].name hnb) rfl rfl) ?_
      simp (disch := first|omega|(simp<;>omega)|fail) [wr3]
      refine HT.cond' ?_;simp (disch := first|omega|(simp<;>omega)|fail) [wr3]
      refine ⟨fun h96 => ?_, fun h96 => ?_⟩
      ·refine HT.seq ?_;refine HT.region ?_;simp (disch := first|omega|(simp<;>omega)|fail) [wr3]
       refine HT.ret ?_
       have he := brErr3 hb' (by simpa using h96)
       simp (disch := first|omega|(simp<;>omega)|fail) [wr3, hrt, firstE_hit hb' hgb (by rw [he]; decide), he]
      ·have b1 : nameV r.brs[b].name = true := by simpa using h96
       refine HT.skip ?_;simp (disch := first|omega|(simp<;>omega)|fail) [wr3]
       refine HT.seq ?_;refine HT.seq ?_
       by_cases c0 : ¬ 0 < b
       ·refine HT.draw [.batch [0, 1, 2, 3, 4, 5, 6, 7, 8, 9, 10, 11, 12, 13]] (by kernel_rfl) ?_
        simp (disch := first|omega|(simp<;>omega)|fail) [wr3, c0]
        have b3 : ¬ 0 < b ∨ stepL (r.brs[b - 1]'(by omega)).name r.brs[b].name = true := .inl c0
        refine HT.cond' ?_;simp (disch := first|omega|(simp<;>omega)|fail) [wr3]
        refine HT.skip ?_;simp (disch := first|omega|(simp<;>omega)|fail) [wr3]
        refine HT.seq ?_
        by_cases q : idxC r.commits r.brs[b].head = none
        ·have hgv := getHV_none q
         have his : (idxC r.commits r.brs[b].head).isSome = false := by rw [q]; rfl
         refine HT.region ?_;simp (disch := first|omega|(simp<;>omega)|fail) [wr3, hgv, his]
         refine stepK.mk (.callTf _ _ _ _ _ rfl Ty.hb47 rfl rfl (refGetC_spec r.commits r.brs[b].head hr.commits) rfl) ?_
         simp (disch := first|omega|(simp<;>omega)|fail) [wr3, hgv, his]
         refine HT.seq ?_
         by_cases z0 : r.brs[b].head = 0
         ·refine HT.region ?_;simp (disch := first|omega|(simp<;>omega)|fail) [wr3, z0]
          have hne : ¬ (r.brs[b].head ≠ 0 ∧ (idxC r.commits r.brs[b].head).isSome = false) := fun h => h.1 z0
          refine HT.cond' ?_;simp (disch := first|omega|(simp<;>omega)|fail) [wr3]
          refine HT.skip ?_;simp (disch := first|omega|(simp<;>omega)|fail) [wr3]
          refine HT.region ?_;simp (disch := first|omega|(simp<;>omega)|fail) [wr3]
          refine Round.mk' (⟨b + 1, by omega, upto_succ hgb (by rw [brErr_rest hb' b1 b3, if_neg hne])⟩) (by dsimp only; omega) rfl ?_
          simp (disch := first|omega|(simp<;>omega)|fail) [wr3]
         refine HT.region ?_;simp (disch := first|omega|(simp<;>omega)|fail) [wr3, z0]
         refine HT.cond' ?_;simp (disch := first|omega|(simp<;>omega)|fail) [wr3]
         refine HT.seq ?_;refine HT.region ?_;simp (disch := first|omega|(simp<;>omega)|fail) [wr3]
         refine HT.ret ?_
         have he : brErr r b = 8 := by rw [brErr_rest hb' b1 b3, if_pos ⟨z0, his⟩]
         simp (disch := first|omega|(simp<;>omega)|fail) [wr3, hrt, firstE_hit hb' hgb (by rw [he]; decide), he]
        obtain ⟨j, hj⟩ := Option.ne_none_iff_exists'.1 q
        have hgv := getHV_some hj
        have his : (idxC r.commits r.brs[b].head).isSome = true := by rw [hj]; rfl
        have hne : ¬ (r.brs[b].head ≠ 0 ∧ (idxC r.commits r.brs[b].head).isSome = false) := fun h => by rw [his] at h; exact absurd h.2 (by simp)
        refine HT.region ?_;simp (disch := first|omega|(simp<;>omega)|fail) [wr3, hgv, his]
        refine stepK.mk (.callTf _ _ _ _ _ rfl Ty.hb47 rfl rfl (refGetC_spec r.commits r.brs[b].head hr.commits) rfl) ?_
        simp (disch := first|omega|(simp<;>omega)|fail) [wr3, hgv, his]
        refine HT.seq ?_
        by_cases z0 : r.brs[b].head = 0
        ·refine HT.region ?_;simp (disch := first|omega|(simp<;>omega)|fail) [wr3, z0]
         have hne : ¬ (r.brs[b].head ≠ 0 ∧ (idxC r.commits r.brs[b].head).isSome = false) := fun h => h.1 z0
         refine HT.cond' ?_;simp (disch := first|omega|(simp<;>omega)|fail) [wr3]
         refine HT.skip ?_;simp (disch := first|omega|(simp<;>omega)|fail) [wr3]
         refine HT.region ?_;simp (disch := first|omega|(simp<;>omega)|fail) [wr3]
         refine Round.mk' (⟨b + 1, by omega, upto_succ hgb (by rw [brErr_rest hb' b1 b3, if_neg hne])⟩) (by dsimp only; omega) rfl ?_
         simp (disch := first|omega|(simp<;>omega)|fail) [wr3]
        refine HT.region ?_;simp (disch := first|omega|(simp<;>omega)|fail) [wr3, z0]
        refine HT.cond' ?_;simp (disch := first|omega|(simp<;>omega)|fail) [wr3]
        refine HT.skip ?_;simp (disch := first|omega|(simp<;>omega)|fail) [wr3]
        refine HT.region ?_;simp (disch := first|omega|(simp<;>omega)|fail) [wr3]
        refine Round.mk' (⟨b + 1, by omega, upto_succ hgb (by rw [brErr_rest hb' b1 b3, if_neg hne])⟩) (by dsimp only; omega) rfl ?_
        simp (disch := first|omega|(simp<;>omega)|fail) [wr3]
       rw [Classical.not_not] at c0
       by_cases c1 : stepL (r.brs[b - 1]'(by omega)).name r.brs[b].name = true
       ·have hq := stepL_yes c1
        refine HT.draw [.batch [0, 1, 2, 3, 4, 5, 6, 7, 8, 9, 10, 11, 12, 13]] (by kernel_rfl) ?_
        simp (disch := first|omega|(simp<;>omega)|fail) [wr3, hq]
        have b3 : ¬ 0 < b ∨ stepL (r.brs[b - 1]'(by omega)).name r.brs[b].name = true := .inr c1
        refine HT.cond' ?_;simp (disch := first|omega|(simp<;>omega)|fail) [wr3]
        refine HT.skip ?_;simp (disch := first|omega|(simp<;>omega)|fail) [wr3]
        refine HT.seq ?_
        by_cases q : idxC r.commits r.brs[b].head = none
        ·have hgv := getHV_none q
         have his : (idxC r.commits r.brs[b].head).isSome = false := by rw [q]; rfl
         refine HT.region ?_;simp (disch := first|omega|(simp<;>omega)|fail) [wr3, hgv, his]
         refine stepK.mk (.callTf _ _ _ _ _ rfl Ty.hb47 rfl rfl (refGetC_spec r.commits r.brs[b].head hr.commits) rfl) ?_
         simp (disch := first|omega|(simp<;>omega)|fail) [wr3, hgv, his]
         refine HT.seq ?_
         by_cases z0 : r.brs[b].head = 0
         ·refine HT.region ?_;simp (disch := first|omega|(simp<;>omega)|fail) [wr3, z0]
          have hne : ¬ (r.brs[b].head ≠ 0 ∧ (idxC r.commits r.brs[b].head).isSome = false) := fun h => h.1 z0
          refine HT.cond' ?_;simp (disch := first|omega|(simp<;>omega)|fail) [wr3]
          refine HT.skip ?_;simp (disch := first|omega|(simp<;>omega)|fail) [wr3]
          refine HT.region ?_;simp (disch := first|omega|(simp<;>omega)|fail) [wr3]
          refine Round.mk' (⟨b + 1, by omega, upto_succ hgb (by rw [brErr_rest hb' b1 b3, if_neg hne])⟩) (by dsimp only; omega) rfl ?_
          simp (disch := first|omega|(simp<;>omega)|fail) [wr3]
         refine HT.region ?_;simp (disch := first|omega|(simp<;>omega)|fail) [wr3, z0]
         refine HT.cond' ?_;simp (disch := first|omega|(simp<;>omega)|fail) [wr3]
         refine HT.seq ?_;refine HT.region ?_;simp (disch := first|omega|(simp<;>omega)|fail) [wr3]
         refine HT.ret ?_
         have he : brErr r b = 8 := by rw [brErr_rest hb' b1 b3, if_pos ⟨z0, his⟩]
         simp (disch := first|omega|(simp<;>omega)|fail) [wr3, hrt, firstE_hit hb' hgb (by rw [he]; decide), he]
        obtain ⟨j, hj⟩ := Option.ne_none_iff_exists'.1 q
        have hgv := getHV_some hj
        have his : (idxC r.commits r.brs[b].head).isSome = true := by rw [hj]; rfl
        have hne : ¬ (r.brs[b].head ≠ 0 ∧ (idxC r.commits r.brs[b].head).isSome = false) := fun h => by rw [his] at h; exact absurd h.2 (by simp)
        refine HT.region ?_;simp (disch := first|omega|(simp<;>omega)|fail) [wr3, hgv, his]
        refine stepK.mk (.callTf _ _ _ _ _ rfl Ty.hb47 rfl rfl (refGetC_spec r.commits r.brs[b].head hr.commits) rfl) ?_
        simp (disch := first|omega|(simp<;>omega)|fail) [wr3, hgv, his]
        refine HT.seq ?_
        by_cases z0 : r.brs[b].head = 0
        ·refine HT.region ?_;simp (disch := first|omega|(simp<;>omega)|fail) [wr3, z0]
         have hne : ¬ (r.brs[b].head ≠ 0 ∧ (idxC r.commits r.brs[b].head).isSome = false) := fun h => h.1 z0
         refine HT.cond' ?_;simp (disch := first|omega|(simp<;>omega)|fail) [wr3]
         refine HT.skip ?_;simp (disch := first|omega|(simp<;>omega)|fail) [wr3]
         refine HT.region ?_;simp (disch := first|omega|(simp<;>omega)|fail) [wr3]
         refine Round.mk' (⟨b + 1, by omega, upto_succ hgb (by rw [brErr_rest hb' b1 b3, if_neg hne])⟩) (by dsimp only; omega) rfl ?_
         simp (disch := first|omega|(simp<;>omega)|fail) [wr3]
        refine HT.region ?_;simp (disch := first|omega|(simp<;>omega)|fail) [wr3, z0]
        refine HT.cond' ?_;simp (disch := first|omega|(simp<;>omega)|fail) [wr3]
        refine HT.skip ?_;simp (disch := first|omega|(simp<;>omega)|fail) [wr3]
        refine HT.region ?_;simp (disch := first|omega|(simp<;>omega)|fail) [wr3]
        refine Round.mk' (⟨b + 1, by omega, upto_succ hgb (by rw [brErr_rest hb' b1 b3, if_neg hne])⟩) (by dsimp only; omega) rfl ?_
        simp (disch := first|omega|(simp<;>omega)|fail) [wr3]
       have hq := stepL_no c1
       refine HT.draw [.batch [0, 1, 2, 3, 4, 5, 6, 7, 8, 9, 10, 11, 12, 13]] (by kernel_rfl) ?_
       simp (disch := first|omega|(simp<;>omega)|fail) [wr3, hq]
       refine HT.cond' ?_;simp (disch := first|omega|(simp<;>omega)|fail) [wr3]
       refine HT.seq ?_;refine HT.region ?_;simp (disch := first|omega|(simp<;>omega)|fail) [wr3]
       refine HT.ret ?_
       have he := brErr7 hb' b1 c0 c1
       simp (disch := first|omega|(simp<;>omega)|fail) [wr3, hrt, firstE_hit hb' hgb (by rw [he]; decide), he]
     ·obtain rfl : b = r.brs.length := by omega
      have hrt := rightR_tail g1 g2 g3 g4 g5
      have hz := (firstE_zero (brErr r) r.brs.length).2 hgb
      refine HT.exit ?_
      simp (disch := first|omega|(simp<;>omega)|fail) [wr3]
      refine HT.seq ?_;refine HT.region ?_;simp (disch := first|omega|(simp<;>omega)|fail) [wr3]
      refine HT.ret ?_;simp (disch := first|omega|(simp<;>omega)|fail) [wr3, hrt, hz]
end Go.Hv
set_option linter.unusedVariables false
set_option linter.unusedSimpArgs false
/- Get, On, Keys and their like (layer 28). -/
namespace Go.Hv
open Go Go.Hv Go.Proofs Go.RowKit
open Go.Proofs.YtcmomegkhoggpaaGreatDoor
def zeroD : Doc := ⟨0, [], [], [], []⟩
def getDV (l : List Doc) (id : Int) : Doc := (getD' l id).getD zeroD
theorem getD_hit {l : List Doc} {id : Int} {k : Nat} (hk : k < l.length) (hg : UpTo (fun d => !decide (d.id = id)) l k) (h : l[k].id = id) : getD' l id = some l[k] := by
 unfold getD'
 rw [List.find?_eq_some_iff_getElem]
 refine ⟨by simpa using h, k, hk, rfl, fun j hj => ?_⟩
 exact hg j _ hj (List.getElem?_eq_getElem (by omega))
theorem getD_miss {l : List Doc} {id : Int} (hg : UpTo (fun d => !decide (d.id = id)) l l.length) : getD' l id = none := by
 unfold getD'
 rw [List.find?_eq_none]
 intro x hx
 obtain ⟨i, hi⟩ := List.mem_iff_getElem?.1 hx
 have := hg i x (getElem?_lt hi) hi
 simpa using this
theorem getDV_hit {l : List Doc} {id : Int} {d : Doc} (h : getD' l id = some d) : getDV l id = d := by unfold getDV; rw [h]; rfl
theorem getDV_miss {l : List Doc} {id : Int} (h : getD' l id = none) : getDV l id = zeroD := by unfold getDV; rw [h]; rfl
set_option maxRecDepth 20000 in
theorem dGet_spec (l : List Doc) (id : Int) (hn : l.length ≤ 1000000) : SpecT Tryz.prog 23 [.sl 5 false (docsHV l), i64 id] [.agg (getDV l id).enc, bo (getD' l id).isSome] := by
 refine SpecT.of_HT Tryz.func23 rfl (by rw [Tryz.ntmps23]; simp) (rs := [.cell 4 50, .tmp 5]) rfl (by decide) ?_
 rw [Tryz.ntmps23]
 refine HT.seq ?_;refine HT.region ?_;simp (disch := first|omega|(simp<;>omega)|fail) [wr3]
 refine HT.seq ?_;refine HT.seq ?_;refine HT.region ?_;simp (disch := first|omega|(simp<;>omega)|fail) [wr3]
 refine HT.block ?_;refine HT.loopK (fun k : {k : Nat // k ≤ l.length ∧ UpTo (fun d => !decide (d.id = id)) l k} => [.s 10 (i64 k)]) [1, 4, 8, 9] [4] (fun k => l.length - k) (⟨0, by omega, UpTo.zero _ _⟩) ?_ ?_
 ·simp (disch := first|omega|(simp<;>omega)|fail) [wr3]
 rintro ⟨k, hk, hg⟩
 simp (disch := first|omega|(simp<;>omega)|fail) [wr3]
 refine HT.seq ?_;refine HT.region ?_;simp (disch := first|omega|(simp<;>omega)|fail) [wr3]
 refine HT.seq ?_;refine HT.cond' ?_;simp (disch := first|omega|(simp<;>omega)|fail) [wr3]
 refine ⟨fun h11 => ?_, fun h11 => ?_⟩
 ·have hk' : k < l.length := by omega
  refine HT.skip ?_;simp (disch := first|omega|(simp<;>omega)|fail) [wr3]
  refine HT.seq ?_;refine HT.block ?_;refine HT.seq ?_;refine HT.region ?_;simp (disch := first|omega|(simp<;>omega)|fail) [wr3]
  refine HT.seq ?_;refine HT.region ?_;simp (disch := first|omega|(simp<;>omega)|fail) [wr3]
  refine HT.cond' ?_;simp (disch := first|omega|(simp<;>omega)|fail) [wr3]
  refine ⟨fun h17 => ?_, fun h17 => ?_⟩
  ·have hx := getD_hit hk' hg (by simpa using h17)
   refine HT.seq ?_;refine HT.region ?_;simp (disch := first|omega|(simp<;>omega)|fail) [wr3]
   refine HT.ret ?_;simp (disch := first|omega|(simp<;>omega)|fail) [wr3, getDV_hit hx, hx]
  ·refine HT.skip ?_;simp (disch := first|omega|(simp<;>omega)|fail) [wr3]
   refine HT.region ?_;simp (disch := first|omega|(simp<;>omega)|fail) [wr3]
   refine Round.mk' (⟨k + 1, by omega, hg.succ hk' (by simpa using h17)⟩) (by dsimp only; omega) rfl ?_
   simp (disch := first|omega|(simp<;>omega)|fail) [wr3]
 ·obtain rfl : k = l.length := by omega
  have hx := getD_miss hg
  refine HT.exit ?_
  simp (disch := first|omega|(simp<;>omega)|fail) [wr3]
  refine HT.seq ?_;refine HT.region ?_;simp (disch := first|omega|(simp<;>omega)|fail) [wr3]
  refine HT.weaken (HS.le_boxown 4 4 200 9 1 0 (by rfl) (by rfl) (by decide) (by decide)) ?_
  refine HT.weaken (HS.le_frzref (id := 200) (xr := .sl 1 false []) (xm := .any) (by simp)) ?_
  refine HT.ret ?_;simp (disch := first|omega|(simp<;>omega)|fail) [wr3, getDV_miss hx, hx, zeroD]
def sIdxV (l : List (List UInt8)) (c : List UInt8) : Int := match l.findIdx? (fun x => decide (x = c)) with
 | some i => (i : Int)
 | none => -1
theorem sIdxV_hit {l : List (List UInt8)} {c : List UInt8} {k : Nat} (hk : k < l.length) (hg : UpTo (fun x => !decide (x = c)) l k) (h : l[k] = c) : sIdxV l c = k := by
 unfold sIdxV
 rw [List.findIdx?_eq_some_iff_getElem.2 ⟨hk, by simpa using h, fun j hj => ?_⟩]
 have := hg j _ hj (List.getElem?_eq_getElem (by omega))
 simpa using this
theorem sIdxV_miss {l : List (List UInt8)} {c : List UInt8} (hg : UpTo (fun x => !decide (x = c)) l l.length) : sIdxV l c = -1 := by
 unfold sIdxV
 rw [List.findIdx?_eq_none_iff.2 fun x hx => ?_]
 obtain ⟨i, hi⟩ := List.mem_iff_getElem?.1 hx
 have := hg i x (getElem?_lt hi) hi
 simpa using this
theorem sIdxV_in (l : List (List UInt8)) (c : List UInt8) : decide (0 ≤ sIdxV l c) = decide (c ∈ l) := by
 rw [decide_eq_decide]
 unfold sIdxV
 cases h : l.findIdx? (fun x => decide (x = c)) with
 | none =>
  rw [List.findIdx?_eq_none_iff] at h
  simp only
  constructor
  ·intro h; omega
  ·intro hm; have := h c hm; simp at this
 | some i =>
  obtain ⟨h1, h2, _⟩ := List.findIdx?_eq_some_iff_getElem.1 h
  simp only
  constructor
  ·intro _; have : l[i] = c := by simpa using h2
   exact this ▸ List.getElem_mem h1
  ·intro _; omega
theorem IndexSt_spec (l : List (List UInt8)) (c : List UInt8) (hl : l.length ≤ 140737488355328) : Spec1 Tryz.prog 78 [.sl 1 false (strsHV l), .str c] (i64 (sIdxV l c)) := by
 refine Spec1.of_HT Tryz.func78 rfl (by rw [Tryz.ntmps78]; simp) rfl ?_
 rw [Tryz.ntmps78]
 refine HT.seq ?_;refine HT.region ?_;simp (disch := first|omega|(simp<;>omega)|fail) [wr3]
 refine HT.seq ?_;refine HT.seq ?_;refine HT.region ?_;simp (disch := first|omega|(simp<;>omega)|fail) [wr3]
 refine HT.block ?_;refine HT.loopK (fun k : {k : Nat // k ≤ l.length ∧ UpTo (fun x => !decide (x = c)) l k} => [.s 8 (i64 k)]) [0, 1, 7] [] (fun k => l.length - k) (⟨0, by omega, UpTo.zero _ _⟩) ?_ ?_
 ·simp (disch := first|omega|(simp<;>omega)|fail) [wr3]
 rintro ⟨k, hk, hg⟩
 simp (disch := first|omega|(simp<;>omega)|fail) [wr3]
 refine HT.seq ?_;refine HT.region ?_;simp (disch := first|omega|(simp<;>omega)|fail) [wr3]
 refine HT.seq ?_;refine HT.cond' ?_;simp (disch := first|omega|(simp<;>omega)|fail) [wr3]
 refine ⟨fun h9 => ?_, fun h9 => ?_⟩
 ·have hk' : k < l.length := by omega
  refine HT.skip ?_;simp (disch := first|omega|(simp<;>omega)|fail) [wr3]
  refine HT.seq ?_;refine HT.block ?_;refine HT.seq ?_;refine HT.region ?_;simp (disch := first|omega|(simp<;>omega)|fail) [wr3]
  refine HT.seq ?_;refine HT.region ?_;simp (disch := first|omega|(simp<;>omega)|fail) [wr3]
  refine HT.cond' ?_;simp (disch := first|omega|(simp<;>omega)|fail) [wr3]
  refine ⟨fun h16 => ?_, fun h16 => ?_⟩
  ·refine HT.seq ?_;refine HT.region ?_;simp (disch := first|omega|(simp<;>omega)|fail) [wr3]
   refine HT.ret ?_;simp (disch := first|omega|(simp<;>omega)|fail) [wr3, sIdxV_hit hk' hg (by simpa using h16.symm)]
  ·refine HT.skip ?_;simp (disch := first|omega|(simp<;>omega)|fail) [wr3]
   refine HT.region ?_;simp (disch := first|omega|(simp<;>omega)|fail) [wr3]
   refine Round.mk' (⟨k + 1, by omega, hg.succ hk' (by simpa using fun e : l[k] = c => h16 e.symm)⟩) (by dsimp only; omega) rfl ?_
   simp (disch := first|omega|(simp<;>omega)|fail) [wr3]
 ·obtain rfl : k = l.length := by omega
  refine HT.exit ?_
  simp (disch := first|omega|(simp<;>omega)|fail) [wr3]
  refine HT.seq ?_;refine HT.region ?_;simp (disch := first|omega|(simp<;>omega)|fail) [wr3]
  refine HT.ret ?_;simp (disch := first|omega|(simp<;>omega)|fail) [wr3, sIdxV_miss hg]
set_option maxRecDepth 20000 in
theorem ContainsSt_spec (l : List (List UInt8)) (c : List UInt8) (hl : l.length ≤ 140737488355328) : Spec1 Tryz.prog 59 [.sl 1 false (strsHV l), .str c] (bo (decide (c ∈ l))) := by
 refine Spec1.of_HT Tryz.func59 rfl (by rw [Tryz.ntmps59]; simp) rfl ?_
 rw [Tryz.ntmps59]
 refine HT.seq ?_;refine HT.region ?_;simp (disch := first|omega|(simp<;>omega)|fail) [wr3]
 refine HT.seq ?_;refine HT.region ?_;simp (disch := first|omega|(simp<;>omega)|fail) [wr3]
 refine stepK.mk (.call1 _ _ _ _ rfl Ty.hb78 rfl (IndexSt_spec l c hl) rfl rfl) ?_
 simp (disch := first|omega|(simp<;>omega)|fail) [wr3]
 refine HT.ret ?_
 have h := decide_eq_decide.1 (sIdxV_in l c)
 simp (disch := first|omega|(simp<;>omega)|fail) [wr3, h]
theorem onB_step (l : List Doc) (n b : List UInt8) {k : Nat} (hk : k < l.length) : onB (l.take (k + 1)) n b = onB (l.take k) n b ++ (if (decide (l[k].repo = n) && decide (b ∈ l[k].on)) = true then [l[k]] else []) := by
 unfold onB
 rw [List.take_succ_eq_append_getElem hk, List.filter_append]
 congr 1
 cases h : (decide (l[k].repo = n) && decide (b ∈ l[k].on)) <;> simp [List.filter_cons, h]
theorem onB_len (l : List Doc) (n b : List UInt8) (k : Nat) : (onB (l.take k) n b).length ≤ k := by
 unfold onB
 have := List.length_filter_le (fun d : Doc => decide (d.repo = n) && decide (b ∈ d.on)) (l.take k)
 rw [List.length_take] at this
 omega
set_option maxRecDepth 20000 in
theorem dOn_spec (l : List Doc) (n b : List UInt8) (hn : l.length ≤ 1000000) (hl : ∀ d ∈ l, DocQ d) : Spec1 Tryz.prog 26 [.sl 5 false (docsHV l), .str n, .str b] (.sl 5 false (docsHV (onB l n b))) := by
 refine Spec1.of_HT Tryz.func26 rfl (by rw [Tryz.ntmps26]; simp) rfl ?_
 rw [Tryz.ntmps26]
 refine HT.seq ?_;refine HT.region ?_;simp (disch := first|omega|(simp<;>omega)|fail) [wr3]
 refine HT.seq ?_;refine HT.region ?_;simp (disch := first|omega|(simp<;>omega)|fail) [wr3]
 refine HT.weaken (HS.le_own (t := 7) 200 50 5 _ (by decide) rfl (by decide)) ?_
 refine HT.seq ?_;refine HT.seq ?_;refine HT.region ?_;simp (disch := first|omega|(simp<;>omega)|fail) [wr3]
 refine HT.block ?_;refine HT.loopK (fun k : {k : Nat // k ≤ l.length} => [.s 12 (i64 k), .s 7 (.ref 200), .o 200 (.row 50 5 (docsHV (onB (l.take k) n b)))]) [1, 2, 10, 11] [] (fun k => l.length - k) (⟨0, by omega⟩) ?_ ?_
 ·simp (disch := first|omega|(simp<;>omega)|fail) [wr3, onB]
 rintro ⟨k, hk⟩
 simp (disch := first|omega|(simp<;>omega)|fail) [wr3]
 refine HT.seq ?_;refine HT.region ?_;simp (disch := first|omega|(simp<;>omega)|fail) [wr3]
 refine HT.seq ?_;refine HT.cond' ?_;simp (disch := first|omega|(simp<;>omega)|fail) [wr3]
 refine ⟨fun h13 => ?_, fun h13 => ?_⟩
 ·have hk' : k < l.length := by omega
  have hq := hl _ (List.getElem_mem hk')
  have hol := onB_len l n b k
  have hst := onB_step l n b hk'
  refine HT.skip ?_;simp (disch := first|omega|(simp<;>omega)|fail) [wr3]
  refine HT.seq ?_;refine HT.block ?_;refine HT.seq ?_;refine HT.region ?_;simp (disch := first|omega|(simp<;>omega)|fail) [wr3]
  refine HT.seq ?_
  by_cases c1 : ¬ l[k].repo = n
  ·have c2 := c1
   refine HT.region ?_;simp (disch := first|omega|(simp<;>omega)|fail) [wr3, c1]
   refine HT.cond' ?_;simp (disch := first|omega|(simp<;>omega)|fail) [wr3]
   refine HT.skip ?_;simp (disch := first|omega|(simp<;>omega)|fail) [wr3]
   refine HT.region ?_;simp (disch := first|omega|(simp<;>omega)|fail) [wr3]
   refine Round.mk' (⟨k + 1, by omega⟩) (by dsimp only; omega) rfl ?_
   simp (disch := first|omega|(simp<;>omega)|fail) [wr3, hst, c1, c2]
  rw [Classical.not_not] at c1
  obtain rfl := c1
  have c1 : True := trivial
  by_cases c2 : ¬ b ∈ l[k].on
  ·refine HT.region ?_;simp (disch := first|omega|(simp<;>omega)|fail) [wr3, c1, c2]
   refine stepK.mk (.call1 _ _ _ _ rfl Ty.hb59 rfl (ContainsSt_spec l[k].on b hq.2.2.2.1) rfl rfl) ?_
   simp (disch := first|omega|(simp<;>omega)|fail) [wr3, c1, c2]
   refine HT.cond' ?_;simp (disch := first|omega|(simp<;>omega)|fail) [wr3]
   refine HT.skip ?_;simp (disch := first|omega|(simp<;>omega)|fail) [wr3]
   refine HT.region ?_;simp (disch := first|omega|(simp<;>omega)|fail) [wr3]
   refine Round.mk' (⟨k + 1, by omega⟩) (by dsimp only; omega) rfl ?_
   simp (disch := first|omega|(simp<;>omega)|fail) [wr3, hst, c1, c2]
  rw [Classical.not_not] at c2
  refine HT.region ?_;simp (disch := first|omega|(simp<;>omega)|fail) [wr3, c1, c2]
  refine stepK.mk (.call1 _ _ _ _ rfl Ty.hb59 rfl (ContainsSt_spec l[k].on b hq.2.2.2.1) rfl rfl) ?_
  simp (disch := first|omega|(simp<;>omega)|fail) [wr3, c1, c2]
  refine HT.cond' ?_;simp (disch := first|omega|(simp<;>omega)|fail) [wr3]
  refine HT.region ?_;simp (disch := first|omega|(simp<;>omega)|fail) [wr3]
  refine HT.region ?_;simp (disch := first|omega|(simp<;>omega)|fail) [wr3]
  refine Round.mk' (⟨k + 1, by omega⟩) (by dsimp only; omega) rfl ?_
  simp (disch := first|omega|(simp<;>omega)|fail) [wr3, hst, c1, c2]
 ·obtain rfl : k = l.length := by omega
  refine HT.exit ?_
  simp (disch := first|omega|(simp<;>omega)|fail) [wr3]
  refine HT.seq ?_;refine HT.region ?_;simp (disch := first|omega|(simp<;>omega)|fail) [wr3]
  refine HT.ret ?_;simp (disch := first|omega|(simp<;>omega)|fail) [wr3]
end Go.Hv
set_option linter.unusedVariables false
set_option linter.unusedSimpArgs false
/- Keys, find, count, insert and their like (layer 28). -/
namespace Go.Hv
open Go Go.Hv Go.Proofs Go.RowKit
open Go.Proofs.YtcmomegkhoggpaaGreatDoor
theorem keys_step (l : List Doc) {k : Nat} (hk : k < l.length) : (l.map keyV).take k ++ [(l[k].repo, l[k].path, l[k].text)] = (l.map keyV).take (k + 1) := by
 rw [List.take_succ_eq_append_getElem (by simpa using hk), List.getElem_map]; rfl
theorem keys_take_len (l : List Doc) {k : Nat} (hk : k ≤ l.length) : ((l.map keyV).take k).length = k := by rw [List.length_take, List.length_map]; omega
set_option maxRecDepth 20000 in
theorem dKeys_spec (l : List Doc) (hn : l.length ≤ 1000000) : Spec1 Tryz.prog 29 [.sl 5 false (docsHV l)] (.sl 3 false (keysHV (l.map keyV))) := by
 refine Spec1.of_HT Tryz.func29 rfl (by rw [Tryz.ntmps29]; simp) rfl ?_
 rw [Tryz.ntmps29]
 refine HT.seq ?_;refine HT.region ?_;simp (disch := first|omega|(simp<;>omega)|fail) [wr3]
 refine HT.seq ?_;refine HT.region ?_;simp (disch := first|omega|(simp<;>omega)|fail) [wr3]
 refine HT.weaken (HS.le_own (t := 3) 200 63 3 _ (by decide) rfl (by decide)) ?_
 refine HT.seq ?_;refine HT.seq ?_;refine HT.region ?_;simp (disch := first|omega|(simp<;>omega)|fail) [wr3]
 refine HT.block ?_;refine HT.loopK (fun k : {k : Nat // k ≤ l.length} => [.s 8 (i64 k), .s 3 (.ref 200), .o 200 (.row 63 3 (keysHV ((l.map keyV).take k)))]) [6, 7] [] (fun k => l.length - k) (⟨0, by omega⟩) ?_ ?_
 ·simp (disch := first|omega|(simp<;>omega)|fail) [wr3]
 rintro ⟨k, hk⟩
 simp (disch := first|omega|(simp<;>omega)|fail) [wr3]
 refine HT.seq ?_;refine HT.region ?_;simp (disch := first|omega|(simp<;>omega)|fail) [wr3]
 refine HT.seq ?_;refine HT.cond' ?_;simp (disch := first|omega|(simp<;>omega)|fail) [wr3]
 refine ⟨fun h9 => ?_, fun h9 => ?_⟩
 ·have hk' : k < l.length := by omega
  have hol := keys_take_len l hk
  refine HT.skip ?_;simp (disch := first|omega|(simp<;>omega)|fail) [wr3]
  refine HT.seq ?_;refine HT.block ?_;refine HT.seq ?_;refine HT.region ?_;simp (disch := first|omega|(simp<;>omega)|fail) [wr3]
  refine HT.region ?_;simp (disch := first|omega|(simp<;>omega)|fail) [wr3]
  refine stepK.mk (.call1f _ _ _ _ _ rfl Ty.hb40 rfl rfl (key_spec l[k]) rfl) ?_
  simp (disch := first|omega|(simp<;>omega)|fail) [wr3]
  refine HT.region ?_;simp (disch := first|omega|(simp<;>omega)|fail) [wr3]
  refine Round.mk' (⟨k + 1, by omega⟩) (by dsimp only; omega) rfl ?_
  simp (disch := first|omega|(simp<;>omega)|fail) [wr3, keys_step l hk']
 ·obtain rfl : k = l.length := by omega
  have he : (l.map keyV).take l.length = l.map keyV := List.take_of_length_le (by simp)
  refine HT.exit ?_
  simp (disch := first|omega|(simp<;>omega)|fail) [wr3]
  refine HT.seq ?_;refine HT.region ?_;simp (disch := first|omega|(simp<;>omega)|fail) [wr3]
  refine HT.ret ?_;simp (disch := first|omega|(simp<;>omega)|fail) [wr3, he]
theorem countV_step (l : List Doc) (n : List UInt8) {k : Nat} (hk : k < l.length) : countV (l.take (k + 1)) n = countV (l.take k) n + if l[k].repo = n then 1 else 0 := by
 unfold countV
 rw [List.take_succ_eq_append_getElem hk, List.filter_append, List.length_append]
 congr 1
 by_cases h : l[k].repo = n <;> simp [h]
set_option maxRecDepth 20000 in
theorem count_spec (l : List Doc) (n : List UInt8) (hn : l.length ≤ 1000000) : Spec1 Tryz.prog 31 [.sl 5 false (docsHV l), .str n] (i64 (countV l n)) := by
 refine Spec1.of_HT Tryz.func31 rfl (by rw [Tryz.ntmps31]; simp) rfl ?_
 rw [Tryz.ntmps31]
 refine HT.seq ?_;refine HT.region ?_;simp (disch := first|omega|(simp<;>omega)|fail) [wr3]
 refine HT.seq ?_;refine HT.region ?_;simp (disch := first|omega|(simp<;>omega)|fail) [wr3]
 refine HT.seq ?_;refine HT.seq ?_;refine HT.region ?_;simp (disch := first|omega|(simp<;>omega)|fail) [wr3]
 refine HT.block ?_;refine HT.loopK (fun k : {k : Nat // k ≤ l.length} => [.s 6 (i64 k), .s 5 (i64 (countV (l.take k) n))]) [0, 1] [] (fun k => l.length - k) (⟨0, by omega⟩) ?_ ?_
 ·simp (disch := first|omega|(simp<;>omega)|fail) [wr3, countV]
 rintro ⟨k, hk⟩
 simp (disch := first|omega|(simp<;>omega)|fail) [wr3]
 refine HT.seq ?_;refine HT.seq ?_;refine HT.region ?_;simp (disch := first|omega|(simp<;>omega)|fail) [wr3]
 refine HT.cond' ?_;simp (disch := first|omega|(simp<;>omega)|fail) [wr3]
 refine ⟨fun h10 => ?_, fun h10 => ?_⟩
 ·have hk' : k < l.length := by omega
  have hst := countV_step l n hk'
  have hcl := count_le (l.take k) n
  have htl : (l.take k).length = k := by rw [List.length_take]; omega
  refine HT.skip ?_;simp (disch := first|omega|(simp<;>omega)|fail) [wr3]
  refine HT.seq ?_;refine HT.block ?_;refine HT.seq ?_;refine HT.region ?_;simp (disch := first|omega|(simp<;>omega)|fail) [wr3]
  refine HT.cond' ?_;simp (disch := first|omega|(simp<;>omega)|fail) [wr3]
  refine ⟨fun h19 => ?_, fun h19 => ?_⟩
  ·refine HT.region ?_;simp (disch := first|omega|(simp<;>omega)|fail) [wr3]
   refine HT.region ?_;simp (disch := first|omega|(simp<;>omega)|fail) [wr3]
   refine Round.mk' (⟨k + 1, by omega⟩) (by dsimp only; omega) rfl ?_
   simp (disch := first|omega|(simp<;>omega)|fail) [wr3, hst, h19]
  ·refine HT.skip ?_;simp (disch := first|omega|(simp<;>omega)|fail) [wr3]
   refine HT.region ?_;simp (disch := first|omega|(simp<;>omega)|fail) [wr3]
   refine Round.mk' (⟨k + 1, by omega⟩) (by dsimp only; omega) rfl ?_
   simp (disch := first|omega|(simp<;>omega)|fail) [wr3, hst, h19]
 ·obtain rfl : k = l.length := by omega
  refine HT.exit ?_
  simp (disch := first|omega|(simp<;>omega)|fail) [wr3]
  refine HT.seq ?_;refine HT.region ?_;simp (disch := first|omega|(simp<;>omega)|fail) [wr3]
  refine HT.ret ?_;simp (disch := first|omega|(simp<;>omega)|fail) [wr3]
def likeI (l : List Doc) (k : KeyT) : Int := match l.findIdx? (fun d => decide (keyV d = k)) with
 | some i => (i : Int)
 | none => -1
theorem likeI_hit {l : List Doc} {q : KeyT} {k : Nat} (hk : k < l.length) (hg : UpTo (fun d => !decide (keyV d = q)) l k) (h : keyV l[k] = q) : likeI l q = k := by
 unfold likeI
 rw [List.findIdx?_eq_some_iff_getElem.2 ⟨hk, by simpa using h, fun j hj => ?_⟩]
 have := hg j _ hj (List.getElem?_eq_getElem (by omega))
 simpa using this
theorem likeI_miss {l : List Doc} {q : KeyT} (hg : UpTo (fun d => !decide (keyV d = q)) l l.length) : likeI l q = -1 := by
 unfold likeI
 rw [List.findIdx?_eq_none_iff.2 fun x hx => ?_]
 obtain ⟨i, hi⟩ := List.mem_iff_getElem?.1 hx
 have := hg i x (getElem?_lt hi) hi
 simpa using this
set_option maxRecDepth 20000 in
theorem like_spec (l : List Doc) (d : Doc) (hn : l.length ≤ 1000000) (hl : ∀ x ∈ l, DocQ x) (hd : DocQ d) : Spec1 Tryz.prog 32 [.sl 5 false (docsHV l), .agg d.enc] (i64 (likeI l (keyV d))) := by
 refine Spec1.of_HT Tryz.func32 rfl (by rw [Tryz.ntmps32]; simp) rfl ?_
 rw [Tryz.ntmps32]
 refine HT.seq ?_;refine HT.region ?_;simp (disch := first|omega|(simp<;>omega)|fail) [wr3]
 refine HT.seq ?_;refine HT.seq ?_;refine HT.region ?_;simp (disch := first|omega|(simp<;>omega)|fail) [wr3]
 refine HT.block ?_;refine HT.loopK (fun k : {k : Nat // k ≤ l.length ∧ UpTo (fun x => !decide (keyV x = keyV d)) l k} => [.s 5 (i64 k)]) [0, 3] [3] (fun k => l.length - k) (⟨0, by omega, UpTo.zero _ _⟩) ?_ ?_
 ·simp (disch := first|omega|(simp<;>omega)|fail) [wr3]
 rintro ⟨k, hk, hg⟩
 simp (disch := first|omega|(simp<;>omega)|fail) [wr3]
 refine HT.seq ?_;refine HT.seq ?_;refine HT.region ?_;simp (disch := first|omega|(simp<;>omega)|fail) [wr3]
 refine HT.cond' ?_;simp (disch := first|omega|(simp<;>omega)|fail) [wr3]
 refine ⟨fun h9 => ?_, fun h9 => ?_⟩
 ·have hk' : k < l.length := by omega
  have hke : aggEq Tryz.prog 63 [.str l[k].repo, .str l[k].path, .str l[k].text] [.str d.repo, .str d.path, .str d.text] = some (decide (keyV l[k] = keyV d)) := aggEq85 (hl _ (List.getElem_mem hk')).kb hd.kb
  refine HT.skip ?_;simp (disch := first|omega|(simp<;>omega)|fail) [wr3]
  refine HT.seq ?_;refine HT.block ?_;refine HT.seq ?_
  by_cases d1 : keyV l[k] = keyV d
  ·have hq2 := eq_true d1
   refine HT.draw [.batch [0, 1, 2, 3, 4, 5, 6, 7]] (by kernel_rfl) ?_
   simp (disch := first|omega|(simp<;>omega)|fail) [wr3, hke, hq2]
   refine stepK.mk (.call1 _ _ _ rfl Ty.hb34 rfl rfl (rKey_spec l[k])) ?_
   simp (disch := first|omega|(simp<;>omega)|fail) [wr3, hke, hq2]
   refine stepK.mk (.call1 _ _ _ rfl Ty.hb34 rfl rfl (rKey_spec d)) ?_
   simp (disch := first|omega|(simp<;>omega)|fail) [wr3, hke, hq2]
   refine HT.cond' ?_;simp (disch := first|omega|(simp<;>omega)|fail) [wr3]
   refine HT.seq ?_;refine HT.region ?_;simp (disch := first|omega|(simp<;>omega)|fail) [wr3]
   refine HT.ret ?_;simp (disch := first|omega|(simp<;>omega)|fail) [wr3, likeI_hit hk' hg d1]
  have hq2 := eq_false d1
  refine HT.draw [.batch [0, 1, 2, 3, 4, 5, 6, 7]] (by kernel_rfl) ?_
  simp (disch := first|omega|(simp<;>omega)|fail) [wr3, hke, hq2]
  refine stepK.mk (.call1 _ _ _ rfl Ty.hb34 rfl rfl (rKey_spec l[k])) ?_
  simp (disch := first|omega|(simp<;>omega)|fail) [wr3, hke, hq2]
  refine stepK.mk (.call1 _ _ _ rfl Ty.hb34 rfl rfl (rKey_spec d)) ?_
  simp (disch := first|omega|(simp<;>omega)|fail) [wr3, hke, hq2]
  refine HT.cond' ?_;simp (disch := first|omega|(simp<;>omega)|fail) [wr3]
  refine HT.skip ?_;simp (disch := first|omega|(simp<;>omega)|fail) [wr3]
  refine HT.region ?_;simp (disch := first|omega|(simp<;>omega)|fail) [wr3]
  refine Round.mk' (⟨k + 1, by omega, hg.succ hk' (by simpa using d1)⟩) (by dsimp only; omega) rfl ?_
  simp (disch := first|omega|(simp<;>omega)|fail) [wr3]
 ·obtain rfl : k = l.length := by omega
  refine HT.exit ?_
  simp (disch := first|omega|(simp<;>omega)|fail) [wr3]
  refine HT.seq ?_;refine HT.region ?_;simp (disch := first|omega|(simp<;>omega)|fail) [wr3]
  refine HT.ret ?_;simp (disch := first|omega|(simp<;>omega)|fail) [wr3, likeI_miss hg]
end Go.Hv
