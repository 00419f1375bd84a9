import Derived.Test.YtlbmbnpknobjdaaGreatDoorWX3
import Derived.Shelf.Strings.Count
import Derived.Shelf.Strings.Search3
import Derived.Lib.RowBridge
set_option linter.unusedVariables false
set_option linter.unusedSimpArgs false
namespace Go.Hv
open Go Go.Hv Go.Proofs Go.RowKit
open Go.Proofs.YtlbmbnpknobjdaaGreatDoor
theorem gram_iff (a b : Gram) : (a = b) = (a.code = b.code ∧ a.off = b.off) := by cases a; cases b; simp
theorem post_iff (a b : Post) : (a = b) = (a.code = b.code ∧ a.docs = b.docs) := by cases a; cases b; simp
set_option maxHeartbeats 2000000 in
set_option maxRecDepth 20000 in
theorem atC_spec (a b : Gram) (ha : a.off.length ≤ 140737488355328) : Spec1 Tryz.prog 83 [.agg a.enc, .agg b.enc] (bo (decide (a = b))) := by
  refine Spec1.of_HT Tryz.func83 rfl (by rw [Tryz.ntmps83]; simp) rfl ?_
  rw [Tryz.ntmps83]
  refine HT.seq ?_
  refine HT.region ?_   -- R0
  simp (disch := first | omega | (simp <;> omega) | fail) [wrap_i64, wrap_u64, wrap_u8']
  refine HT.seq ?_
  by_cases d1 : ¬ a.code = b.code
  · skip
    refine HT.region ?_   -- R1
    simp (disch := first | omega | (simp <;> omega) | fail) [wrap_i64, wrap_u64, wrap_u8']
    refine HT.ret ?_
    first | (have hx : (a = b) = False := eq_false (by rw [gram_iff]; exact fun h => d1 h.1); simp (disch := first | omega | (simp <;> omega) | fail) [wrap_i64, wrap_u64, wrap_u8', hx]; done) | (have hx : (a = b) = (a.off = b.off) := (by rw [gram_iff]; simp [Classical.not_not.1 d1]); simp (disch := first | omega | (simp <;> omega) | fail) [wrap_i64, wrap_u64, wrap_u8', hx]; done)
  refine HT.region ?_   -- R1
  simp (disch := first | omega | (simp <;> omega) | fail) [wrap_i64, wrap_u64, wrap_u8']
  refine stepK.mk (.call1 _ _ _ _ rfl Ty.hb84 rfl (EqI_spec a.off b.off ha) rfl rfl) ?_
  simp (disch := first | omega | (simp <;> omega) | fail) [wrap_i64, wrap_u64, wrap_u8']
  refine HT.ret ?_
  first | (have hx : (a = b) = False := eq_false (by rw [gram_iff]; exact fun h => d1 h.1); simp (disch := first | omega | (simp <;> omega) | fail) [wrap_i64, wrap_u64, wrap_u8', hx]; done) | (have hx : (a = b) = (a.off = b.off) := (by rw [gram_iff]; simp [Classical.not_not.1 d1]); simp (disch := first | omega | (simp <;> omega) | fail) [wrap_i64, wrap_u64, wrap_u8', hx]; done)
set_option maxHeartbeats 2000000 in
set_option maxRecDepth 20000 in
theorem eqfG_spec (a b : List Gram) (ha : a.length ≤ 140737488355328) (hA : ∀ g ∈ a, g.off.length ≤ 140737488355328) : Spec1 Tryz.prog 82 [.sl 2 false (gramsHV a), .sl 2 false (gramsHV b), .fn (.func 83) []] (bo (decide (a = b))) := by
  refine Spec1.of_HT Tryz.func82 rfl (by rw [Tryz.ntmps82]; simp) rfl ?_
  rw [Tryz.ntmps82]
  refine HT.seq ?_
  refine HT.region ?_   -- R0
  simp (disch := first | omega | (simp <;> omega) | fail) [wrap_i64, wrap_u64, wrap_u8']
  refine HT.seq ?_
  refine HT.seq ?_
  by_cases c1 : ¬ a.length = b.length
  · skip
    refine HT.region ?_   -- R1
    simp (disch := first | omega | (simp <;> omega) | fail) [wrap_i64, wrap_u64, wrap_u8']
    refine HT.cond' ?_   -- if 14
    simp (disch := first | omega | (simp <;> omega) | fail) [wrap_i64, wrap_u64, wrap_u8']
    refine HT.seq ?_
    refine HT.region ?_   -- R2
    simp (disch := first | omega | (simp <;> omega) | fail) [wrap_i64, wrap_u64, wrap_u8']
    refine HT.ret ?_
    simp (disch := first | omega | (simp <;> omega) | fail) [wrap_i64, wrap_u64, wrap_u8', ne_len c1]
  refine HT.region ?_   -- R1
  simp (disch := first | omega | (simp <;> omega) | fail) [wrap_i64, wrap_u64, wrap_u8']
  refine HT.cond' ?_   -- if 14
  simp (disch := first | omega | (simp <;> omega) | fail) [wrap_i64, wrap_u64, wrap_u8']
  refine HT.skip ?_
  simp (disch := first | omega | (simp <;> omega) | fail) [wrap_i64, wrap_u64, wrap_u8']
  refine HT.seq ?_
  refine HT.seq ?_
  refine HT.region ?_   -- R3
  simp (disch := first | omega | (simp <;> omega) | fail) [wrap_i64, wrap_u64, wrap_u8']
  refine HT.block ?_
  refine HT.loopK (fun k : {k : Nat // k ≤ a.length ∧ ∀ i, i < k → a[i]? = b[i]?} => [.s 17 (i64 k)]) [1, 2, 15, 16] [] (fun k => a.length - k) (⟨0, by omega, by intro i hi; omega⟩) ?_ ?_   -- block 0 turned [17]
  · simp (disch := first | omega | (simp <;> omega) | fail) [wrap_i64, wrap_u64, wrap_u8']
  rintro ⟨k, hk, hg⟩
  simp (disch := first | omega | (simp <;> omega) | fail) [wrap_i64, wrap_u64, wrap_u8']
  refine HT.seq ?_
  refine HT.region ?_   -- R4
  simp (disch := first | omega | (simp <;> omega) | fail) [wrap_i64, wrap_u64, wrap_u8']
  refine HT.seq ?_
  refine HT.cond' ?_   -- if 18
  simp (disch := first | omega | (simp <;> omega) | fail) [wrap_i64, wrap_u64, wrap_u8']
  refine ⟨fun h18 => ?_, fun h18 => ?_⟩
  · skip
    have hk' : k < a.length := by omega
    have hkb : k < b.length := by omega
    refine HT.skip ?_
    simp (disch := first | omega | (simp <;> omega) | fail) [wrap_i64, wrap_u64, wrap_u8']
    refine HT.seq ?_
    refine HT.block ?_
    refine HT.seq ?_
    refine HT.region ?_   -- R5
    simp (disch := first | omega | (simp <;> omega) | fail) [wrap_i64, wrap_u64, wrap_u8']
    refine HT.seq ?_
    refine HT.region ?_   -- R6
    simp (disch := first | omega | (simp <;> omega) | fail) [wrap_i64, wrap_u64, wrap_u8']
    refine HT.seq ?_
    by_cases d1 : ¬ a[k] = b[k]
    · skip
      have hq := eq_false d1
      refine HT.region ?_   -- R7
      simp (disch := first | omega | (simp <;> omega) | fail) [wrap_i64, wrap_u64, wrap_u8']
      refine stepK.mk (.call1 _ _ _ _ rfl Ty.hb83 rfl (atC_spec a[k] b[k] (hA _ (List.getElem_mem hk'))) rfl rfl) ?_
      simp (disch := first | omega | (simp <;> omega) | fail) [wrap_i64, wrap_u64, wrap_u8', hq]
      refine HT.cond' ?_   -- if 30
      simp (disch := first | omega | (simp <;> omega) | fail) [wrap_i64, wrap_u64, wrap_u8']
      refine HT.seq ?_
      refine HT.region ?_   -- R8
      simp (disch := first | omega | (simp <;> omega) | fail) [wrap_i64, wrap_u64, wrap_u8']
      refine HT.ret ?_
      simp (disch := first | omega | (simp <;> omega) | fail) [wrap_i64, wrap_u64, wrap_u8', ne_at hk' hkb d1]
    rw [Classical.not_not] at d1
    have hq := eq_true d1
    refine HT.region ?_   -- R7
    simp (disch := first | omega | (simp <;> omega) | fail) [wrap_i64, wrap_u64, wrap_u8']
    refine stepK.mk (.call1 _ _ _ _ rfl Ty.hb83 rfl (atC_spec a[k] b[k] (hA _ (List.getElem_mem hk'))) rfl rfl) ?_
    simp (disch := first | omega | (simp <;> omega) | fail) [wrap_i64, wrap_u64, wrap_u8', hq]
    refine HT.cond' ?_   -- if 30
    simp (disch := first | omega | (simp <;> omega) | fail) [wrap_i64, wrap_u64, wrap_u8']
    refine HT.skip ?_
    simp (disch := first | omega | (simp <;> omega) | fail) [wrap_i64, wrap_u64, wrap_u8']
    refine HT.region ?_   -- R9
    simp (disch := first | omega | (simp <;> omega) | fail) [wrap_i64, wrap_u64, wrap_u8']
    refine Round.mk' (⟨k + 1, by omega, agreeX hg (by rw [List.getElem?_eq_getElem hk', List.getElem?_eq_getElem hkb, d1])⟩) (by dsimp only; omega) rfl ?_
    simp (disch := first | omega | (simp <;> omega) | fail) [wrap_i64, wrap_u64, wrap_u8']
  · skip
    obtain rfl : k = a.length := by omega
    refine HT.exit ?_
    simp (disch := first | omega | (simp <;> omega) | fail) [wrap_i64, wrap_u64, wrap_u8']
    refine HT.seq ?_
    refine HT.region ?_   -- R10
    simp (disch := first | omega | (simp <;> omega) | fail) [wrap_i64, wrap_u64, wrap_u8']
    refine HT.ret ?_
    have hx : a = b := extX (by omega) hg
    simp (disch := first | omega | (simp <;> omega) | fail) [wrap_i64, wrap_u64, wrap_u8', hx]
theorem sameAt_spec (a b : List Gram) (ha : a.length ≤ 140737488355328) (hA : ∀ g ∈ a, g.off.length ≤ 140737488355328) : Spec1 Tryz.prog 53 [.sl 2 false (gramsHV a), .sl 2 false (gramsHV b)] (bo (decide (a = b))) := by
  refine Spec1.of_HT Tryz.func53 rfl (by rw [Tryz.ntmps53]; simp) rfl ?_
  rw [Tryz.ntmps53]
  refine HT.seq ?_
  refine HT.region ?_   -- R0
  simp (disch := first | omega | (simp <;> omega) | fail) [wrap_i64, wrap_u64, wrap_u8']
  refine HT.seq ?_
  refine HT.region ?_   -- R1
  simp (disch := first | omega | (simp <;> omega) | fail) [wrap_i64, wrap_u64, wrap_u8']
  refine stepK.mk (.call1 _ _ _ _ rfl Ty.hb82 rfl (eqfG_spec a b ha hA) rfl rfl) ?_
  simp (disch := first | omega | (simp <;> omega) | fail) [wrap_i64, wrap_u64, wrap_u8']
  refine HT.ret ?_
  simp (disch := first | omega | (simp <;> omega) | fail) [wrap_i64, wrap_u64, wrap_u8']
set_option maxHeartbeats 2000000 in
set_option maxRecDepth 20000 in
theorem postC_spec (a b : Post) (ha : a.docs.length ≤ 140737488355328) (hA : ∀ g ∈ a.docs, g.off.length ≤ 140737488355328) : Spec1 Tryz.prog 52 [.agg a.enc, .agg b.enc] (bo (decide (a = b))) := by
  refine Spec1.of_HT Tryz.func52 rfl (by rw [Tryz.ntmps52]; simp) rfl ?_
  rw [Tryz.ntmps52]
  refine HT.seq ?_
  refine HT.region ?_   -- R0
  simp (disch := first | omega | (simp <;> omega) | fail) [wrap_i64, wrap_u64, wrap_u8']
  refine HT.seq ?_
  by_cases d1 : ¬ a.code = b.code
  · skip
    refine HT.region ?_   -- R1
    simp (disch := first | omega | (simp <;> omega) | fail) [wrap_i64, wrap_u64, wrap_u8']
    refine HT.ret ?_
    first | (have hx : (a = b) = False := eq_false (by rw [post_iff]; exact fun h => d1 h.1); simp (disch := first | omega | (simp <;> omega) | fail) [wrap_i64, wrap_u64, wrap_u8', hx]; done) | (have hx : (a = b) = (a.docs = b.docs) := (by rw [post_iff]; simp [Classical.not_not.1 d1]); simp (disch := first | omega | (simp <;> omega) | fail) [wrap_i64, wrap_u64, wrap_u8', hx]; done)
  refine HT.region ?_   -- R1
  simp (disch := first | omega | (simp <;> omega) | fail) [wrap_i64, wrap_u64, wrap_u8']
  refine stepK.mk (.call1 _ _ _ _ rfl Ty.hb53 rfl (sameAt_spec a.docs b.docs ha hA) rfl rfl) ?_
  simp (disch := first | omega | (simp <;> omega) | fail) [wrap_i64, wrap_u64, wrap_u8']
  refine HT.ret ?_
  first | (have hx : (a = b) = False := eq_false (by rw [post_iff]; exact fun h => d1 h.1); simp (disch := first | omega | (simp <;> omega) | fail) [wrap_i64, wrap_u64, wrap_u8', hx]; done) | (have hx : (a = b) = (a.docs = b.docs) := (by rw [post_iff]; simp [Classical.not_not.1 d1]); simp (disch := first | omega | (simp <;> omega) | fail) [wrap_i64, wrap_u64, wrap_u8', hx]; done)
set_option maxHeartbeats 2000000 in
set_option maxRecDepth 20000 in
theorem eqfP_spec (a b : List Post) (ha : a.length ≤ 140737488355328) (hA : ∀ p ∈ a, p.docs.length ≤ 140737488355328 ∧ ∀ g ∈ p.docs, g.off.length ≤ 140737488355328) : Spec1 Tryz.prog 51 [.sl 2 false (postsHV a), .sl 2 false (postsHV b), .fn (.func 52) []] (bo (decide (a = b))) := by
  refine Spec1.of_HT Tryz.func51 rfl (by rw [Tryz.ntmps51]; simp) rfl ?_
  rw [Tryz.ntmps51]
  refine HT.seq ?_
  refine HT.region ?_   -- R0
  simp (disch := first | omega | (simp <;> omega) | fail) [wrap_i64, wrap_u64, wrap_u8']
  refine HT.seq ?_
  refine HT.seq ?_
  by_cases c1 : ¬ a.length = b.length
  · skip
    refine HT.region ?_   -- R1
    simp (disch := first | omega | (simp <;> omega) | fail) [wrap_i64, wrap_u64, wrap_u8']
    refine HT.cond' ?_   -- if 14
    simp (disch := first | omega | (simp <;> omega) | fail) [wrap_i64, wrap_u64, wrap_u8']
    refine HT.seq ?_
    refine HT.region ?_   -- R2
    simp (disch := first | omega | (simp <;> omega) | fail) [wrap_i64, wrap_u64, wrap_u8']
    refine HT.ret ?_
    simp (disch := first | omega | (simp <;> omega) | fail) [wrap_i64, wrap_u64, wrap_u8', ne_len c1]
  refine HT.region ?_   -- R1
  simp (disch := first | omega | (simp <;> omega) | fail) [wrap_i64, wrap_u64, wrap_u8']
  refine HT.cond' ?_   -- if 14
  simp (disch := first | omega | (simp <;> omega) | fail) [wrap_i64, wrap_u64, wrap_u8']
  refine HT.skip ?_
  simp (disch := first | omega | (simp <;> omega) | fail) [wrap_i64, wrap_u64, wrap_u8']
  refine HT.seq ?_
  refine HT.seq ?_
  refine HT.region ?_   -- R3
  simp (disch := first | omega | (simp <;> omega) | fail) [wrap_i64, wrap_u64, wrap_u8']
  refine HT.block ?_
  refine HT.loopK (fun k : {k : Nat // k ≤ a.length ∧ ∀ i, i < k → a[i]? = b[i]?} => [.s 17 (i64 k)]) [1, 2, 15, 16] [] (fun k => a.length - k) (⟨0, by omega, by intro i hi; omega⟩) ?_ ?_   -- block 0 turned [17]
  · simp (disch := first | omega | (simp <;> omega) | fail) [wrap_i64, wrap_u64, wrap_u8']
  rintro ⟨k, hk, hg⟩
  simp (disch := first | omega | (simp <;> omega) | fail) [wrap_i64, wrap_u64, wrap_u8']
  refine HT.seq ?_
  refine HT.region ?_   -- R4
  simp (disch := first | omega | (simp <;> omega) | fail) [wrap_i64, wrap_u64, wrap_u8']
  refine HT.seq ?_
  refine HT.cond' ?_   -- if 18
  simp (disch := first | omega | (simp <;> omega) | fail) [wrap_i64, wrap_u64, wrap_u8']
  refine ⟨fun h18 => ?_, fun h18 => ?_⟩
  · skip
    have hk' : k < a.length := by omega
    have hkb : k < b.length := by omega
    have hAk := hA _ (List.getElem_mem hk')
    refine HT.skip ?_
    simp (disch := first | omega | (simp <;> omega) | fail) [wrap_i64, wrap_u64, wrap_u8']
    refine HT.seq ?_
    refine HT.block ?_
    refine HT.seq ?_
    refine HT.region ?_   -- R5
    simp (disch := first | omega | (simp <;> omega) | fail) [wrap_i64, wrap_u64, wrap_u8']
    refine HT.seq ?_
    refine HT.region ?_   -- R6
    simp (disch := first | omega | (simp <;> omega) | fail) [wrap_i64, wrap_u64, wrap_u8']
    refine HT.seq ?_
    by_cases d1 : ¬ a[k] = b[k]
    · skip
      have hq := eq_false d1
      refine HT.region ?_   -- R7
      simp (disch := first | omega | (simp <;> omega) | fail) [wrap_i64, wrap_u64, wrap_u8']
      refine stepK.mk (.call1 _ _ _ _ rfl Ty.hb52 rfl (postC_spec a[k] b[k] hAk.1 hAk.2) rfl rfl) ?_
      simp (disch := first | omega | (simp <;> omega) | fail) [wrap_i64, wrap_u64, wrap_u8', hq]
      refine HT.cond' ?_   -- if 30
      simp (disch := first | omega | (simp <;> omega) | fail) [wrap_i64, wrap_u64, wrap_u8']
      refine HT.seq ?_
      refine HT.region ?_   -- R8
      simp (disch := first | omega | (simp <;> omega) | fail) [wrap_i64, wrap_u64, wrap_u8']
      refine HT.ret ?_
      simp (disch := first | omega | (simp <;> omega) | fail) [wrap_i64, wrap_u64, wrap_u8', ne_at hk' hkb d1]
    rw [Classical.not_not] at d1
    have hq := eq_true d1
    refine HT.region ?_   -- R7
    simp (disch := first | omega | (simp <;> omega) | fail) [wrap_i64, wrap_u64, wrap_u8']
    refine stepK.mk (.call1 _ _ _ _ rfl Ty.hb52 rfl (postC_spec a[k] b[k] hAk.1 hAk.2) rfl rfl) ?_
    simp (disch := first | omega | (simp <;> omega) | fail) [wrap_i64, wrap_u64, wrap_u8', hq]
    refine HT.cond' ?_   -- if 30
    simp (disch := first | omega | (simp <;> omega) | fail) [wrap_i64, wrap_u64, wrap_u8']
    refine HT.skip ?_
    simp (disch := first | omega | (simp <;> omega) | fail) [wrap_i64, wrap_u64, wrap_u8']
    refine HT.region ?_   -- R9
    simp (disch := first | omega | (simp <;> omega) | fail) [wrap_i64, wrap_u64, wrap_u8']
    refine Round.mk' (⟨k + 1, by omega, agreeX hg (by rw [List.getElem?_eq_getElem hk', List.getElem?_eq_getElem hkb, d1])⟩) (by dsimp only; omega) rfl ?_
    simp (disch := first | omega | (simp <;> omega) | fail) [wrap_i64, wrap_u64, wrap_u8']
  · skip
    obtain rfl : k = a.length := by omega
    refine HT.exit ?_
    simp (disch := first | omega | (simp <;> omega) | fail) [wrap_i64, wrap_u64, wrap_u8']
    refine HT.seq ?_
    refine HT.region ?_   -- R10
    simp (disch := first | omega | (simp <;> omega) | fail) [wrap_i64, wrap_u64, wrap_u8']
    refine HT.ret ?_
    have hx : a = b := extX (by omega) hg
    simp (disch := first | omega | (simp <;> omega) | fail) [wrap_i64, wrap_u64, wrap_u8', hx]
end Go.Hv
set_option linter.unusedVariables false
set_option linter.unusedSimpArgs false
namespace Go.Hv
open Go Go.Hv Go.Proofs Go.RowKit
open Go.Proofs.YtlbmbnpknobjdaaGreatDoor
set_option maxHeartbeats 4000000 in
set_option maxRecDepth 20000 in
theorem dSame_spec (a b : List Doc) (ha : a.length ≤ 1000000) (hA : ∀ d ∈ a, DocQ d) (hB : ∀ d ∈ b, DocQ d) : Spec1 Tryz.prog 50 [.sl 5 false (docsHV a), .sl 5 false (docsHV b)] (bo (decide (a = b))) := by
  refine Spec1.of_HT Tryz.func50 rfl (by rw [Tryz.ntmps50]; simp) rfl ?_
  rw [Tryz.ntmps50]
  refine HT.seq ?_
  refine HT.region ?_   -- R0
  simp (disch := first | omega | (simp <;> omega) | fail) [wrap_i64, wrap_u64, wrap_u8']
  refine HT.seq ?_
  refine HT.seq ?_
  by_cases c1 : ¬ a.length = b.length
  · skip
    refine HT.region ?_   -- R1
    simp (disch := first | omega | (simp <;> omega) | fail) [wrap_i64, wrap_u64, wrap_u8']
    refine HT.cond' ?_   -- if 11
    simp (disch := first | omega | (simp <;> omega) | fail) [wrap_i64, wrap_u64, wrap_u8']
    refine HT.seq ?_
    refine HT.region ?_   -- R2
    simp (disch := first | omega | (simp <;> omega) | fail) [wrap_i64, wrap_u64, wrap_u8']
    refine HT.ret ?_
    simp (disch := first | omega | (simp <;> omega) | fail) [wrap_i64, wrap_u64, wrap_u8', ne_len c1]
  refine HT.region ?_   -- R1
  simp (disch := first | omega | (simp <;> omega) | fail) [wrap_i64, wrap_u64, wrap_u8']
  refine HT.cond' ?_   -- if 11
  simp (disch := first | omega | (simp <;> omega) | fail) [wrap_i64, wrap_u64, wrap_u8']
  refine HT.skip ?_
  simp (disch := first | omega | (simp <;> omega) | fail) [wrap_i64, wrap_u64, wrap_u8']
  refine HT.seq ?_
  refine HT.seq ?_
  refine HT.region ?_   -- R3
  simp (disch := first | omega | (simp <;> omega) | fail) [wrap_i64, wrap_u64, wrap_u8']
  refine HT.block ?_
  refine HT.loopK (fun k : {k : Nat // k ≤ a.length ∧ ∀ i, i < k → a[i]? = b[i]?} => [.s 14 (i64 k)]) [1, 12, 13] [] (fun k => a.length - k) (⟨0, by omega, by intro i hi; omega⟩) ?_ ?_   -- block 0 turned [14, 28, 29, 30, 31, 32, 33, 34, 35, 38, 39, 40, 41, 42, 43, 44, 45, 46]
  · simp (disch := first | omega | (simp <;> omega) | fail) [wrap_i64, wrap_u64, wrap_u8']
  rintro ⟨k, hk, hg⟩
  simp (disch := first | omega | (simp <;> omega) | fail) [wrap_i64, wrap_u64, wrap_u8']
  refine HT.seq ?_
  refine HT.region ?_   -- R4
  simp (disch := first | omega | (simp <;> omega) | fail) [wrap_i64, wrap_u64, wrap_u8']
  refine HT.seq ?_
  refine HT.cond' ?_   -- if 15
  simp (disch := first | omega | (simp <;> omega) | fail) [wrap_i64, wrap_u64, wrap_u8']
  refine ⟨fun h15 => ?_, fun h15 => ?_⟩
  · skip
    have hk' : k < a.length := by omega
    have hkb : k < b.length := by omega
    have hAk := hA _ (List.getElem_mem hk')
    have hBk := hB _ (List.getElem_mem hkb)
    have hke : aggEq Tryz.prog 81 [.str a[k].repo, .str a[k].path, .str a[k].text] [.str b[k].repo, .str b[k].path, .str b[k].text] = some (decide (keyV a[k] = keyV b[k])) := aggEq85 hAk.kb hBk.kb
    have hon := hAk.2.2.2.1
    refine HT.skip ?_
    simp (disch := first | omega | (simp <;> omega) | fail) [wrap_i64, wrap_u64, wrap_u8']
    refine HT.seq ?_
    refine HT.block ?_
    refine HT.seq ?_
    refine HT.region ?_   -- R5
    simp (disch := first | omega | (simp <;> omega) | fail) [wrap_i64, wrap_u64, wrap_u8']
    refine HT.seq ?_
    by_cases d1 : ¬ a[k].id = b[k].id
    · skip
      refine HT.draw [.batch [0, 1, 2, 3, 4, 5, 6, 7, 8, 9, 10, 11, 12, 13, 14, 15, 16, 17, 18, 19, 20, 21, 22, 23, 24, 25, 26, 27, 28]] (by kernel_rfl) ?_   -- R6
      simp -dsimp (disch := first | omega | (simp <;> omega) | fail) [wrap_i64, wrap_u64, wrap_u8']
      refine HT.cond' ?_   -- if 47
      simp (disch := first | omega | (simp <;> omega) | fail) [wrap_i64, wrap_u64, wrap_u8']
      refine HT.seq ?_
      refine HT.region ?_   -- R7
      simp (disch := first | omega | (simp <;> omega) | fail) [wrap_i64, wrap_u64, wrap_u8']
      refine HT.ret ?_
      have hx : ¬ a = b := ne_at hk' hkb (fun h => by first | exact d1 (by rw [h]) | exact d2 (by rw [h]) | exact d3 (by rw [h]))
      simp (disch := first | omega | (simp <;> omega) | fail) [wrap_i64, wrap_u64, wrap_u8', hx]
    rw [Classical.not_not] at d1
    by_cases d2 : ¬ keyV a[k] = keyV b[k]
    · skip
      have hq2 := eq_false d2
      refine HT.draw [.batch [0, 1, 2, 3, 4, 5, 6, 7, 8, 9, 10, 11, 12, 13, 14, 15, 16, 17, 18, 19, 20, 21, 22, 23, 24, 25, 26, 27, 28]] (by kernel_rfl) ?_   -- R6
      simp -dsimp (disch := first | omega | (simp <;> omega) | fail) [wrap_i64, wrap_u64, wrap_u8', hke, hq2]
      refine stepK.mk (.call1 _ _ _ rfl Ty.hb73 rfl rfl (key_spec a[k])) ?_
      simp -dsimp (disch := first | omega | (simp <;> omega) | fail) [wrap_i64, wrap_u64, wrap_u8', hke, hq2]
      refine stepK.mk (.call1 _ _ _ rfl Ty.hb73 rfl rfl (key_spec b[k])) ?_
      simp -dsimp (disch := first | omega | (simp <;> omega) | fail) [wrap_i64, wrap_u64, wrap_u8', hke, hq2]
      refine HT.cond' ?_   -- if 47
      simp (disch := first | omega | (simp <;> omega) | fail) [wrap_i64, wrap_u64, wrap_u8']
      refine HT.seq ?_
      refine HT.region ?_   -- R7
      simp (disch := first | omega | (simp <;> omega) | fail) [wrap_i64, wrap_u64, wrap_u8']
      refine HT.ret ?_
      have hx : ¬ a = b := ne_at hk' hkb (fun h => by first | exact d1 (by rw [h]) | exact d2 (by rw [h]) | exact d3 (by rw [h]))
      simp (disch := first | omega | (simp <;> omega) | fail) [wrap_i64, wrap_u64, wrap_u8', hx]
    rw [Classical.not_not] at d2
    have hq2 := eq_true d2
    by_cases d3 : ¬ a[k].on = b[k].on
    · skip
      have hq := eq_false d3
      refine HT.draw [.batch [0, 1, 2, 3, 4, 5, 6, 7, 8, 9, 10, 11, 12, 13, 14, 15, 16, 17, 18, 19, 20, 21, 22, 23, 24, 25, 26, 27, 28]] (by kernel_rfl) ?_   -- R6
      simp -dsimp (disch := first | omega | (simp <;> omega) | fail) [wrap_i64, wrap_u64, wrap_u8', hke, hq2]
      refine stepK.mk (.call1 _ _ _ rfl Ty.hb73 rfl rfl (key_spec a[k])) ?_
      simp -dsimp (disch := first | omega | (simp <;> omega) | fail) [wrap_i64, wrap_u64, wrap_u8', hke, hq2]
      refine stepK.mk (.call1 _ _ _ rfl Ty.hb73 rfl rfl (key_spec b[k])) ?_
      simp -dsimp (disch := first | omega | (simp <;> omega) | fail) [wrap_i64, wrap_u64, wrap_u8', hke, hq2]
      refine stepK.mk (.call1 _ _ _ rfl Ty.hb81 rfl rfl (EqS_spec a[k].on b[k].on (by omega))) ?_
      simp -dsimp (disch := first | omega | (simp <;> omega) | fail) [wrap_i64, wrap_u64, wrap_u8', hke, hq2, hq]
      refine HT.cond' ?_   -- if 47
      simp (disch := first | omega | (simp <;> omega) | fail) [wrap_i64, wrap_u64, wrap_u8']
      refine HT.seq ?_
      refine HT.region ?_   -- R7
      simp (disch := first | omega | (simp <;> omega) | fail) [wrap_i64, wrap_u64, wrap_u8']
      refine HT.ret ?_
      have hx : ¬ a = b := ne_at hk' hkb (fun h => by first | exact d1 (by rw [h]) | exact d2 (by rw [h]) | exact d3 (by rw [h]))
      simp (disch := first | omega | (simp <;> omega) | fail) [wrap_i64, wrap_u64, wrap_u8', hx]
    rw [Classical.not_not] at d3
    have hq := eq_true d3
    refine HT.draw [.batch [0, 1, 2, 3, 4, 5, 6, 7, 8, 9, 10, 11, 12, 13, 14, 15, 16, 17, 18, 19, 20, 21, 22, 23, 24, 25, 26, 27, 28]] (by kernel_rfl) ?_   -- R6
    simp -dsimp (disch := first | omega | (simp <;> omega) | fail) [wrap_i64, wrap_u64, wrap_u8', hke, hq2]
    refine stepK.mk (.call1 _ _ _ rfl Ty.hb73 rfl rfl (key_spec a[k])) ?_
    simp -dsimp (disch := first | omega | (simp <;> omega) | fail) [wrap_i64, wrap_u64, wrap_u8', hke, hq2]
    refine stepK.mk (.call1 _ _ _ rfl Ty.hb73 rfl rfl (key_spec b[k])) ?_
    simp -dsimp (disch := first | omega | (simp <;> omega) | fail) [wrap_i64, wrap_u64, wrap_u8', hke, hq2]
    refine stepK.mk (.call1 _ _ _ rfl Ty.hb81 rfl rfl (EqS_spec a[k].on b[k].on (by omega))) ?_
    simp -dsimp (disch := first | omega | (simp <;> omega) | fail) [wrap_i64, wrap_u64, wrap_u8', hke, hq2, hq]
    refine HT.cond' ?_   -- if 47
    simp (disch := first | omega | (simp <;> omega) | fail) [wrap_i64, wrap_u64, wrap_u8']
    refine HT.skip ?_
    simp (disch := first | omega | (simp <;> omega) | fail) [wrap_i64, wrap_u64, wrap_u8']
    refine HT.region ?_   -- R8
    simp (disch := first | omega | (simp <;> omega) | fail) [wrap_i64, wrap_u64, wrap_u8']
    refine Round.mk' (⟨k + 1, by omega, agreeX hg (by rw [List.getElem?_eq_getElem hk', List.getElem?_eq_getElem hkb, (doc_eq d1 d2).mpr d3])⟩) (by dsimp only; omega) rfl ?_
    simp (disch := first | omega | (simp <;> omega) | fail) [wrap_i64, wrap_u64, wrap_u8']
  · skip
    obtain rfl : k = a.length := by omega
    refine HT.exit ?_
    simp (disch := first | omega | (simp <;> omega) | fail) [wrap_i64, wrap_u64, wrap_u8']
    refine HT.seq ?_
    refine HT.region ?_   -- R9
    simp (disch := first | omega | (simp <;> omega) | fail) [wrap_i64, wrap_u64, wrap_u8']
    refine HT.ret ?_
    have hx : a = b := extX (by omega) hg
    simp (disch := first | omega | (simp <;> omega) | fail) [wrap_i64, wrap_u64, wrap_u8', hx]
set_option maxRecDepth 20000 in
set_option maxHeartbeats 2000000 in
theorem sSame_spec (a b : Seg) (ha : SegQ a) (hb : SegQ b) : Spec1 Tryz.prog 20 [.agg a.enc, .agg b.enc] (bo (decide (a = b))) := by
  refine Spec1.of_HT Tryz.func20 rfl (by rw [Tryz.ntmps20]; simp) rfl ?_
  rw [Tryz.ntmps20]
  refine HT.seq ?_
  refine HT.region ?_   -- R0
  simp (disch := first | omega | (simp <;> omega) | fail) [wrap_i64, wrap_u64, wrap_u8']
  refine HT.seq ?_
  by_cases d1 : ¬ a.docs = b.docs
  · skip
    have hq := eq_false d1
    refine HT.region ?_   -- R1
    simp (disch := first | omega | (simp <;> omega) | fail) [wrap_i64, wrap_u64, wrap_u8', hq]
    refine stepK.mk (.call1 _ _ _ _ rfl Ty.hb50 rfl (dSame_spec a.docs b.docs ha.1 ha.2.1 hb.2.1) rfl rfl) ?_
    simp (disch := first | omega | (simp <;> omega) | fail) [wrap_i64, wrap_u64, wrap_u8', hq, hq]
    refine HT.ret ?_
    simp (disch := first | omega | (simp <;> omega) | fail) [wrap_i64, wrap_u64, wrap_u8', seg_eq, hq]
  rw [Classical.not_not] at d1
  have hq := eq_true d1
  refine HT.region ?_   -- R1
  simp (disch := first | omega | (simp <;> omega) | fail) [wrap_i64, wrap_u64, wrap_u8', hq]
  refine stepK.mk (.call1 _ _ _ _ rfl Ty.hb50 rfl (dSame_spec a.docs b.docs ha.1 ha.2.1 hb.2.1) rfl rfl) ?_
  simp (disch := first | omega | (simp <;> omega) | fail) [wrap_i64, wrap_u64, wrap_u8', hq, hq]
  refine stepK.mk (.call1 _ _ _ _ rfl Ty.hb51 rfl (eqfP_spec a.grams b.grams (by have := ha.2.2.1; omega) (fun p hp => ⟨by have := (ha.2.2.2 p hp).1; omega, fun g hg => by have := (ha.2.2.2 p hp).2 g hg; omega⟩)) rfl rfl) ?_
  simp (disch := first | omega | (simp <;> omega) | fail) [wrap_i64, wrap_u64, wrap_u8', hq]
  refine HT.ret ?_
  simp (disch := first | omega | (simp <;> omega) | fail) [wrap_i64, wrap_u64, wrap_u8', seg_eq, hq]
end Go.Hv
set_option linter.unusedVariables false
set_option linter.unusedSimpArgs false
namespace Go.Hv
open Go Go.Hv Go.Proofs Go.RowKit
open Go.Proofs.YtlbmbnpknobjdaaGreatDoor
theorem Spec1.tell {P : Program} {f : FuncId} {args : List HV} {h h' : HV} (s : Spec1 P f args h) (hle : HLe h h') : Spec1 P f args h' :=
  fun D w vs hD hG hn hrep => (s D w vs hD hG hn hrep).mono fun e w' ⟨v, h1, h2, h3⟩ => ⟨v, h1, h2, hle _ _ _ h3⟩
end Go.Hv
set_option linter.unusedVariables false
set_option linter.unusedSimpArgs false
namespace Go.Hv
open Go Go.Hv Go.Proofs Go.RowKit
open Go.Proofs.YtlbmbnpknobjdaaGreatDoor
end Go.Hv
set_option linter.unusedVariables false
set_option linter.unusedSimpArgs false
namespace Go.Hv
open Go Go.Hv Go.Proofs Go.RowKit
open Go.Proofs.YtlbmbnpknobjdaaGreatDoor
theorem DocQ.up {d : Doc} (h : DocQ d) : DocB 140737488355328 d := ⟨by have := h.1; omega, by have := h.2.1; omega, by have := h.2.2.1; omega, by have := h.2.2.2.1; omega, fun s hs => by have := h.2.2.2.2 s hs; omega⟩
set_option maxRecDepth 20000 in
set_option maxHeartbeats 4000000 in
theorem SRight_of (s : Seg) (hs : SegQ s) (hq : SegQ (buildV s.docs).1) (hB : ∀ l : List Doc, DocsB 140737488355328 l → SpecT Tryz.prog 12 [.sl 5 false (docsHV l)] [.agg (buildV l).1.enc, i64 (buildV l).2]) : Spec1 Tryz.prog 15 [.agg s.enc] (bo (decide ((buildV s.docs).2 = 0 ∧ s = (buildV s.docs).1))) := by
  have hs1 := hs.1
  refine Spec1.of_HT Tryz.func15 rfl (by rw [Tryz.ntmps15]; simp) rfl ?_
  rw [Tryz.ntmps15]
  refine HT.seq ?_
  refine HT.region ?_   -- R0
  simp (disch := first | omega | (simp <;> omega) | fail) [wrap_i64, wrap_u64, wrap_u8']
  refine HT.seq ?_
  refine HT.region ?_   -- R1
  simp (disch := first | omega | (simp <;> omega) | fail) [wrap_i64, wrap_u64, wrap_u8']
  refine stepK.mk (.callTf _ _ _ _ _ rfl Ty.hb12 rfl rfl (hB s.docs ⟨by omega, fun d hd => (hs.2.1 d hd).up⟩) rfl) ?_
  simp (disch := first | omega | (simp <;> omega) | fail) [wrap_i64, wrap_u64, wrap_u8']
  refine HT.seq ?_
  by_cases c1 : ¬ (buildV s.docs).2 = 0
  · skip
    refine HT.region ?_   -- R2
    simp (disch := first | omega | (simp <;> omega) | fail) [wrap_i64, wrap_u64, wrap_u8', c1]
    refine HT.ret ?_
    simp (disch := first | omega | (simp <;> omega) | fail) [wrap_i64, wrap_u64, wrap_u8', c1]
  rw [Classical.not_not] at c1
  refine HT.region ?_   -- R2
  simp (disch := first | omega | (simp <;> omega) | fail) [wrap_i64, wrap_u64, wrap_u8', c1]
  refine stepK.mk (.call1f _ _ _ _ _ rfl Ty.hb20 rfl rfl (sSame_spec s (buildV s.docs).1 hs hq) rfl) ?_
  simp (disch := first | omega | (simp <;> omega) | fail) [wrap_i64, wrap_u64, wrap_u8', c1]
  refine HT.ret ?_
  simp (disch := first | omega | (simp <;> omega) | fail) [wrap_i64, wrap_u64, wrap_u8', c1]
end Go.Hv
set_option linter.unusedVariables false
set_option linter.unusedSimpArgs false
/- The sizes of what Build returns, and the segments that the laws build (layer 29). -/
namespace Go.Hv
open Go Go.Hv Go.Proofs Go.RowKit
open Go.Proofs.YtlbmbnpknobjdaaGreatDoor
def PostsB (n : Nat) (l : List Post) : Prop := l.length ≤ n ∧ ∀ p ∈ l, p.docs.length ≤ n ∧ ∀ g ∈ p.docs, g.off.length ≤ n
theorem check_zero {d : Doc} (h : checkV d = 0) : nameV d.repo = true ∧ pathV d.path = true ∧ textV d.text = true := by
  unfold checkV at h
  split at h
  · cases h
  · next h1 => simpa [and_assoc] using h1
theorem right_docQ {l : List Doc} {B : Nat} (h : rightV l = 0) (hl : DocsB 140737488355328 l) : l.length ≤ 64 ∧ (∀ d ∈ l, DocQ d) ∧ TxtB l := by
  obtain ⟨h1, _, _, h4, _⟩ := (rightV_zero l).1 h
  refine ⟨h1, fun d hd => ?_, right_txt h⟩
  obtain ⟨a, b, c⟩ := check_zero (h4 d hd).2
  have ht := (right_txt h).2 d hd
  unfold nameV at a
  simp only [pathV, Bool.and_eq_true, decide_eq_true_eq] at a b
  have hb := hl.2 d hd
  exact ⟨by have := a.1.1; omega, by have := b.1; omega, by omega, hb.2.2.2.1, hb.2.2.2.2⟩
theorem offV_length (s : List UInt8) (c : Int) : (offV s c).length ≤ s.length := by
  unfold offV
  have := offK_length s (s.length - 2) c
  omega
theorem postV_length (l : List Doc) (c : Int) : (postV l c).length ≤ l.length := by
  have := postV_len l l.length c
  rwa [List.take_length] at this
theorem postV_off {l : List Doc} {c : Int} (hl : TxtB l) {g : Gram} (h : g ∈ postV l c) : g.off.length ≤ 2000 := by
  unfold postV at h
  obtain ⟨d, hd, rfl⟩ := List.mem_map.1 (List.mem_filter.1 h).1
  have := offV_length d.text c
  have := hl.2 d hd
  show (offV d.text c).length ≤ _
  omega
theorem gramsOf_B {l : List Doc} (hl : TxtB l) : PostsB 128000 (gramsOf l) := by
  refine ⟨?_, fun p hp => ?_⟩
  · have h1 := codesV_len hl l.length (Nat.le_refl _)
    rw [List.take_length] at h1
    rw [gramsOf_length]
    have := hl.1
    omega
  · obtain ⟨c, _, rfl⟩ := List.mem_map.1 hp
    refine ⟨?_, fun g hg => ?_⟩
    · have := postV_length l c; have := hl.1
      show (postV l c).length ≤ _
      omega
    · have := postV_off hl hg; omega
theorem PostsB.mono {n m : Nat} {l : List Post} (h : PostsB n l) (hnm : n ≤ m) : PostsB m l := ⟨by have := h.1; omega, fun p hp => ⟨by have := (h.2 p hp).1; omega, fun g hg => by have := (h.2 p hp).2 g hg; omega⟩⟩
theorem seg_Q {l : List Doc} (h : rightV l = 0) (hl : DocsB 140737488355328 l) : SegQ (segV l) := by
  obtain ⟨h1, h2, ht⟩ := right_docQ (B := 0) h hl
  have hp := gramsOf_B ht
  exact ⟨by show l.length ≤ _; omega, h2, by have := hp.1; show (gramsOf l).length ≤ _; omega, fun p hp' => ⟨by have := (hp.2 p hp').1; omega, fun g hg => by have := (hp.2 p hp').2 g hg; omega⟩⟩
theorem empty_Q : SegQ emptySeg := by simp [SegQ, emptySeg]
theorem build_Q {l : List Doc} (hl : DocsB 140737488355328 l) : SegQ (buildV l).1 := by
  by_cases h : rightV l = 0
  · rw [build_yes h]; exact seg_Q h hl
  · rw [build_no h]; exact empty_Q
theorem few_text {l : List Doc} (h : fewV l = true) : l.length ≤ 12 ∧ ∀ d ∈ l, d.text.length ≤ 120 := by
  unfold fewV at h
  rw [Bool.and_eq_true] at h
  refine ⟨of_decide_eq_true h.1, fun d hd => ?_⟩
  have := List.all_eq_true.1 h.2 d hd
  unfold okD at this
  rw [Bool.and_eq_true] at this
  exact (of_decide_eq_true this.1).1
theorem codesP_seg (l : List Doc) : codesP (segV l).grams = codesV l := by
  show (gramsOf l).map Post.code = _
  unfold gramsOf
  rw [List.map_map]
  exact List.map_id _
theorem seg_S {l : List Doc} (h : rightV l = 0) : SegS (segV l) := by
  have hp := gramsOf_B (right_txt h)
  refine ⟨by have := hp.1; show (gramsOf l).length ≤ _; omega, ?_, fun p hm => by have := (hp.2 p hm).1; omega⟩
  rw [codesP_seg]
  exact (codesV_inc l).imp fun h => by omega
theorem seg_T {l : List Doc} (h : rightV l = 0) : SegT (segV l) := ⟨seg_S h, fun p hm x hx => by have := ((gramsOf_B (right_txt h)).2 p hm).2 x hx; omega⟩
theorem seg_size {l : List Doc} (h : rightV l = 0) : sizeV (segV l).grams ≤ 1000000000 := by
  show sizeV (gramsOf l) ≤ _
  rw [sizeV_seg]
  have ht := right_txt h
  have key : ∀ m : List Doc, (∀ d ∈ m, d.text.length ≤ 2000) → (m.map fun d => d.text.length - 2).sum ≤ m.length * 2000 := by
    intro m
    induction m with
    | nil => simp
    | cons d m ih =>
      intro hm
      have := ih fun x hx => hm x (by simp [hx])
      have := hm d (by simp)
      simp only [List.map_cons, List.sum_cons, List.length_cons]
      omega
  have := key l ht.2
  have := ht.1
  omega
end Go.Hv
set_option linter.unusedVariables false
set_option linter.unusedSimpArgs false
/- The laws SegmentBuilds, SegmentChecks, SegmentAsks, given alive (layer 29). -/
namespace Go.Hv
open Go Go.Hv Go.Proofs Go.RowKit
open Go.Proofs.YtlbmbnpknobjdaaGreatDoor
theorem docB_few {l : List Doc} (h : DocsB 140737488355328 l) : ∀ d ∈ l, d.text.length ≤ 140737488355328 ∧ d.on.length ≤ 140737488355328 ∧ d.repo.length ≤ 140737488355328 ∧ d.path.length ≤ 140737488355328 ∧ ∀ s ∈ d.on, s.length ≤ 140737488355328 := fun d hd => by
  have := h.2 d hd
  exact ⟨this.2.2.1, this.2.2.2.1, this.1, this.2.1, this.2.2.2.2⟩
end Go.Hv
set_option linter.unusedVariables false
set_option linter.unusedSectionVars false
set_option linter.unusedSimpArgs false
namespace Go.Hv
open Go Go.Hv
variable [GI]
/-! ### Numbers, strings and grams that are handed in -/
@[reducible] def intsSh : ShT := .sl 1 (.int .i64)
@[reducible] def gramsSh : ShT := .sl 2 (.st [.int .i64, intsSh])
theorem map_choiceF {α β : Type} {f : β → α} {p : β → Prop} : ∀ {es : List α}, (∀ x ∈ es, ∃ d, x = f d ∧ p d) → ∃ l : List β, es = l.map f ∧ ∀ d ∈ l, p d
  | [], _ => ⟨[], rfl, by simp⟩
  | x :: r, h => by
    obtain ⟨d, rfl, hd⟩ := h x (by simp)
    obtain ⟨l, rfl, hl⟩ := map_choiceF (es := r) (f := f) (p := p) (fun y hy => h y (by simp [hy]))
    exact ⟨d :: l, rfl, fun y hy => by rcases List.mem_cons.1 hy with rfl | hy; exact hd; exact hl y hy⟩
theorem rdF_int {B : Nat} {k : IntKind} {x : List HV} (h : RdF B (.int k) x) : ∃ n, x = [.lit (.int k n)] ∧ (Lit.int k n).wf = true := by
  cases h with | int k n hw => exact ⟨n, rfl, hw⟩
theorem rdF_str {B : Nat} {x : List HV} (h : RdF B .str x) : ∃ s, x = [.str s] ∧ s.length ≤ B := by
  cases h with | str l hl => exact ⟨l, rfl, hl⟩
theorem repsF_one {w : World} {dead : Nat → Prop} {c : HV} {v : Value} (h : Reps w dead [c] [v]) : IRep w dead c v := by
  cases h with | cons h1 _ => exact h1
end Go.Hv
set_option linter.unusedVariables false
set_option linter.unusedSimpArgs false
namespace Go.Hv
open Go Go.Hv Go.Proofs
open Go.Proofs.YtlbmbnpknobjdaaGreatDoor
theorem u8_inj (a b : UInt8) : ((a.toNat : Int) = (b.toNat : Int)) = (a = b) := by
  rw [eq_iff_iff, Int.natCast_inj, UInt8.toNat_inj]
def fd (b : Bool) (s : List UInt8) : List UInt8 := if b then foldS s else s
@[simp] theorem fd_length (b : Bool) (s : List UInt8) : (fd b s).length = s.length := by unfold fd; split <;> simp
def occ (s t : List UInt8) (i : Nat) : Bool := decide ((s.drop i).take t.length = t)
def findK (s t : List UInt8) (k : Nat) : List Int := ((List.range k).filter (occ s t)).map fun i : Nat => (i : Int)
theorem findK_succ (s t : List UInt8) (k : Nat) : findK s t (k + 1) = findK s t k ++ if occ s t k = true then [(k : Int)] else [] := by
  unfold findK; rw [List.range_succ, List.filter_append, List.map_append]
  by_cases h : occ s t k = true <;> simp [h]
theorem findK_length (s t : List UInt8) (k : Nat) : (findK s t k).length ≤ k := by
  unfold findK; rw [List.length_map]; have := List.length_filter_le (occ s t) (List.range k); simpa using this
def findV (s t : List UInt8) : List Int := findK s t (s.length + 1 - t.length)
theorem occ_room {s t : List UInt8} {i : Nat} (h : occ s t i = true) : t = [] ∨ i + t.length ≤ s.length := by
  have := congrArg List.length (of_decide_eq_true h)
  simp at this
  by_cases e : t = []
  · exact .inl e
  · have := List.length_pos_iff.2 e
    right; omega
theorem findK_all (s t : List UInt8) : findK s t (s.length + 1) = findV s t := by
  unfold findV
  by_cases e : t = []
  · subst e; rfl
  · have hp := List.length_pos_iff.2 e
    have : ∀ m, findK s t (s.length + 1 - t.length + m) = findK s t (s.length + 1 - t.length) := fun m => by
      induction m with
      | zero => rfl
      | succ m ih =>
        rw [← Nat.add_assoc, findK_succ, ih, if_neg, List.append_nil]
        intro h
        rcases occ_room h with h | h
        · exact e h
        · omega
    by_cases hl : t.length ≤ s.length + 1
    · have := this t.length
      rw [← this]; congr 1; omega
    · have := this (s.length + 1)
      rw [← this]; congr 1; omega
theorem occ_cut (s t u : List UInt8) (k : Nat) (h : u.length = t.length) : (List.drop k (List.take (k + t.length) s) = u) = (occ s u k = true) := by
  unfold occ
  rw [decide_eq_true_iff, List.drop_take, h, Nat.add_sub_cancel_left]
theorem folded_sp (s : List UInt8) (b : Bool) (hs : s.length ≤ 140737488355328) : Spec1 Tryz.prog 90 [.str s, bo b] (.str (fd b s)) := by
  refine Spec1.of_HT Tryz.func90 rfl (by rw [Tryz.ntmps90]; simp) rfl ?_
  rw [Tryz.ntmps90]
  refine HT.seq ?_
  refine HT.region ?_   -- R0
  simp (disch := first | omega | (simp <;> omega) | fail) [wrap_i64, wrap_u64, wrap_u8']
  refine HT.seq ?_
  refine HT.seq ?_
  refine HT.region ?_   -- R1
  simp (disch := first | omega | (simp <;> omega) | fail) [wrap_i64, wrap_u64, wrap_u8']
  refine HT.cond' ?_   -- if 5
  simp (disch := first | omega | (simp <;> omega) | fail) [wrap_i64, wrap_u64, wrap_u8']
  refine ⟨fun h5 => ?_, fun h5 => ?_⟩
  · skip
    refine HT.seq ?_
    refine HT.region ?_   -- R2
    simp (disch := first | omega | (simp <;> omega) | fail) [wrap_i64, wrap_u64, wrap_u8']
    refine stepK.mk (.call1 _ _ _ _ rfl Ty.hb67 rfl (Fold_spec s hs) rfl rfl) ?_
    simp (disch := first | omega | (simp <;> omega) | fail) [wrap_i64, wrap_u64, wrap_u8']
    refine HT.ret ?_
    simp (disch := first | omega | (simp <;> omega) | fail) [wrap_i64, wrap_u64, wrap_u8', fd, h5]
  · skip
    refine HT.skip ?_
    simp (disch := first | omega | (simp <;> omega) | fail) [wrap_i64, wrap_u64, wrap_u8']
    refine HT.seq ?_
    refine HT.region ?_   -- R3
    simp (disch := first | omega | (simp <;> omega) | fail) [wrap_i64, wrap_u64, wrap_u8']
    refine HT.ret ?_
    simp (disch := first | omega | (simp <;> omega) | fail) [wrap_i64, wrap_u64, wrap_u8', fd, h5]
set_option maxHeartbeats 1000000 in
theorem Find_spec (s t : List UInt8) (b : Bool) (hs : s.length ≤ 1000000) (ht : t.length ≤ 1000000) : Spec1 Tryz.prog 59 [.str s, .str t, bo b] (.sl 1 false (intsHV (findV (fd b s) (fd b t)))) := by
  refine Spec1.of_HT Tryz.func59 rfl (by rw [Tryz.ntmps59]; simp) rfl ?_
  rw [Tryz.ntmps59]
  refine HT.seq ?_
  refine HT.region ?_   -- R0
  simp (disch := first | omega | (simp <;> omega) | fail) [wrap_i64, wrap_u64, wrap_u8']
  refine HT.seq ?_
  refine HT.region ?_   -- R1
  simp (disch := first | omega | (simp <;> omega) | fail) [wrap_i64, wrap_u64, wrap_u8']
  refine stepK.mk (.call1 _ _ _ _ rfl Ty.hb90 rfl (folded_sp s b (by omega)) rfl rfl) ?_
  simp (disch := first | omega | (simp <;> omega) | fail) [wrap_i64, wrap_u64, wrap_u8']
  refine stepK.mk (.call1 _ _ _ _ rfl Ty.hb90 rfl (folded_sp t b (by omega)) rfl rfl) ?_
  simp (disch := first | omega | (simp <;> omega) | fail) [wrap_i64, wrap_u64, wrap_u8']
  refine HT.seq ?_
  refine HT.region ?_   -- R2
  simp (disch := first | omega | (simp <;> omega) | fail) [wrap_i64, wrap_u64, wrap_u8']
  refine HT.weaken (HS.le_own (t := 9) 200 3 1 _ (by decide) rfl (by decide)) ?_
  refine HT.seq ?_
  refine HT.seq ?_
  refine HT.region ?_   -- R3
  simp (disch := first | omega | (simp <;> omega) | fail) [wrap_i64, wrap_u64, wrap_u8']
  refine HT.block ?_
  refine HT.loopK (fun k : {k : Nat // k ≤ s.length + 1 - t.length} => [.s 10 (i64 k), .s 9 (.ref 200), .o 200 (.row 3 1 (intsHV (findK (fd b s) (fd b t) k)))]) [7, 8] [] (fun k => s.length + 1 - k) (⟨0, by omega⟩) ?_ ?_   -- block 0 turned [9, 10]
  · simp (disch := first | omega | (simp <;> omega) | fail) [wrap_i64, wrap_u64, wrap_u8', show findK (fd b s) (fd b t) 0 = [] from rfl]
  rintro ⟨k, hk⟩
  simp (disch := first | omega | (simp <;> omega) | fail) [wrap_i64, wrap_u64, wrap_u8']
  refine HT.seq ?_
  refine HT.seq ?_
  refine HT.region ?_   -- R4
  simp (disch := first | omega | (simp <;> omega) | fail) [wrap_i64, wrap_u64, wrap_u8']
  refine HT.cond' ?_   -- if 23
  simp (disch := first | omega | (simp <;> omega) | fail) [wrap_i64, wrap_u64, wrap_u8']
  refine ⟨fun h23 => ?_, fun h23 => ?_⟩
  · skip
    have hk' : k + t.length ≤ s.length := by omega
    have hb := findK_length (fd b s) (fd b t) k
    refine HT.skip ?_
    simp (disch := first | omega | (simp <;> omega) | fail) [wrap_i64, wrap_u64, wrap_u8']
    refine HT.seq ?_
    refine HT.block ?_
    refine HT.seq ?_
    by_cases c1 : occ (fd b s) (fd b t) k = true
    · skip
      refine HT.region ?_   -- R6
      simp (disch := first | omega | (simp <;> omega) | fail) [wrap_i64, wrap_u64, wrap_u8', occ_cut (fd b s) t (fd b t) k (by simp), c1]
      refine HT.cond' ?_   -- if 34
      simp (disch := first | omega | (simp <;> omega) | fail) [wrap_i64, wrap_u64, wrap_u8']
      refine HT.region ?_   -- R7
      simp (disch := first | omega | (simp <;> omega) | fail) [wrap_i64, wrap_u64, wrap_u8']
      refine HT.region ?_   -- R5
      simp (disch := first | omega | (simp <;> omega) | fail) [wrap_i64, wrap_u64, wrap_u8']
      refine Round.mk' (⟨k + 1, by omega⟩) (by dsimp only; omega) rfl ?_
      simp (disch := first | omega | (simp <;> omega) | fail) [wrap_i64, wrap_u64, wrap_u8', findK_succ, c1]
    refine HT.region ?_   -- R6
    simp (disch := first | omega | (simp <;> omega) | fail) [wrap_i64, wrap_u64, wrap_u8', occ_cut (fd b s) t (fd b t) k (by simp), c1]
    refine HT.cond' ?_   -- if 34
    simp (disch := first | omega | (simp <;> omega) | fail) [wrap_i64, wrap_u64, wrap_u8']
    refine HT.skip ?_
    simp (disch := first | omega | (simp <;> omega) | fail) [wrap_i64, wrap_u64, wrap_u8']
    refine HT.region ?_   -- R5
    simp (disch := first | omega | (simp <;> omega) | fail) [wrap_i64, wrap_u64, wrap_u8']
    refine Round.mk' (⟨k + 1, by omega⟩) (by dsimp only; omega) rfl ?_
    simp (disch := first | omega | (simp <;> omega) | fail) [wrap_i64, wrap_u64, wrap_u8', findK_succ, c1]
  · skip
    obtain rfl : k = s.length + 1 - t.length := by omega
    have e0 : findV (fd b s) (fd b t) = findK (fd b s) (fd b t) (s.length + 1 - t.length) := by simp [findV]
    refine HT.exit ?_
    simp (disch := first | omega | (simp <;> omega) | fail) [wrap_i64, wrap_u64, wrap_u8']
    refine HT.seq ?_
    refine HT.region ?_   -- R8
    simp (disch := first | omega | (simp <;> omega) | fail) [wrap_i64, wrap_u64, wrap_u8']
    refine HT.ret ?_
    simp (disch := first | omega | (simp <;> omega) | fail) [wrap_i64, wrap_u64, wrap_u8', e0]
theorem FoldByte_spec (c : UInt8) : Spec1 Tryz.prog 129 [u8 c] (u8 (foldB c)) := by
  refine Spec1.of_HT Tryz.func129 rfl (by rw [Tryz.ntmps129]; simp) rfl ?_
  rw [Tryz.ntmps129]
  refine HT.seq ?_
  refine HT.region ?_   -- R0
  simp (disch := first | omega | (simp <;> omega) | fail) [wrap_i64, wrap_u64, wrap_u8']
  refine HT.seq ?_
  refine HT.seq ?_
  by_cases c1 : (c.toNat : Int) < 65
  · skip
    refine HT.region ?_   -- R1
    simp (disch := first | omega | (simp <;> omega) | fail) [wrap_i64, wrap_u64, wrap_u8']
    refine HT.cond' ?_   -- if 8
    simp (disch := first | omega | (simp <;> omega) | fail) [wrap_i64, wrap_u64, wrap_u8']
    refine HT.skip ?_
    simp (disch := first | omega | (simp <;> omega) | fail) [wrap_i64, wrap_u64, wrap_u8']
    refine HT.seq ?_
    refine HT.region ?_   -- R3
    simp (disch := first | omega | (simp <;> omega) | fail) [wrap_i64, wrap_u64, wrap_u8']
    refine HT.ret ?_
    first | (simp (disch := first | omega | (simp <;> omega) | fail) [wrap_i64, wrap_u64, wrap_u8', foldB_lo, foldB_hi]; done) | (simp (disch := first | omega | (simp <;> omega) | fail) [wrap_i64, wrap_u64, wrap_u8', foldB_mid] <;> omega)
  by_cases c2 : 90 < (c.toNat : Int)
  · skip
    refine HT.region ?_   -- R1
    simp (disch := first | omega | (simp <;> omega) | fail) [wrap_i64, wrap_u64, wrap_u8']
    refine HT.cond' ?_   -- if 8
    simp (disch := first | omega | (simp <;> omega) | fail) [wrap_i64, wrap_u64, wrap_u8']
    refine HT.skip ?_
    simp (disch := first | omega | (simp <;> omega) | fail) [wrap_i64, wrap_u64, wrap_u8']
    refine HT.seq ?_
    refine HT.region ?_   -- R3
    simp (disch := first | omega | (simp <;> omega) | fail) [wrap_i64, wrap_u64, wrap_u8']
    refine HT.ret ?_
    first | (simp (disch := first | omega | (simp <;> omega) | fail) [wrap_i64, wrap_u64, wrap_u8', foldB_lo, foldB_hi]; done) | (simp (disch := first | omega | (simp <;> omega) | fail) [wrap_i64, wrap_u64, wrap_u8', foldB_mid] <;> omega)
  refine HT.region ?_   -- R1
  simp (disch := first | omega | (simp <;> omega) | fail) [wrap_i64, wrap_u64, wrap_u8']
  refine HT.cond' ?_   -- if 8
  simp (disch := first | omega | (simp <;> omega) | fail) [wrap_i64, wrap_u64, wrap_u8']
  refine HT.seq ?_
  refine HT.region ?_   -- R2
  simp (disch := first | omega | (simp <;> omega) | fail) [wrap_i64, wrap_u64, wrap_u8']
  refine HT.ret ?_
  first | (simp (disch := first | omega | (simp <;> omega) | fail) [wrap_i64, wrap_u64, wrap_u8', foldB_lo, foldB_hi]; done) | (simp (disch := first | omega | (simp <;> omega) | fail) [wrap_i64, wrap_u64, wrap_u8', foldB_mid] <;> omega)
def agree (b : Bool) (s t : List UInt8) (i k : Nat) : Prop := ∀ j, j < k → (fd b s)[i + j]? = (fd b t)[j]?
theorem occ_iff (s t : List UInt8) (i : Nat) : occ s t i = true ↔ (i + t.length ≤ s.length ∨ t = []) ∧ ∀ j, j < t.length → s[i + j]? = t[j]? := by
  unfold occ
  rw [decide_eq_true_iff]
  constructor
  · intro h
    refine ⟨?_, fun j hj => ?_⟩
    · have := congrArg List.length h
      simp at this
      by_cases e : t = []
      · exact .inr e
      · have := List.length_pos_iff.2 e; left; omega
    · conv => rhs; rw [← h]
      rw [List.getElem?_take_of_lt hj, List.getElem?_drop]
  · rintro ⟨h1, h2⟩
    apply List.ext_getElem?
    intro j
    by_cases hj : j < t.length
    · rw [List.getElem?_take_of_lt hj, List.getElem?_drop, h2 j hj]
    · rw [List.getElem?_eq_none (by rw [List.length_take]; omega), List.getElem?_eq_none (by omega)]
theorem fd_get (b : Bool) {s : List UInt8} {i : Nat} (h : i < s.length) : (fd b s)[i]? = some (if b then foldB s[i] else s[i]) := by
  unfold fd
  cases b <;> simp [foldS, h]
theorem agree_step {b : Bool} {s t : List UInt8} {i k : Nat} (hg : agree b s t i k) (h : (fd b s)[i + k]? = (fd b t)[k]?) : agree b s t i (k + 1) := fun j hj => by
  rcases Nat.lt_or_ge j k with h1 | h1
  · exact hg j h1
  · obtain rfl : j = k := by omega
    exact h
theorem occ_no {b : Bool} {s t : List UInt8} {i k : Nat} (hk : k < t.length) (hr : i + k < s.length) (h : ¬ (if b then foldB s[i + k] else s[i + k]) = (if b then foldB t[k] else t[k])) : occ (fd b s) (fd b t) i = false := by
  rw [Bool.eq_false_iff]
  intro h'
  have := ((occ_iff _ _ _).1 h').2 k (by simpa using hk)
  rw [fd_get b hr, fd_get b hk] at this
  exact h (Option.some.inj this)
theorem occ_yes {b : Bool} {s t : List UInt8} {i : Nat} (hr : i + t.length ≤ s.length) (h : agree b s t i t.length) : occ (fd b s) (fd b t) i = true :=
  (occ_iff _ _ _).2 ⟨.inl (by simpa using hr), fun j hj => h j (by simpa using hj)⟩
theorem occ_far {b : Bool} {s t : List UInt8} {i : Nat} (hi : i ≤ s.length) (h : ¬ i + t.length ≤ s.length) : occ (fd b s) (fd b t) i = false := by
  rw [Bool.eq_false_iff]
  intro h'
  rcases occ_room h' with h1 | h1
  · have := congrArg List.length h1
    simp at this
    rw [this] at h; simp at h; omega
  · simp at h1; omega
theorem agree_at {b : Bool} {s t : List UInt8} {i k : Nat} (hg : agree b s t i k) (hk : k < t.length) (hr : i + k < s.length) (h : (if b then foldB s[i + k] else s[i + k]) = (if b then foldB t[k] else t[k])) : agree b s t i (k + 1) :=
  agree_step hg (by rw [fd_get b hr, fd_get b hk, h])
set_option maxHeartbeats 1000000 in
theorem Occurs_spec (s t : List UInt8) (i : Nat) (b : Bool) (hs : s.length ≤ 1000000) (ht : t.length ≤ 1000000) (hi : i ≤ s.length) : Spec1 Tryz.prog 101 [.str s, .str t, i64 i, bo b] (bo (occ (fd b s) (fd b t) i)) := by
  refine Spec1.of_HT Tryz.func101 rfl (by rw [Tryz.ntmps101]; simp) rfl ?_
  rw [Tryz.ntmps101]
  refine HT.seq ?_
  refine HT.region ?_   -- R0
  simp (disch := first | omega | (simp <;> omega) | fail) [wrap_i64, wrap_u64, wrap_u8', u8_inj]
  refine HT.seq ?_
  refine HT.seq ?_
  refine HT.region ?_   -- R1
  simp (disch := first | omega | (simp <;> omega) | fail) [wrap_i64, wrap_u64, wrap_u8', u8_inj]
  refine HT.cond' ?_   -- if 18
  simp (disch := first | omega | (simp <;> omega) | fail) [wrap_i64, wrap_u64, wrap_u8', u8_inj]
  refine ⟨fun h18 => ?_, fun h18 => ?_⟩
  · skip
    refine HT.seq ?_
    refine HT.region ?_   -- R2
    simp (disch := first | omega | (simp <;> omega) | fail) [wrap_i64, wrap_u64, wrap_u8', u8_inj]
    refine HT.ret ?_
    simp (disch := first | omega | (simp <;> omega) | fail) [wrap_i64, wrap_u64, wrap_u8', u8_inj, occ_far (b := b) hi (show ¬ i + t.length ≤ s.length by omega)]
  · skip
    have hr : i + t.length ≤ s.length := by omega
    refine HT.skip ?_
    simp (disch := first | omega | (simp <;> omega) | fail) [wrap_i64, wrap_u64, wrap_u8', u8_inj]
    refine HT.seq ?_
    refine HT.seq ?_
    refine HT.region ?_   -- R3
    simp (disch := first | omega | (simp <;> omega) | fail) [wrap_i64, wrap_u64, wrap_u8', u8_inj]
    refine HT.block ?_
    refine HT.loopK (fun k : {k : Nat // k ≤ t.length ∧ agree b s t i k} => [.s 9 (i64 k)]) [0, 1, 2, 3] [] (fun k => t.length - k) (⟨0, by omega, fun j hj => by omega⟩) ?_ ?_   -- block 0 turned [9]
    · simp (disch := first | omega | (simp <;> omega) | fail) [wrap_i64, wrap_u64, wrap_u8', u8_inj]
    rintro ⟨k, hk, hg⟩
    simp (disch := first | omega | (simp <;> omega) | fail) [wrap_i64, wrap_u64, wrap_u8', u8_inj]
    refine HT.seq ?_
    refine HT.seq ?_
    refine HT.region ?_   -- R4
    simp (disch := first | omega | (simp <;> omega) | fail) [wrap_i64, wrap_u64, wrap_u8', u8_inj]
    refine HT.cond' ?_   -- if 22
    simp (disch := first | omega | (simp <;> omega) | fail) [wrap_i64, wrap_u64, wrap_u8', u8_inj]
    refine ⟨fun h22 => ?_, fun h22 => ?_⟩
    · skip
      have hk' : k < t.length := by omega
      have hsk : i + k < s.length := by omega
      have hz : ((i : Int) + (k : Int)).toNat = i + k := by omega
      refine HT.skip ?_
      simp (disch := first | omega | (simp <;> omega) | fail) [wrap_i64, wrap_u64, wrap_u8', u8_inj]
      refine HT.seq ?_
      refine HT.block ?_
      refine HT.seq ?_
      refine HT.region ?_   -- R6
      simp (disch := first | omega | (simp <;> omega) | fail) [wrap_i64, wrap_u64, wrap_u8', u8_inj, hz]
      refine HT.seq ?_
      refine HT.region ?_   -- R7
      simp (disch := first | omega | (simp <;> omega) | fail) [wrap_i64, wrap_u64, wrap_u8', u8_inj]
      refine HT.seq ?_
      refine HT.seq ?_
      refine HT.region ?_   -- R8
      simp (disch := first | omega | (simp <;> omega) | fail) [wrap_i64, wrap_u64, wrap_u8', u8_inj]
      refine HT.cond' ?_   -- if 33
      simp (disch := first | omega | (simp <;> omega) | fail) [wrap_i64, wrap_u64, wrap_u8', u8_inj]
      refine ⟨fun h33 => ?_, fun h33 => ?_⟩
      · skip
        refine HT.seq ?_
        refine HT.region ?_   -- R9
        simp (disch := first | omega | (simp <;> omega) | fail) [wrap_i64, wrap_u64, wrap_u8', u8_inj]
        refine stepK.mk (.call1 _ _ _ _ rfl Ty.hb129 rfl (FoldByte_spec _) rfl rfl) ?_
        simp (disch := first | omega | (simp <;> omega) | fail) [wrap_i64, wrap_u64, wrap_u8', u8_inj]
        refine HT.region ?_   -- R10
        simp (disch := first | omega | (simp <;> omega) | fail) [wrap_i64, wrap_u64, wrap_u8', u8_inj]
        refine stepK.mk (.call1 _ _ _ _ rfl Ty.hb129 rfl (FoldByte_spec _) rfl rfl) ?_
        simp (disch := first | omega | (simp <;> omega) | fail) [wrap_i64, wrap_u64, wrap_u8', u8_inj]
        refine HT.seq ?_
        refine HT.region ?_   -- R11
        simp (disch := first | omega | (simp <;> omega) | fail) [wrap_i64, wrap_u64, wrap_u8', u8_inj]
        refine HT.cond' ?_   -- if 40
        simp (disch := first | omega | (simp <;> omega) | fail) [wrap_i64, wrap_u64, wrap_u8', u8_inj]
        refine ⟨fun h40 => ?_, fun h40 => ?_⟩
        · skip
          refine HT.seq ?_
          refine HT.region ?_   -- R12
          simp (disch := first | omega | (simp <;> omega) | fail) [wrap_i64, wrap_u64, wrap_u8', u8_inj]
          refine HT.ret ?_
          simp (disch := first | omega | (simp <;> omega) | fail) [wrap_i64, wrap_u64, wrap_u8', u8_inj, occ_no (b := b) hk' hsk (by simpa [h33] using h40)]
        · skip
          refine HT.skip ?_
          simp (disch := first | omega | (simp <;> omega) | fail) [wrap_i64, wrap_u64, wrap_u8', u8_inj]
          refine HT.region ?_   -- R5
          simp (disch := first | omega | (simp <;> omega) | fail) [wrap_i64, wrap_u64, wrap_u8', u8_inj]
          refine Round.mk' (⟨k + 1, by omega, agree_at hg hk' hsk (by simpa [h33] using h40)⟩) (by dsimp only; omega) rfl ?_
          simp (disch := first | omega | (simp <;> omega) | fail) [wrap_i64, wrap_u64, wrap_u8', u8_inj]
      · skip
        refine HT.skip ?_
        simp (disch := first | omega | (simp <;> omega) | fail) [wrap_i64, wrap_u64, wrap_u8', u8_inj]
        refine HT.seq ?_
        refine HT.region ?_   -- R11
        simp (disch := first | omega | (simp <;> omega) | fail) [wrap_i64, wrap_u64, wrap_u8', u8_inj]
        refine HT.cond' ?_   -- if 40
        simp (disch := first | omega | (simp <;> omega) | fail) [wrap_i64, wrap_u64, wrap_u8', u8_inj]
        refine ⟨fun h40 => ?_, fun h40 => ?_⟩
        · skip
          refine HT.seq ?_
          refine HT.region ?_   -- R12
          simp (disch := first | omega | (simp <;> omega) | fail) [wrap_i64, wrap_u64, wrap_u8', u8_inj]
          refine HT.ret ?_
          simp (disch := first | omega | (simp <;> omega) | fail) [wrap_i64, wrap_u64, wrap_u8', u8_inj, occ_no (b := b) hk' hsk (by simpa [h33] using h40)]
        · skip
          refine HT.skip ?_
          simp (disch := first | omega | (simp <;> omega) | fail) [wrap_i64, wrap_u64, wrap_u8', u8_inj]
          refine HT.region ?_   -- R5
          simp (disch := first | omega | (simp <;> omega) | fail) [wrap_i64, wrap_u64, wrap_u8', u8_inj]
          refine Round.mk' (⟨k + 1, by omega, agree_at hg hk' hsk (by simpa [h33] using h40)⟩) (by dsimp only; omega) rfl ?_
          simp (disch := first | omega | (simp <;> omega) | fail) [wrap_i64, wrap_u64, wrap_u8', u8_inj]
    · skip
      obtain rfl : k = t.length := by omega
      refine HT.exit ?_
      simp (disch := first | omega | (simp <;> omega) | fail) [wrap_i64, wrap_u64, wrap_u8', u8_inj]
      refine HT.seq ?_
      refine HT.region ?_   -- R13
      simp (disch := first | omega | (simp <;> omega) | fail) [wrap_i64, wrap_u64, wrap_u8', u8_inj]
      refine HT.ret ?_
      simp (disch := first | omega | (simp <;> omega) | fail) [wrap_i64, wrap_u64, wrap_u8', u8_inj, occ_yes hr hg]
end Go.Hv
set_option linter.unusedVariables false
set_option linter.unusedSimpArgs false
namespace Go.Hv
open Go Go.Hv Go.Proofs
open Go.Proofs.YtlbmbnpknobjdaaGreatDoor
set_option maxHeartbeats 1000000 in
theorem refFind_spec (s t : List UInt8) (b : Bool) (hs : s.length ≤ 1000000) (ht : t.length ≤ 1000000) : Spec1 Tryz.prog 62 [.str s, .str t, bo b] (.sl 1 false (intsHV (findV (fd b s) (fd b t)))) := by
  refine Spec1.of_HT Tryz.func62 rfl (by rw [Tryz.ntmps62]; simp) rfl ?_
  rw [Tryz.ntmps62]
  refine HT.seq ?_
  refine HT.region ?_   -- R0
  simp (disch := first | omega | (simp <;> omega) | fail) [wrap_i64, wrap_u64, wrap_u8']
  refine HT.seq ?_
  refine HT.region ?_   -- R1
  simp (disch := first | omega | (simp <;> omega) | fail) [wrap_i64, wrap_u64, wrap_u8']
  refine HT.weaken (HS.le_own (t := 7) 200 3 1 _ (by decide) rfl (by decide)) ?_
  refine HT.seq ?_
  refine HT.seq ?_
  refine HT.region ?_   -- R2
  simp (disch := first | omega | (simp <;> omega) | fail) [wrap_i64, wrap_u64, wrap_u8']
  refine HT.block ?_
  refine HT.loopK (fun k : {k : Nat // k ≤ s.length + 1} => [.s 8 (i64 k), .s 7 (.ref 200), .o 200 (.row 3 1 (intsHV (findK (fd b s) (fd b t) k)))]) [0, 1, 2] [] (fun k => s.length + 1 - k) (⟨0, by omega⟩) ?_ ?_   -- block 0 turned [7, 8]
  · simp (disch := first | omega | (simp <;> omega) | fail) [wrap_i64, wrap_u64, wrap_u8', show findK (fd b s) (fd b t) 0 = [] from rfl]
  rintro ⟨k, hk⟩
  simp (disch := first | omega | (simp <;> omega) | fail) [wrap_i64, wrap_u64, wrap_u8']
  refine HT.seq ?_
  refine HT.seq ?_
  refine HT.region ?_   -- R3
  simp (disch := first | omega | (simp <;> omega) | fail) [wrap_i64, wrap_u64, wrap_u8']
  refine HT.cond' ?_   -- if 12
  simp (disch := first | omega | (simp <;> omega) | fail) [wrap_i64, wrap_u64, wrap_u8']
  refine ⟨fun h12 => ?_, fun h12 => ?_⟩
  · skip
    have hk' : k ≤ s.length := by omega
    have hb := findK_length (fd b s) (fd b t) k
    refine HT.skip ?_
    simp (disch := first | omega | (simp <;> omega) | fail) [wrap_i64, wrap_u64, wrap_u8']
    refine HT.seq ?_
    refine HT.block ?_
    refine HT.seq ?_
    refine HT.region ?_   -- R5
    simp (disch := first | omega | (simp <;> omega) | fail) [wrap_i64, wrap_u64, wrap_u8']
    refine stepK.mk (.call1 _ _ _ _ rfl Ty.hb101 rfl (Occurs_spec s t k b hs ht (by omega)) rfl rfl) ?_
    simp (disch := first | omega | (simp <;> omega) | fail) [wrap_i64, wrap_u64, wrap_u8']
    refine HT.cond' ?_   -- if 19
    simp (disch := first | omega | (simp <;> omega) | fail) [wrap_i64, wrap_u64, wrap_u8']
    refine ⟨fun h19 => ?_, fun h19 => ?_⟩
    · skip
      refine HT.region ?_   -- R6
      simp (disch := first | omega | (simp <;> omega) | fail) [wrap_i64, wrap_u64, wrap_u8']
      refine HT.region ?_   -- R4
      simp (disch := first | omega | (simp <;> omega) | fail) [wrap_i64, wrap_u64, wrap_u8']
      refine Round.mk' (⟨k + 1, by omega⟩) (by dsimp only; omega) rfl ?_
      simp (disch := first | omega | (simp <;> omega) | fail) [wrap_i64, wrap_u64, wrap_u8', findK_succ, h19]
    · skip
      refine HT.skip ?_
      simp (disch := first | omega | (simp <;> omega) | fail) [wrap_i64, wrap_u64, wrap_u8']
      refine HT.region ?_   -- R4
      simp (disch := first | omega | (simp <;> omega) | fail) [wrap_i64, wrap_u64, wrap_u8']
      refine Round.mk' (⟨k + 1, by omega⟩) (by dsimp only; omega) rfl ?_
      simp (disch := first | omega | (simp <;> omega) | fail) [wrap_i64, wrap_u64, wrap_u8', findK_succ, h19]
  · skip
    obtain rfl : k = s.length + 1 := by omega
    have e0 := findK_all (fd b s) (fd b t)
    rw [fd_length] at e0
    refine HT.exit ?_
    simp (disch := first | omega | (simp <;> omega) | fail) [wrap_i64, wrap_u64, wrap_u8']
    refine HT.seq ?_
    refine HT.region ?_   -- R7
    simp (disch := first | omega | (simp <;> omega) | fail) [wrap_i64, wrap_u64, wrap_u8']
    refine HT.ret ?_
    simp (disch := first | omega | (simp <;> omega) | fail) [wrap_i64, wrap_u64, wrap_u8', e0]
end Go.Hv
set_option linter.unusedVariables false
set_option linter.unusedSimpArgs false
namespace Go.Hv
open Go Go.Hv Go.Proofs
open Go.Proofs.YtlbmbnpknobjdaaGreatDoor
end Go.Hv
set_option linter.unusedVariables false
set_option linter.unusedSimpArgs false
namespace Go.Hv
open Go Go.Hv Go.Proofs
open Go.Proofs.YtlbmbnpknobjdaaGreatDoor
def W64 (l : List Int) : Prop := ∀ y ∈ l, -9223372036854775808 ≤ y ∧ y < 9223372036854775808
def folB (y x : Int) (j : Nat) : Bool := decide ((j : Int) ≤ y ∧ y - j = x)
def folV (l : List Int) (x : Int) (j : Nat) : Bool := l.any fun y => folB y x j
end Go.Hv
set_option linter.unusedVariables false
set_option linter.unusedSimpArgs false
namespace Go.Hv
open Go Go.Hv Go.Proofs
open Go.Proofs.YtlbmbnpknobjdaaGreatDoor
def GB (l : List Gram) : Prop := l.length ≤ 140737488355328 ∧ ∀ g ∈ l, g.off.length ≤ 1000 ∧ W64 g.off
theorem atV_cases (l : List Gram) (c : Int) : atV l c = [] ∨ ∃ g ∈ l, g.code = c ∧ atV l c = g.off := by
  unfold atV
  split
  · next g hg => exact .inr ⟨g, List.mem_of_find?_eq_some hg, by simpa using List.find?_some hg, rfl⟩
  · exact .inl rfl
theorem atV_GB {l : List Gram} (h : GB l) (c : Int) : (atV l c).length ≤ 1000 ∧ W64 (atV l c) := by
  rcases atV_cases l c with e | ⟨g, hg, _, e⟩
  · rw [e]; exact ⟨by simp, fun y hy => by cases hy⟩
  · rw [e]; exact h.2 g hg
def candJ (l : List Gram) (s : List UInt8) (x : Int) (j : Nat) : Bool := decide (0 ≤ x) && (List.range j).all fun i => folV (atV l (codeAt s i)) x i
def candI (l : List Gram) (s : List UInt8) (k : Nat) : List Int := (((atV l (codeAt s 0)).take k).filter fun x => candJ l s x (s.length - 2)).foldl ins []
theorem foldl_insL_inc : ∀ (r a : List Int), Inc a → Inc (r.foldl ins a)
  | [], _, h => h
  | x :: r, a, h => foldl_insL_inc r _ (ins_inc h x)
theorem candI_inc (l : List Gram) (s : List UInt8) (k : Nat) : Inc (candI l s k) := foldl_insL_inc _ _ List.Pairwise.nil
def candV (l : List Gram) (s : List UInt8) : List Int := if s.length < 3 then [] else candI l s (atV l (codeAt s 0)).length
end Go.Hv
set_option linter.unusedVariables false
set_option linter.unusedSimpArgs false
/- The codes of trigrams, looked up (layer 6), at law29's seat. -/
namespace Go.Hv
open Go Go.Hv Go.Proofs Go.RowKit
open Go.Proofs.YtlbmbnpknobjdaaGreatDoor
theorem ofV_mem (s : List UInt8) (c : Int) : c ∈ ofV s ↔ ∃ i, i < s.length - 2 ∧ codeAt s i = c := ofK_mem s _ c
theorem Code_spec (s : List UInt8) (hs : s.length ≤ 140737488355328) : SpecT Tryz.prog 91 [.str s] [i64 (codeV s), bo (decide (s.length = 3))] := by
  refine SpecT.of_HT Tryz.func91 rfl (by rw [Tryz.ntmps91]; simp) (rs := [.tmp 2, .tmp 3]) rfl (by decide) ?_
  rw [Tryz.ntmps91]
  refine HT.seq ?_
  refine HT.region ?_   -- R0
  simp (disch := first | omega | (simp <;> omega) | fail) [wrap_i64, wrap_u64, wrap_u8']
  refine HT.seq ?_
  refine HT.seq ?_
  by_cases c1 : ¬ s.length = 3
  · skip
    refine HT.region ?_   -- R1
    simp (disch := first | omega | (simp <;> omega) | fail) [wrap_i64, wrap_u64, wrap_u8']
    refine HT.cond' ?_   -- if 6
    simp (disch := first | omega | (simp <;> omega) | fail) [wrap_i64, wrap_u64, wrap_u8']
    refine HT.seq ?_
    refine HT.region ?_   -- R2
    simp (disch := first | omega | (simp <;> omega) | fail) [wrap_i64, wrap_u64, wrap_u8']
    refine HT.ret ?_
    simp (disch := first | omega | (simp <;> omega) | fail) [wrap_i64, wrap_u64, wrap_u8', codeV, c1]
  refine HT.region ?_   -- R1
  simp (disch := first | omega | (simp <;> omega) | fail) [wrap_i64, wrap_u64, wrap_u8']
  refine HT.cond' ?_   -- if 6
  simp (disch := first | omega | (simp <;> omega) | fail) [wrap_i64, wrap_u64, wrap_u8']
  refine HT.skip ?_
  simp (disch := first | omega | (simp <;> omega) | fail) [wrap_i64, wrap_u64, wrap_u8']
  refine HT.seq ?_
  refine HT.region ?_   -- R3
  simp (disch := first | omega | (simp <;> omega) | fail) [wrap_i64, wrap_u64, wrap_u8']
  refine stepK.mk (.call1 _ _ _ _ rfl Ty.hb67 rfl (Fold_spec s (by omega)) rfl rfl) ?_
  simp (disch := first | omega | (simp <;> omega) | fail) [wrap_i64, wrap_u64, wrap_u8']
  refine stepK.mk (.call1 _ _ _ _ rfl Ty.hb110 rfl (code_spec (foldS s) 0 (by simp; omega) (by simp; omega)) rfl rfl) ?_
  simp (disch := first | omega | (simp <;> omega) | fail) [wrap_i64, wrap_u64, wrap_u8']
  refine HT.ret ?_
  have c2 : s.length = 3 := by omega
  have h := codeAt_foldS (s := s) (i := 0) (by omega)
  simp [codeV, c2, h]
theorem At_spec (f : Bool) (l : List Gram) (c : Int) (hl : l.length ≤ 140737488355328) : Spec1 Tryz.prog 95 [.sl 2 f (gramsHV l), i64 c] (.sl 1 false (intsHV (atV l c))) := by
  refine Spec1.of_HT Tryz.func95 rfl (by rw [Tryz.ntmps95]; simp) rfl ?_
  rw [Tryz.ntmps95]
  refine HT.seq ?_
  refine HT.region ?_   -- R0
  simp (disch := first | omega | (simp <;> omega) | fail) [wrap_i64, wrap_u64, wrap_u8']
  refine HT.seq ?_
  refine HT.seq ?_
  refine HT.region ?_   -- R1
  simp (disch := first | omega | (simp <;> omega) | fail) [wrap_i64, wrap_u64, wrap_u8']
  refine HT.block ?_
  refine HT.loopK (fun k : {k : Nat // k ≤ l.length ∧ atV l c = atV (l.drop k) c} => [.s 8 (i64 k)]) [0, 1, 7] [] (fun k => l.length - k) (⟨0, by simp⟩) ?_ ?_   -- block 0 turned [8]
  · simp (disch := first | omega | (simp <;> omega) | fail) [wrap_i64, wrap_u64, wrap_u8']
  rintro ⟨k, hk, hg⟩
  simp (disch := first | omega | (simp <;> omega) | fail) [wrap_i64, wrap_u64, wrap_u8']
  refine HT.seq ?_
  refine HT.region ?_   -- R2
  simp (disch := first | omega | (simp <;> omega) | fail) [wrap_i64, wrap_u64, wrap_u8']
  refine HT.seq ?_
  refine HT.cond' ?_   -- if 9
  simp (disch := first | omega | (simp <;> omega) | fail) [wrap_i64, wrap_u64, wrap_u8']
  refine ⟨fun h9 => ?_, fun h9 => ?_⟩
  · skip
    have hk' : k < l.length := by omega
    rw [atV_drop hk'] at hg
    refine HT.skip ?_
    simp (disch := first | omega | (simp <;> omega) | fail) [wrap_i64, wrap_u64, wrap_u8']
    refine HT.seq ?_
    refine HT.block ?_
    refine HT.seq ?_
    refine HT.region ?_   -- R3
    simp (disch := first | omega | (simp <;> omega) | fail) [wrap_i64, wrap_u64, wrap_u8']
    refine HT.seq ?_
    refine HT.region ?_   -- R4
    simp (disch := first | omega | (simp <;> omega) | fail) [wrap_i64, wrap_u64, wrap_u8']
    refine HT.cond' ?_   -- if 17
    simp (disch := first | omega | (simp <;> omega) | fail) [wrap_i64, wrap_u64, wrap_u8']
    refine ⟨fun h17 => ?_, fun h17 => ?_⟩
    · skip
      refine HT.seq ?_
      refine HT.region ?_   -- R5
      simp (disch := first | omega | (simp <;> omega) | fail) [wrap_i64, wrap_u64, wrap_u8']
      refine HT.ret ?_
      simp (disch := first | omega | (simp <;> omega) | fail) [wrap_i64, wrap_u64, wrap_u8', hg, h17]
    · skip
      refine HT.skip ?_
      simp (disch := first | omega | (simp <;> omega) | fail) [wrap_i64, wrap_u64, wrap_u8']
      refine HT.region ?_   -- R6
      simp (disch := first | omega | (simp <;> omega) | fail) [wrap_i64, wrap_u64, wrap_u8']
      refine Round.mk' (⟨k + 1, by omega, by rw [hg, if_neg h17]⟩) (by dsimp only; omega) rfl ?_
      simp (disch := first | omega | (simp <;> omega) | fail) [wrap_i64, wrap_u64, wrap_u8']
  · skip
    obtain rfl : k = l.length := by omega
    rw [List.drop_length] at hg
    refine HT.exit ?_
    simp (disch := first | omega | (simp <;> omega) | fail) [wrap_i64, wrap_u64, wrap_u8']
    refine HT.seq ?_
    refine HT.region ?_   -- R7
    simp (disch := first | omega | (simp <;> omega) | fail) [wrap_i64, wrap_u64, wrap_u8']
    refine HT.weaken (HS.le_wk 4 (.sl 1 false []) (by decide) rfl rfl (HLe.nilf 0 1 true)) ?_
    refine HT.ret ?_
    simp (disch := first | omega | (simp <;> omega) | fail) [wrap_i64, wrap_u64, wrap_u8', hg, show atV [] c = [] from rfl]
end Go.Hv
set_option linter.unusedVariables false
set_option linter.unusedSimpArgs false
namespace Go.Hv
open Go Go.Hv Go.Proofs
open Go.Proofs.YtlbmbnpknobjdaaGreatDoor
theorem compact_upto {l : List Int} (hs : l.Pairwise (· ≤ ·)) : ∀ m, m ≤ l.length → Inc (Lib.compactUpTo l.toArray m) ∧ ∀ x, x ∈ Lib.compactUpTo l.toArray m ↔ ∃ j, j < m ∧ l.toArray[j]! = x
  | 0, _ => ⟨List.Pairwise.nil, fun x => by simp [Lib.compactUpTo]⟩
  | m + 1, hm => by
    obtain ⟨h1, h2⟩ := compact_upto hs m (by omega)
    rw [Lib.compactUpTo_succ]
    have hle : ∀ i j, i ≤ j → j < l.length → l.toArray[i]! ≤ l.toArray[j]! := fun i j hij hj => by
      rw [getElem!_pos l.toArray i (by simp; omega), getElem!_pos l.toArray j (by simpa using hj)]
      rcases Nat.lt_or_ge i j with h | h
      · simpa using List.pairwise_iff_getElem.1 hs i j (by omega) hj h
      · obtain rfl : i = j := by omega
        omega
    by_cases hk : Lib.keeps l.toArray m = true
    · rw [if_pos hk]
      have hlt : ∀ x ∈ Lib.compactUpTo l.toArray m, x < l.toArray[m]! := fun x hx => by
        obtain ⟨j, hj, rfl⟩ := (h2 x).1 hx
        have a1 := hle j (m - 1) (by omega) (by omega)
        have a2 := hle (m - 1) m (by omega) (by omega)
        have a3 : l.toArray[m]! ≠ l.toArray[m - 1]! := by
          rcases of_decide_eq_true hk with h | h
          · omega
          · exact h
        omega
      refine ⟨?_, fun x => ?_⟩
      · unfold Inc
        rw [List.pairwise_append]
        exact ⟨h1, List.pairwise_singleton _ _, fun a ha b hb => by simp only [List.mem_singleton] at hb; subst hb; exact hlt a ha⟩
      · rw [List.mem_append, h2, List.mem_singleton]
        constructor
        · rintro (⟨j, h, e⟩ | rfl)
          · exact ⟨j, by omega, e⟩
          · exact ⟨m, by omega, rfl⟩
        · rintro ⟨j, h, e⟩
          by_cases e' : j = m
          · subst e'; exact .inr e.symm
          · exact .inl ⟨j, by omega, e⟩
    · rw [if_neg hk, List.append_nil]
      refine ⟨h1, fun x => ?_⟩
      rw [h2]
      constructor
      · rintro ⟨j, h, e⟩; exact ⟨j, by omega, e⟩
      · rintro ⟨j, h, e⟩
        by_cases e' : j = m
        · subst e'
          have hk' : ¬ (j = 0 ∨ l.toArray[j]! ≠ l.toArray[j - 1]!) := fun h => hk (decide_eq_true h)
          have h0 : j ≠ 0 := fun h => hk' (.inl h)
          have h3 : l.toArray[j]! = l.toArray[j - 1]! := by
            rcases Classical.em (l.toArray[j]! = l.toArray[j - 1]!) with h | h
            · exact h
            · exact absurd (.inr h) hk'
          exact ⟨j - 1, by omega, by rw [← h3, e]⟩
        · exact ⟨j, by omega, e⟩
theorem mem_arr {l : List Int} (x : Int) : (∃ j, j < l.length ∧ l.toArray[j]! = x) ↔ x ∈ l := by
  constructor
  · rintro ⟨j, hj, rfl⟩
    rw [getElem!_pos l.toArray j (by simpa using hj)]
    simp
  · intro h
    obtain ⟨j, hj, rfl⟩ := List.mem_iff_getElem.1 h
    exact ⟨j, hj, by rw [getElem!_pos l.toArray j (by simpa using hj)]; simp⟩
theorem compact_sorted {l : List Int} (hs : l.Pairwise (· ≤ ·)) : Inc (Lib.compact l) ∧ ∀ x, x ∈ Lib.compact l ↔ x ∈ l := by
  obtain ⟨h1, h2⟩ := compact_upto hs l.length (Nat.le_refl _)
  exact ⟨h1, fun x => (h2 x).trans (mem_arr x)⟩
theorem mergeSort_leI (l : List Int) : (l.mergeSort leI).Pairwise (· ≤ ·) := by
  have := List.pairwise_mergeSort (le := leI) (fun a b c h1 h2 => by simp [leI] at *; omega) (fun a b => by simp [leI]; omega) l
  exact this.imp fun h => by simpa [leI] using h
theorem compact_sort (l : List Int) : Inc (Lib.compact (l.mergeSort leI)) ∧ ∀ x, x ∈ Lib.compact (l.mergeSort leI) ↔ x ∈ l := by
  obtain ⟨h1, h2⟩ := compact_sorted (mergeSort_leI l)
  exact ⟨h1, fun x => (h2 x).trans List.mem_mergeSort⟩
def rawK (s : List UInt8) (k : Nat) : List Int := (List.range k).map (codeAt s)
@[simp] theorem rawK_length (s : List UInt8) (k : Nat) : (rawK s k).length = k := by simp [rawK]
theorem rawK_succ (s : List UInt8) (k : Nat) : rawK s (k + 1) = rawK s k ++ [codeAt s k] := by unfold rawK; rw [List.range_succ, List.map_append]; rfl
theorem codes_final (s : List UInt8) : Lib.compact ((rawK s (s.length - 2)).mergeSort leI) = ofV s := by
  obtain ⟨h1, h2⟩ := compact_sort (rawK s (s.length - 2))
  refine inc_unique h1 (ofK_inc s _) fun x => ?_
  rw [h2, ofV_mem]
  simp [rawK]
theorem cut3_length {s : List UInt8} {k : Nat} (h : k + 3 ≤ s.length) : (List.drop k (List.take (k + 3) s)).length = 3 := by simp; omega
theorem codeV_cut {s : List UInt8} {k : Nat} (h : k + 3 ≤ s.length) : codeV (List.drop k (List.take (k + 3) s)) = codeAt s k := by
  unfold codeV
  rw [if_pos (cut3_length h)]
  unfold codeAt
  simp only [List.getD_eq_getElem?_getD, List.getElem?_drop, List.getElem?_take]
  simp
set_option maxHeartbeats 1000000 in
theorem Codes_spec (s : List UInt8) (hs : s.length ≤ 900000) : Spec1 Tryz.prog 60 [.str s] (.sl 1 false (intsHV (ofV s))) := by
  have hcf := codes_final s
  have hcl := Lib.compact_length_le ((rawK s (s.length - 2)).mergeSort leI)
  have hml : ((rawK s (s.length - 2)).mergeSort leI).length = s.length - 2 := by rw [List.length_mergeSort, rawK_length]
  refine Spec1.of_HT Tryz.func60 rfl (by rw [Tryz.ntmps60]; simp) rfl ?_
  rw [Tryz.ntmps60]
  refine HT.seq ?_
  refine HT.region ?_   -- R0
  simp (disch := first | omega | (simp <;> omega) | fail) [wrap_i64, wrap_u64, wrap_u8']
  refine HT.seq ?_
  refine HT.region ?_   -- R1
  simp (disch := first | omega | (simp <;> omega) | fail) [wrap_i64, wrap_u64, wrap_u8']
  refine HT.weaken (HS.le_own (t := 3) 200 3 1 _ (by decide) rfl (by decide)) ?_
  refine HT.seq ?_
  refine HT.seq ?_
  refine HT.region ?_   -- R2
  simp (disch := first | omega | (simp <;> omega) | fail) [wrap_i64, wrap_u64, wrap_u8']
  refine HT.block ?_
  refine HT.loopK (fun k : {k : Nat // k ≤ s.length - 2} => [.s 4 (i64 k), .s 3 (.ref 200), .o 200 (.row 3 1 (intsHV (rawK s k)))]) [0] [] (fun k => s.length - k) (⟨0, by omega⟩) ?_ ?_   -- block 0 turned [3, 4]
  · simp (disch := first | omega | (simp <;> omega) | fail) [wrap_i64, wrap_u64, wrap_u8', show rawK s 0 = [] from rfl]
  rintro ⟨k, hk⟩
  simp (disch := first | omega | (simp <;> omega) | fail) [wrap_i64, wrap_u64, wrap_u8']
  refine HT.seq ?_
  refine HT.seq ?_
  refine HT.region ?_   -- R3
  simp (disch := first | omega | (simp <;> omega) | fail) [wrap_i64, wrap_u64, wrap_u8']
  refine HT.cond' ?_   -- if 11
  simp (disch := first | omega | (simp <;> omega) | fail) [wrap_i64, wrap_u64, wrap_u8']
  refine ⟨fun h11 => ?_, fun h11 => ?_⟩
  · skip
    have hk' : k + 3 ≤ s.length := by omega
    have hcu := codeV_cut hk'
    have hcu3 := cut3_length hk'
    refine HT.skip ?_
    simp (disch := first | omega | (simp <;> omega) | fail) [wrap_i64, wrap_u64, wrap_u8']
    refine HT.seq ?_
    refine HT.block ?_
    refine HT.seq ?_
    refine HT.region ?_   -- R5
    simp (disch := first | omega | (simp <;> omega) | fail) [wrap_i64, wrap_u64, wrap_u8', hcu, hcu3]
    refine stepK.mk (.callT _ _ _ _ rfl Ty.hb91 rfl (Code_spec (List.drop k (List.take (k + 3) s)) (by omega)) rfl rfl) ?_
    simp (disch := first | omega | (simp <;> omega) | fail) [wrap_i64, wrap_u64, wrap_u8', hcu, hcu3]
    refine HT.seq ?_
    refine HT.region ?_   -- R6
    simp (disch := first | omega | (simp <;> omega) | fail) [wrap_i64, wrap_u64, wrap_u8']
    refine HT.cond' ?_   -- if 23
    simp (disch := first | omega | (simp <;> omega) | fail) [wrap_i64, wrap_u64, wrap_u8']
    refine HT.region ?_   -- R7
    simp (disch := first | omega | (simp <;> omega) | fail) [wrap_i64, wrap_u64, wrap_u8']
    refine HT.region ?_   -- R4
    simp (disch := first | omega | (simp <;> omega) | fail) [wrap_i64, wrap_u64, wrap_u8']
    refine Round.mk' (⟨k + 1, by omega⟩) (by dsimp only; omega) rfl ?_
    simp (disch := first | omega | (simp <;> omega) | fail) [wrap_i64, wrap_u64, wrap_u8', rawK_succ]
  · skip
    obtain rfl : k = s.length - 2 := by omega
    refine HT.exit ?_
    simp (disch := first | omega | (simp <;> omega) | fail) [wrap_i64, wrap_u64, wrap_u8']
    refine HT.seq ?_
    refine HT.region ?_   -- R8
    simp (disch := first | omega | (simp <;> omega) | fail) [wrap_i64, wrap_u64, wrap_u8']
    refine stepK.mk (.callS _ _ _ _ _ _ _ rfl Ty.hb92 (by first | rfl | simp) (by simp) (by first | rfl | simp) (Sort_spec (rawK s (s.length - 2)) (by simp; omega)) rfl) ?_
    simp (disch := first | omega | (simp <;> omega) | fail) [wrap_i64, wrap_u64, wrap_u8']
    refine HT.seq ?_
    refine HT.region ?_   -- R9
    simp (disch := first | omega | (simp <;> omega) | fail) [wrap_i64, wrap_u64, wrap_u8']
    refine stepK.mk (.callR _ _ _ _ _ _ _ rfl Ty.hb93 (by first | rfl | simp) (by simp) (by first | rfl | simp) (Compact_spec ((rawK s (s.length - 2)).mergeSort leI) (by omega) hcl) rfl) ?_
    simp (disch := first | omega | (simp <;> omega) | fail) [wrap_i64, wrap_u64, wrap_u8']
    refine HT.ret ?_
    simp (disch := first | omega | (simp <;> omega) | fail) [wrap_i64, wrap_u64, wrap_u8', hcf]
end Go.Hv
set_option linter.unusedVariables false
set_option linter.unusedSimpArgs false
namespace Go.Hv
open Go Go.Hv Go.Proofs
open Go.Proofs.YtlbmbnpknobjdaaGreatDoor
end Go.Hv
set_option linter.unusedVariables false
set_option linter.unusedSimpArgs false
namespace Go.Hv
open Go Go.Hv Go.Proofs
open Go.Proofs.YtlbmbnpknobjdaaGreatDoor
def srt (l : List Int) : List Int := l.mergeSort leI
theorem srt_mem (l : List Int) (x : Int) : x ∈ srt l ↔ x ∈ l := List.mem_mergeSort
theorem srt_length (l : List Int) : (srt l).length = l.length := List.length_mergeSort l
theorem srt_sorted (l : List Int) : (srt l).Pairwise (· ≤ ·) := mergeSort_leI l
theorem Cand11_spec (l : List Int) (x : Int) (hl : l.length ≤ 1000000) (hs : l.Pairwise (· ≤ ·)) : Spec1 Tryz.prog 96 [i64 x, .cptr [.sl 1 false (intsHV l)]] (bo (decide (x ∈ l))) := by
  refine Spec1.of_HT Tryz.func96 rfl (by rw [Tryz.ntmps96]; simp) rfl ?_
  rw [Tryz.ntmps96]
  refine HT.seq ?_
  refine HT.region ?_   -- R0
  simp (disch := first | omega | (simp <;> omega) | fail) [wrap_i64, wrap_u64, wrap_u8']
  refine HT.seq ?_
  refine HT.region ?_   -- R1
  simp (disch := first | omega | (simp <;> omega) | fail) [wrap_i64, wrap_u64, wrap_u8']
  refine stepK.mk (.callT _ _ _ _ rfl Ty.hb97 rfl (BinarySearch_spec false l x hl hs) rfl rfl) ?_
  simp (disch := first | omega | (simp <;> omega) | fail) [wrap_i64, wrap_u64, wrap_u8']
  refine HT.seq ?_
  refine HT.region ?_   -- R2
  simp (disch := first | omega | (simp <;> omega) | fail) [wrap_i64, wrap_u64, wrap_u8']
  refine HT.ret ?_
  simp (disch := first | omega | (simp <;> omega) | fail) [wrap_i64, wrap_u64, wrap_u8']
theorem Cand2_spec (x : Int) : Spec1 Tryz.prog 99 [i64 x] (bo (decide (x < 0))) := by
  refine Spec1.of_HT Tryz.func99 rfl (by rw [Tryz.ntmps99]; simp) rfl ?_
  rw [Tryz.ntmps99]
  refine HT.seq ?_
  refine HT.region ?_   -- R0
  simp (disch := first | omega | (simp <;> omega) | fail) [wrap_i64, wrap_u64, wrap_u8']
  refine HT.seq ?_
  refine HT.region ?_   -- R1
  simp (disch := first | omega | (simp <;> omega) | fail) [wrap_i64, wrap_u64, wrap_u8']
  refine HT.ret ?_
  simp (disch := first | omega | (simp <;> omega) | fail) [wrap_i64, wrap_u64, wrap_u8']
theorem Cand3_spec (l : List Int) (x : Int) (k : Nat) (hl : l.length ≤ 1000000) (hs : l.Pairwise (· ≤ ·)) (hk : k ≤ 1000000) (hx : -9223372036854775808 ≤ x ∧ x < 9223372036854775808) : Spec1 Tryz.prog 100 [i64 x, .cptr [i64 k], .cptr [.fn (.func 96) [.cptr [.sl 1 false (intsHV l)]]]] (bo (!decide (x + k ∈ l ∧ x ≤ 9223372036854775807 - k))) := by
  refine Spec1.of_HT Tryz.func100 rfl (by rw [Tryz.ntmps100]; simp) rfl ?_
  rw [Tryz.ntmps100]
  refine HT.seq ?_
  refine HT.region ?_   -- R0
  simp (disch := first | omega | (simp <;> omega) | fail) [wrap_i64, wrap_u64, wrap_u8']
  refine HT.seq ?_
  by_cases c : x > 9223372036854775807 - k
  · skip
    refine HT.region ?_   -- R1
    simp (disch := first | omega | (simp <;> omega) | fail) [wrap_i64, wrap_u64, wrap_u8', c]
    refine HT.ret ?_
    simp (disch := first | omega | (simp <;> omega) | fail) [wrap_i64, wrap_u64, wrap_u8']
  refine HT.region ?_   -- R1
  simp (disch := first | omega | (simp <;> omega) | fail) [wrap_i64, wrap_u64, wrap_u8', c]
  refine stepK.mk (.call1 _ _ _ _ rfl Ty.hb96 rfl (Cand11_spec l (x + k) hl hs) rfl rfl) ?_
  simp (disch := first | omega | (simp <;> omega) | fail) [wrap_i64, wrap_u64, wrap_u8', c]
  refine HT.ret ?_
  simp (disch := first | omega | (simp <;> omega) | fail) [wrap_i64, wrap_u64, wrap_u8']
@[simp] def candFn (l : List Int) : HV := .fn (.func 96) [.cptr [.sl 1 false (intsHV l)]]
theorem Cand1_spec (f : Bool) (l : List Gram) (s : List UInt8) (i : Nat) (hl : GB l) (hs : s.length ≤ 900000) (hi : i + 2 < s.length) : Spec1 Tryz.prog 94 [i64 i, .cptr [.str s], .cptr [.sl 2 f (gramsHV l)]] (.fn (.func 96) [.cptr [.sl 1 false (intsHV (srt (atV l (codeAt s i))))]]) := by
  have hcu := codeV_cut (s := s) (k := i) (by omega)
  have hcu3 := cut3_length (s := s) (k := i) (by omega)
  have hat := atV_GB hl (codeAt s i)
  refine Spec1.of_HT Tryz.func94 rfl (by rw [Tryz.ntmps94]; simp) rfl ?_
  rw [Tryz.ntmps94]
  refine HT.seq ?_
  refine HT.region ?_   -- R0
  simp (disch := first | omega | (simp <;> omega) | fail) [wrap_i64, wrap_u64, wrap_u8']
  refine HT.seq ?_
  refine HT.region ?_   -- R1
  simp (disch := first | omega | (simp <;> omega) | fail) [wrap_i64, wrap_u64, wrap_u8', hcu, hcu3]
  refine stepK.mk (.callT _ _ _ _ rfl Ty.hb91 rfl (Code_spec (List.drop i (List.take (i + 3) s)) (by simp; omega)) rfl rfl) ?_
  simp (disch := first | omega | (simp <;> omega) | fail) [wrap_i64, wrap_u64, wrap_u8', hcu, hcu3]
  refine HT.seq ?_
  refine HT.region ?_   -- R2
  simp (disch := first | omega | (simp <;> omega) | fail) [wrap_i64, wrap_u64, wrap_u8']
  refine stepK.mk (.call1f _ _ _ _ _ rfl Ty.hb95 rfl rfl (At_spec f l (codeAt s i) hl.1) rfl) ?_
  simp (disch := first | omega | (simp <;> omega) | fail) [wrap_i64, wrap_u64, wrap_u8']
  refine stepK.mk (.callO _ _ _ _ _ _ _ _ rfl Ty.hb58 rfl rfl (Clone_spec false (atV l (codeAt s i)) (by omega)) rfl rfl) ?_
  simp (disch := first | omega | (simp <;> omega) | fail) [wrap_i64, wrap_u64, wrap_u8']
  refine HT.seq ?_
  refine HT.region ?_   -- R3
  simp (disch := first | omega | (simp <;> omega) | fail) [wrap_i64, wrap_u64, wrap_u8']
  refine stepK.mk (.callS _ _ _ _ _ _ _ rfl Ty.hb92 (by simp) (by simp) (by first | rfl | simp) (Sort_spec (atV l (codeAt s i)) (by omega)) rfl) ?_
  simp (disch := first | omega | (simp <;> omega) | fail) [wrap_i64, wrap_u64, wrap_u8']
  refine HT.weaken (HS.le_frzref (id := 20) (xr := .sl 1 false (intsHV (srt (atV l (codeAt s i))))) (xm := .any) (by simp [srt])) ?_
  refine HT.weaken (HS.le_frzbox 7 7 (by decide) rfl rfl (by simp [isIL, isI])) ?_
  refine HT.seq ?_
  refine HT.region ?_   -- R4
  simp (disch := first | omega | (simp <;> omega) | fail) [wrap_i64, wrap_u64, wrap_u8']
  refine HT.ret ?_
  simp (disch := first | omega | (simp <;> omega) | fail) [wrap_i64, wrap_u64, wrap_u8']
def r0V (l : List Gram) (s : List UInt8) : List Int := (Lib.compact (srt (atV l (codeAt s 0)))).filter fun x => !decide (x < 0)
def offP (l : List Gram) (s : List UInt8) (i : Nat) (x : Int) : Bool := !decide (x + i ∈ srt (atV l (codeAt s i)) ∧ x ≤ 9223372036854775807 - i)
def candK (l : List Gram) (s : List UInt8) : Nat → List Int
  | 0 => r0V l s
  | k + 1 => (candK l s k).filter fun x => !offP l s (k + 1) x
theorem candK_mem (l : List Gram) (s : List UInt8) : ∀ (k : Nat) (x : Int), x ∈ candK l s k ↔ (x ∈ atV l (codeAt s 0) ∧ 0 ≤ x) ∧ ∀ i, 1 ≤ i → i ≤ k → x + i ∈ atV l (codeAt s i) ∧ x ≤ 9223372036854775807 - i
  | 0, x => by
    unfold candK r0V
    have hc : ∀ y, y ∈ Lib.compact (srt (atV l (codeAt s 0))) ↔ y ∈ atV l (codeAt s 0) := (compact_sort _).2
    rw [List.mem_filter, hc]
    simp only [Bool.not_eq_true', decide_eq_false_iff_not, Int.not_lt]
    constructor
    · intro h; exact ⟨h, fun i h1 h2 => by omega⟩
    · intro h; exact h.1
  | k + 1, x => by
    unfold candK
    rw [List.mem_filter, candK_mem l s k]
    unfold offP
    simp only [Bool.not_not, decide_eq_true_eq, srt_mem]
    constructor
    · rintro ⟨⟨h1, h2⟩, h3⟩
      refine ⟨h1, fun i a b => ?_⟩
      by_cases e : i = k + 1
      · subst e; exact h3
      · exact h2 i a (by omega)
    · rintro ⟨h1, h2⟩
      exact ⟨⟨h1, fun i a b => h2 i a (by omega)⟩, h2 (k + 1) (by omega) (Nat.le_refl _)⟩
theorem candK_inc (l : List Gram) (s : List UInt8) : ∀ k, Inc (candK l s k)
  | 0 => (compact_sort _).1.sublist List.filter_sublist
  | k + 1 => (candK_inc l s k).sublist List.filter_sublist
theorem candK_len (l : List Gram) (s : List UInt8) : ∀ k, (candK l s k).length ≤ (atV l (codeAt s 0)).length
  | 0 => by
    have h1 := List.length_filter_le (fun x => !decide (x < 0)) (Lib.compact (srt (atV l (codeAt s 0))))
    have h2 := Lib.compact_length_le (srt (atV l (codeAt s 0)))
    have h3 := srt_length (atV l (codeAt s 0))
    unfold candK r0V; omega
  | k + 1 => by
    have h1 := List.length_filter_le (fun x => !offP l s (k + 1) x) (candK l s k)
    have h2 := candK_len l s k
    unfold candK; omega
theorem ins_foldl_mem (r : List Int) : ∀ (a : List Int) (x : Int), x ∈ r.foldl ins a ↔ x ∈ a ∨ x ∈ r := by
  induction r with
  | nil => intro a x; simp
  | cons y r ih => intro a x; rw [List.foldl_cons, ih, ins_mem]; simp [or_assoc, or_comm, or_left_comm]
theorem candJ_iff (l : List Gram) (s : List UInt8) (x : Int) (j : Nat) : candJ l s x j = true ↔ 0 ≤ x ∧ ∀ i, i < j → x + i ∈ atV l (codeAt s i) := by
  unfold candJ folV folB
  simp only [Bool.and_eq_true, decide_eq_true_eq, List.all_eq_true, List.mem_range, List.any_eq_true]
  constructor
  · rintro ⟨h0, h⟩
    refine ⟨h0, fun i hi => ?_⟩
    obtain ⟨y, hy, h1, h2⟩ := h i hi
    have : x + i = y := by omega
    rw [this]; exact hy
  · rintro ⟨h0, h⟩
    exact ⟨h0, fun i hi => ⟨x + i, h i hi, by omega, by omega⟩⟩
theorem cand_eq {l : List Gram} {s : List UInt8} (hl : GB l) (h : ¬ s.length < 3) : candK l s (s.length - 3) = candV l s := by
  unfold candV
  rw [if_neg h]
  refine inc_unique (candK_inc l s _) (candI_inc l s _) fun x => ?_
  rw [candK_mem]
  unfold candI
  rw [ins_foldl_mem, List.take_length, List.mem_filter, candJ_iff]
  constructor
  · rintro ⟨⟨h1, h2⟩, h3⟩
    refine .inr ⟨h1, h2, fun i hi => ?_⟩
    by_cases e : i = 0
    · subst e; simpa using h1
    · exact (h3 i (by omega) (by omega)).1
  · rintro (h1 | ⟨h1, h2, h3⟩)
    · cases h1
    · refine ⟨⟨h1, h2⟩, fun i a b => ?_⟩
      have hm := h3 i (by omega)
      have := ((atV_GB hl (codeAt s i)).2 _ hm).2
      exact ⟨hm, by omega⟩
theorem take_drop0 (s : List UInt8) (h : 3 ≤ s.length) : (List.take 3 s).length = 3 ∧ codeV (List.take 3 s) = codeAt s 0 := by
  have h1 := cut3_length (s := s) (k := 0) (by omega)
  have h2 := codeV_cut (s := s) (k := 0) (by omega)
  simp only [List.drop_zero, Nat.zero_add] at h1 h2
  exact ⟨h1, h2⟩
set_option maxHeartbeats 4000000 in
set_option maxRecDepth 20000 in
theorem Cand_spec (f : Bool) (l : List Gram) (s : List UInt8) (hl : GB l) (hs : s.length ≤ 900000) : SpecT Tryz.prog 61 [.sl 2 f (gramsHV l), .str s] [.sl 1 false (intsHV (candV l s)), bo (decide (¬ s.length < 3))] := by
  have hfirst := atV_GB hl (codeAt s 0)
  have hcl := candK_len l s
  have hc1 : ∀ x : List Int, (Lib.compact x).length ≤ x.length := Lib.compact_length_le
  have hsl := srt_length (atV l (codeAt s 0))
  refine SpecT.of_HT Tryz.func61 rfl (by rw [Tryz.ntmps61]; simp) (rs := [.tmp 4, .tmp 5]) rfl (by decide) ?_
  rw [Tryz.ntmps61]
  refine HT.seq ?_
  refine HT.region ?_   -- R0
  simp (disch := first | omega | (simp <;> omega) | fail) [wrap_i64, wrap_u64, wrap_u8']
  refine HT.weaken (HS.le_frzbox 2 2 (by decide) rfl rfl (by simp [isIL, isI])) ?_
  simp
  refine HT.weaken (HS.le_frzbox 3 3 (by decide) rfl rfl (by simp [isIL, isI])) ?_
  simp
  refine HT.seq ?_
  refine HT.seq ?_
  by_cases c0 : s.length < 3
  · skip
    refine HT.region ?_   -- R1
    simp (disch := first | omega | (simp <;> omega) | fail) [wrap_i64, wrap_u64, wrap_u8']
    refine HT.cond' ?_   -- if 14
    simp (disch := first | omega | (simp <;> omega) | fail) [wrap_i64, wrap_u64, wrap_u8']
    refine HT.seq ?_
    refine HT.region ?_   -- R2
    simp (disch := first | omega | (simp <;> omega) | fail) [wrap_i64, wrap_u64, wrap_u8']
    refine HT.weaken (HS.le_wk 4 (.sl 1 false []) (by decide) rfl rfl (HLe.nilf 0 1 true)) ?_
    refine HT.ret ?_
    simp (disch := first | omega | (simp <;> omega) | fail) [wrap_i64, wrap_u64, wrap_u8', candV, c0]
  have ht3 := take_drop0 s (by omega)
  refine HT.region ?_   -- R1
  simp (disch := first | omega | (simp <;> omega) | fail) [wrap_i64, wrap_u64, wrap_u8']
  refine HT.cond' ?_   -- if 14
  simp (disch := first | omega | (simp <;> omega) | fail) [wrap_i64, wrap_u64, wrap_u8']
  refine HT.skip ?_
  simp (disch := first | omega | (simp <;> omega) | fail) [wrap_i64, wrap_u64, wrap_u8']
  refine HT.seq ?_
  refine HT.region ?_   -- R3
  simp (disch := first | omega | (simp <;> omega) | fail) [wrap_i64, wrap_u64, wrap_u8']
  refine HT.seq ?_
  refine HT.region ?_   -- R4
  simp (disch := first | omega | (simp <;> omega) | fail) [wrap_i64, wrap_u64, wrap_u8', ht3.1, ht3.2]
  refine stepK.mk (.callT _ _ _ _ rfl Ty.hb91 rfl (Code_spec (List.take 3 s) (by simp; omega)) rfl rfl) ?_
  simp (disch := first | omega | (simp <;> omega) | fail) [wrap_i64, wrap_u64, wrap_u8', ht3.1, ht3.2]
  refine HT.seq ?_
  refine HT.region ?_   -- R5
  simp (disch := first | omega | (simp <;> omega) | fail) [wrap_i64, wrap_u64, wrap_u8']
  refine stepK.mk (.call1f _ _ _ _ _ rfl Ty.hb95 rfl rfl (At_spec f l (codeAt s 0) hl.1) rfl) ?_
  simp (disch := first | omega | (simp <;> omega) | fail) [wrap_i64, wrap_u64, wrap_u8']
  refine stepK.mk (.callO _ _ _ _ _ _ _ _ rfl Ty.hb58 rfl rfl (Clone_spec false (atV l (codeAt s 0)) (by omega)) rfl rfl) ?_
  simp (disch := first | omega | (simp <;> omega) | fail) [wrap_i64, wrap_u64, wrap_u8']
  refine HT.seq ?_
  refine HT.region ?_   -- R6
  simp (disch := first | omega | (simp <;> omega) | fail) [wrap_i64, wrap_u64, wrap_u8']
  refine stepK.mk (.callS _ _ _ _ _ _ _ rfl Ty.hb92 (by first | rfl | simp) (by simp) (by first | rfl | simp) (Sort_spec (atV l (codeAt s 0)) (by omega)) rfl) ?_
  simp (disch := first | omega | (simp <;> omega) | fail) [wrap_i64, wrap_u64, wrap_u8']
  refine HT.seq ?_
  refine HT.region ?_   -- R7
  simp (disch := first | omega | (simp <;> omega) | fail) [wrap_i64, wrap_u64, wrap_u8']
  refine stepK.mk (.callR _ _ _ _ _ _ _ rfl Ty.hb93 (by first | rfl | simp) (by simp) (by first | rfl | simp) (Compact_spec (srt (atV l (codeAt s 0))) (by omega) (hc1 _)) rfl) ?_
  simp (disch := first | omega | (simp <;> omega) | fail) [wrap_i64, wrap_u64, wrap_u8']
  refine stepK.mk (.callR _ _ _ _ _ _ _ rfl Ty.hb98 (by first | rfl | simp) (by simp) (by first | rfl | simp) (DeleteFunc_spec 99 Ty.hb99 [] rfl (fun x => decide (x < 0)) (Lib.compact (srt (atV l (codeAt s 0)))) (by have := hc1 (srt (atV l (codeAt s 0))); omega) (fun x _ => Cand2_spec x)) rfl) ?_
  simp (disch := first | omega | (simp <;> omega) | fail) [wrap_i64, wrap_u64, wrap_u8']
  refine HT.seq ?_
  refine HT.seq ?_
  refine HT.region ?_   -- R8
  simp (disch := first | omega | (simp <;> omega) | fail) [wrap_i64, wrap_u64, wrap_u8']
  refine HT.block ?_
  refine HT.loopK (fun k : {k : Nat // k ≤ s.length - 3} => [.s 9 (.ref 25), .o 25 (.row 3 1 (intsHV (candK l s k))), .s 10 (.ptr 10 0), .o 10 (.box [i64 (k + 1)])]) [3, 6] [3] (fun k => s.length - k) (⟨0, by omega⟩) ?_ ?_   -- block 0 turned [9, 10]
  · simp (disch := first | omega | (simp <;> omega) | fail) [wrap_i64, wrap_u64, wrap_u8', candK, r0V]
  rintro ⟨k, hk⟩
  simp (disch := first | omega | (simp <;> omega) | fail) [wrap_i64, wrap_u64, wrap_u8']
  refine HT.seq ?_
  refine HT.seq ?_
  refine HT.region ?_   -- R9
  simp (disch := first | omega | (simp <;> omega) | fail) [wrap_i64, wrap_u64, wrap_u8']
  refine HT.cond' ?_   -- if 35
  simp (disch := first | omega | (simp <;> omega) | fail) [wrap_i64, wrap_u64, wrap_u8']
  refine ⟨fun h35 => ?_, fun h35 => ?_⟩
  · skip
    have hk' : k + 4 ≤ s.length := by omega
    have hat := atV_GB hl (codeAt s (k + 1))
    have hlk := hcl k
    have hsk := srt_length (atV l (codeAt s (k + 1)))
    refine HT.skip ?_
    simp (disch := first | omega | (simp <;> omega) | fail) [wrap_i64, wrap_u64, wrap_u8']
    refine HT.seq ?_
    refine HT.block ?_
    refine HT.seq ?_
    refine HT.region ?_   -- R11
    simp (disch := first | omega | (simp <;> omega) | fail) [wrap_i64, wrap_u64, wrap_u8']
    refine stepK.mk (.call1f _ _ _ _ _ rfl Ty.hb94 rfl rfl (Cand1_spec f l s (k + 1) hl hs (by omega)) rfl) ?_
    simp (disch := first | omega | (simp <;> omega) | fail) [wrap_i64, wrap_u64, wrap_u8']
    refine HT.weaken (HS.le_frzbox 10 10 (by show (10 : Nat) < 46; decide) rfl rfl (by simp [isIL, isI])) ?_
    simp
    refine HT.weaken (HS.le_frzbox 11 11 (by show (11 : Nat) < 46; decide) rfl rfl (by simp [isIL, isI])) ?_
    simp
    refine HT.region ?_   -- R12
    simp (disch := first | omega | (simp <;> omega) | fail) [wrap_i64, wrap_u64, wrap_u8']
    refine stepK.mk (.callR _ _ _ _ _ _ _ rfl Ty.hb98 (by first | rfl | simp) (by simp) (by first | rfl | simp) (DeleteFunc_spec 100 Ty.hb100 [.cptr [i64 (k + 1)], .cptr [candFn (srt (atV l (codeAt s (k + 1))))]] (by simp [isIL, isI]) (offP l s (k + 1)) (candK l s k) (by omega) (fun x hx => Cand3_spec _ x (k + 1) (by omega) (srt_sorted _) (by omega) (hfirst.2 x ((candK_mem l s k x).1 hx).1.1))) rfl) ?_
    simp (disch := first | omega | (simp <;> omega) | fail) [wrap_i64, wrap_u64, wrap_u8']
    refine HT.seq ?_
    refine HT.seq ?_
    refine HT.region ?_   -- R13
    simp (disch := first | omega | (simp <;> omega) | fail) [wrap_i64, wrap_u64, wrap_u8']
    refine HT.region ?_   -- R14
    simp (disch := first | omega | (simp <;> omega) | fail) [wrap_i64, wrap_u64, wrap_u8']
    refine HT.region ?_   -- R10
    simp (disch := first | omega | (simp <;> omega) | fail) [wrap_i64, wrap_u64, wrap_u8']
    refine Round.mk' (⟨k + 1, by omega⟩) (by dsimp only; omega) rfl ?_
    simp (disch := first | omega | (simp <;> omega) | fail) [wrap_i64, wrap_u64, wrap_u8', candK, offP]
  · skip
    obtain rfl : k = s.length - 3 := by omega
    refine HT.exit ?_
    simp (disch := first | omega | (simp <;> omega) | fail) [wrap_i64, wrap_u64, wrap_u8']
    refine HT.seq ?_
    refine HT.region ?_   -- R15
    simp (disch := first | omega | (simp <;> omega) | fail) [wrap_i64, wrap_u64, wrap_u8']
    refine HT.ret ?_
    simp (disch := first | omega | (simp <;> omega) | fail) [wrap_i64, wrap_u64, wrap_u8', cand_eq hl c0, c0]
end Go.Hv
set_option linter.unusedVariables false
set_option linter.unusedSectionVars false
set_option linter.unusedSimpArgs false
/- Conditions: trees of a kind, a number and parts. -/
namespace Go.Hv
open Go Go.RowKit
variable [GI]
inductive NeedT where
  | mk (kind gram : Int) (subs : List NeedT)
def NeedT.kind : NeedT → Int | .mk k _ _ => k
def NeedT.gram : NeedT → Int | .mk _ g _ => g
def NeedT.subs : NeedT → List NeedT | .mk _ _ s => s
mutual
def NeedT.enc (n : NeedT) : List HV :=
  match n with
  | .mk k g s => [i64 k, i64 g, .sl 3 false (needsHV s)]
  termination_by structural n
def needsHV (l : List NeedT) : List (List HV) :=
  match l with
  | [] => []
  | x :: r => x.enc :: needsHV r
  termination_by structural l
end
theorem needsHV_map (l : List NeedT) : needsHV l = l.map NeedT.enc := by
  induction l with
  | nil => rfl
  | cons x r ih => rw [needsHV, ih]; rfl
@[simp] theorem needsHV_length (l : List NeedT) : (needsHV l).length = l.length := by rw [needsHV_map]; simp
theorem NeedT.enc_eq (n : NeedT) : n.enc = [i64 n.kind, i64 n.gram, .sl 3 false (needsHV n.subs)] := by cases n; rw [NeedT.enc]; rfl
@[simp] theorem needsHV_getElem (l : List NeedT) (k : Nat) (h : k < (needsHV l).length) : (needsHV l)[k] = (l[k]'(by simpa using h)).enc := by simp [needsHV_map]
mutual
theorem isIL_need (n : NeedT) : isIL n.enc = true := by
  match n with
  | .mk k g s => rw [NeedT.enc]; simp [isIL, isI, isILL_needs s]
theorem isILL_needs (l : List NeedT) : isILL (needsHV l) = true := by
  match l with
  | [] => rfl
  | x :: r =>
    rw [needsHV, isILL_iff]
    have h := isILL_iff.1 (isILL_needs r)
    intro y hy
    rcases List.mem_cons.1 hy with rfl | hy
    · exact isIL_need x
    · exact h y hy
end
attribute [simp] isIL_need isILL_needs
inductive NeedB (B : Nat) : NeedT → Prop
  | mk (k g : Int) (s : List NeedT) (hl : s.length ≤ B) (h : ∀ x ∈ s, NeedB B x) : NeedB B (.mk k g s)
theorem NeedB.len {B : Nat} {n : NeedT} (h : NeedB B n) : n.subs.length ≤ B := by cases h with | mk k g s hl h => exact hl
theorem NeedB.sub {B : Nat} {n x : NeedT} (h : NeedB B n) (hx : x ∈ n.subs) : NeedB B x := by cases h with | mk k g s hl h => exact h x hx
/-! ### Conditions that are handed in -/
variable {H : Type} {enc : TypeId × Value → H} {P : Program} {w : World} {sp : Nat → Bool} {held : Bool} {B : Nat}
theorem sl_of_trodQ {Q : List HV → Prop} {sz : Nat} {et t : TypeId} {fuel : Nat} {cs : List Value} {x : DataW H × List MemPlace} (ht : P.underlying t = some (.slice et)) (hsz : P.cellsOf et = sz) (hpos : 0 < sz) (hby : 0 < P.bytesOf et)
    (rdr : ∀ (n : Nat), n < fuel → ∀ (cs : List Value) (x : DataW H × List MemPlace), DataW.trod enc P w 0 sp held n et cs = some x → (∀ n ∈ x.1.weights P et, n ≤ B) → ∃ hs, Q hs ∧ Reps w (fun _ => False) hs cs ∧ ∀ v ∈ cs, v.oneCell' = true)
    (h : DataW.trod enc P w 0 sp held fuel t cs = some x) (hB : ∀ n ∈ x.1.weights P t, n ≤ B) :
    ∃ es, es.length ≤ B ∧ (∀ x ∈ es, x.length = sz ∧ Q x) ∧ Reps w (fun _ => False) [.sl sz false es] cs ∧ ∀ v ∈ cs, v.oneCell' = true := by
  rcases DataW.trod_slice ht h with ⟨rfl, rfl⟩ | ⟨a, len, cap, elems, rest, n, rfl, rfl, rfl, _, hlc, hcm, hlen, hel, _, _⟩
  · exact ⟨[], Nat.zero_le _, by simp, .cons (.nil (fun h => by cases h) (fun _ => rfl)) .nil, by simp [Value.oneCell']⟩
  · simp only [DataW.weights, ht] at hB
    have hlb : elems.length ≤ B := by
      have := hB _ (List.mem_cons_self ..)
      simp only [List.length_map] at this
      have h2 : elems.length * 1 ≤ (elems.length + rest.length) * P.bytesOf et := Nat.mul_le_mul (Nat.le_add_right _ _) hby
      omega
    have hx : ∀ i, i < len → ∃ xs : List HV, ∃ cs : List Value, w.cells? 0 (a.add (i * sz)) sz = some cs ∧ Q xs ∧ Reps w (fun _ => False) xs cs ∧ ∀ v ∈ cs, v.oneCell' = true := by
      intro i hi
      have := hel i hi
      rw [hsz] at this
      cases hc : w.cells? 0 (a.add (i * sz)) sz with
      | none =>
        rw [hc] at this
        simp only [Option.bind_none] at this
        have hi' : i < elems.length := by omega
        rw [List.getElem?_eq_getElem hi'] at this
        cases this
      | some cs =>
        rw [hc] at this
        simp only [Option.bind_some] at this
        have hi' : i < elems.length := by omega
        rw [List.getElem?_eq_getElem hi'] at this
        have hb : ∀ n ∈ (elems[i]).1.weights P et, n ≤ B := fun n hn => hB n (List.mem_cons_of_mem _ (List.mem_append_left _ (weightsAll_mem (List.mem_map.2 ⟨_, List.getElem_mem hi', rfl⟩) hn)))
        obtain ⟨hs, h1, h2, h3⟩ := rdr n (Nat.lt_succ_self n) cs _ this hb
        exact ⟨hs, cs, rfl, h1, h2, h3⟩
    obtain ⟨es, hes, hp⟩ := list_choice (p := fun i xs => ∃ cs : List Value, w.cells? 0 (a.add (i * sz)) sz = some cs ∧ Q xs ∧ Reps w (fun _ => False) xs cs ∧ ∀ v ∈ cs, v.oneCell' = true) len hx
    rcases Nat.eq_zero_or_pos len with h0 | h0
    · subst h0
      have : es = [] := List.eq_nil_of_length_eq_zero hes
      subst this
      exact ⟨[], Nat.zero_le _, by simp, .cons (.nil (fun h => by cases h) (fun h => by cases h)) .nil, by simp [Value.oneCell']⟩
    · have hsp : a = ⟨a.block, a.off, none⟩ ∧ a.block < w.heap.size := by
        obtain ⟨xs, cs, hc, _⟩ := hx 0 h0
        rw [Nat.zero_mul] at hc
        unfold World.cells? at hc
        rw [if_pos (Nat.zero_le _)] at hc
        have h1 := mapM_some_length hc
        have h2 := mapM_some_get hc 0 0 (by simp [hpos])
        have hl : 0 < cs.length := by rw [h1]; simpa using hpos
        rw [List.getElem?_eq_getElem hl] at h2
        exact spot_none (by simpa [Addr.add] using h2)
      obtain ⟨hae, hbl⟩ := hsp
      have each : ∀ i xs, es[i]? = some xs → ∃ cs : List Value, cs.length = sz ∧ (∀ j, j < sz → w.cell? ⟨a.block, a.off + (i * sz + j), none⟩ = cs[j]?) ∧ Q xs ∧ Reps w (fun _ => False) xs cs ∧ ∀ v ∈ cs, v.oneCell' = true := by
        intro i xs hi
        obtain ⟨cs, hc, h1, h2, h3⟩ := hp i xs hi
        rw [hae, add_of_none] at hc
        obtain ⟨q1, q2⟩ := cells?_get hc
        exact ⟨cs, q1, fun j hj => by rw [← q2 j hj, Nat.add_assoc], h1, h2, h3⟩
      have hmem : ∀ x ∈ es, ∃ i, es[i]? = some x := fun x hx => List.mem_iff_getElem?.1 hx
      have hzl : ∀ x ∈ es, x.length = sz := fun x hx => by
        obtain ⟨i, hi⟩ := hmem x hx
        obtain ⟨cs, h1, _, _, h2, _⟩ := each i x hi
        rw [h2.length, h1]
      refine ⟨es, by omega, fun x hx => ⟨hzl x hx, ?_⟩, .cons ?_ .nil, by simp [Value.oneCell']⟩
      · obtain ⟨i, hi⟩ := hmem x hx
        obtain ⟨cs, _, _, h2, _⟩ := each i x hi
        exact h2
      · rw [hae, ← hes]
        refine .sl (fun i j => (w.cell? ⟨a.block, a.off + (i * sz + j), none⟩).getD undef) hzl (by omega) (fun h => by cases h) (fun h => h) hbl (fun i j hi hj => ?_) (fun i j hi hj => ?_) (fun i j x c hi hc => ?_)
        · obtain ⟨cs, h1, h2, _⟩ := each i es[i] (List.getElem?_eq_getElem hi)
          rw [h2 j hj, List.getElem?_eq_getElem (by omega)]; rfl
        · obtain ⟨cs, h1, h2, _, _, h3⟩ := each i es[i] (List.getElem?_eq_getElem hi)
          rw [h2 j hj, List.getElem?_eq_getElem (by omega)]
          exact h3 _ (List.getElem_mem _)
        · obtain ⟨cs, h1, h2, _, h4, _⟩ := each i x hi
          have hj : j < sz := by
            have := (List.getElem?_eq_some_iff.1 hc).1
            rw [h4.length, h1] at this; exact this
          rw [h2 j hj]
          have hv : cs[j]? = some (cs[j]'(by omega)) := List.getElem?_eq_getElem (by omega)
          rw [hv]
          exact h4.get j c _ hc hv
def needTy (P : Program) (tN : TypeId) : Bool := match P.underlying tN with
  | some (.struct gs) => match gs.toList with
    | [g1, g2, g3] => g1.offset == 0 && g2.offset == 1 && g3.offset == 2 && P.cellsOf tN == 3 && P.cellsOf g1.type == 1 && P.cellsOf g2.type == 1 && P.cellsOf g3.type == 1 && decide (0 < P.bytesOf tN) &&
      (match P.underlying g1.type, P.underlying g2.type, P.underlying g3.type with
      | some (.int .i64), some (.int .i64), some (.slice t) => t == tN
      | _, _, _ => false)
    | _ => false
  | _ => false
theorem list_of {p : NeedT → Prop} : ∀ {es : List (List HV)}, (∀ x ∈ es, ∃ n : NeedT, x = n.enc ∧ p n) → ∃ l : List NeedT, es = needsHV l ∧ ∀ n ∈ l, p n
  | [], _ => ⟨[], rfl, by simp⟩
  | x :: r, h => by
    obtain ⟨n, rfl, hn⟩ := h x (by simp)
    obtain ⟨l, rfl, hl⟩ := list_of (es := r) (p := p) (fun y hy => h y (by simp [hy]))
    exact ⟨n :: l, by rw [needsHV], fun y hy => by rcases List.mem_cons.1 hy with rfl | hy; exact hn; exact hl y hy⟩
theorem need_of_trodW {tN : TypeId} (hk : needTy P tN = true) : ∀ (fuel : Nat) (cs : List Value) (x : DataW H × List MemPlace), DataW.trod enc P w 0 sp held fuel tN cs = some x → (∀ n ∈ x.1.weights P tN, n ≤ B) →
    ∃ hs, (∃ n : NeedT, hs = n.enc ∧ NeedB B n) ∧ Reps w (fun _ => False) hs cs ∧ ∀ v ∈ cs, v.oneCell' = true := by
  intro fuel
  induction fuel using Nat.strongRecOn with
  | ind fuel ih =>
    intro cs x h hB
    unfold needTy at hk
    split at hk
    · next gs ht =>
      split at hk
      · next g1 g2 g3 hgs =>
        simp only [Bool.and_eq_true, beq_iff_eq, decide_eq_true_eq] at hk
        obtain ⟨⟨⟨⟨⟨⟨⟨⟨o1, o2⟩, o3⟩, c0⟩, c1⟩, c2⟩, c3⟩, hby⟩, hk⟩ := hk
        split at hk
        · next t' u1 u2 u3 =>
          have hk : t' = tN := by simpa using hk
          subst hk
          obtain ⟨xs, n, rfl, rfl, hl, hxl, hx⟩ := DataW.trod_struct ht h
          simp only [DataW.weights, ht] at hB
          have hg : ∀ i f, [g1, g2, g3][i]? = some f → gs[i]? = some f := fun i f hf => by rw [← hgs] at hf; rw [← Array.getElem?_toList]; exact hf
          have hsz : gs.size = 3 := by have := congrArg List.length hgs; simpa using this
          have hfld : ∀ (i : Nat) (f : Field), [g1, g2, g3][i]? = some f → ∃ y : DataW H × List MemPlace, DataW.trod enc P w 0 sp held n f.type ((cs.drop f.offset).take (P.cellsOf f.type)) = some y ∧ ∀ m ∈ y.1.weights P f.type, m ≤ B := fun i f hf => by
            have hf' := hg i f hf
            have := hx i f hf'
            have hi : i < xs.length := by rw [hxl]; exact (Array.getElem?_eq_some_iff.1 hf').1
            rw [List.getElem?_eq_getElem hi] at this
            exact ⟨_, this, fun m hm => hB m (DataW.weights_mem_each (j := i) (t := f.type) (d := (xs[i]).1) (by simp [hf']) (by simp [List.getElem?_eq_getElem hi]) m hm)⟩
          obtain ⟨y1, h1, _⟩ := hfld 0 g1 rfl
          obtain ⟨y2, h2, _⟩ := hfld 1 g2 rfl
          obtain ⟨y3, h3, hb3⟩ := hfld 2 g3 rfl
          rw [o1, c1] at h1
          rw [o2, c2] at h2
          rw [o3, c3] at h3
          obtain ⟨n1, e1, _, _⟩ := DataW.trod_int u1 h1
          obtain ⟨n2, e2, _, _⟩ := DataW.trod_int u2 h2
          obtain ⟨es, q1, q2, q3, q4⟩ := sl_of_trodQ (Q := fun hs => ∃ n : NeedT, hs = n.enc ∧ NeedB B n) u3 c0 (by decide) hby (fun m hm cs x hx hb => ih m (by omega) cs x hx hb) h3 hb3
          obtain ⟨l, rfl, hlb⟩ := list_of (fun x hx => (q2 x hx).2)
          rw [c0] at hl
          match cs, hl with
          | [v1, v2, v3], _ =>
            simp at e1 e2
            subst e1; subst e2
            refine ⟨_, ⟨.mk n1 n2 l, rfl, .mk _ _ _ (by simpa using q1) hlb⟩, ?_, ?_⟩
            · rw [NeedT.enc]
              simp at q3
              exact .cons (.lit _) (.cons (.lit _) q3)
            · intro v hv
              rcases List.mem_cons.1 hv with rfl | hv
              · rfl
              · rcases List.mem_cons.1 hv with rfl | hv
                · rfl
                · exact q4 v (by simpa using hv)
        · cases hk
      · cases hk
    · cases hk
end Go.Hv
set_option linter.unusedVariables false
set_option linter.unusedSectionVars false
set_option linter.unusedSimpArgs false
/- Conditions, in plain words: whether one is valid, whether it holds, its nodes. -/
namespace Go.Hv
open Go
mutual
theorem needInd {p : NeedT → Prop} (h : ∀ k g s, (∀ x ∈ s, p x) → p (.mk k g s)) (n : NeedT) : p n := by
  match n with
  | .mk k g s => exact h k g s (needIndL h s)
theorem needIndL {p : NeedT → Prop} (h : ∀ k g s, (∀ x ∈ s, p x) → p (.mk k g s)) (l : List NeedT) : ∀ x ∈ l, p x := by
  match l with
  | [] => intro x hx; simp at hx
  | y :: r =>
    intro x hx
    rcases List.mem_cons.1 hx with e | hx
    · rw [e]; exact needInd h y
    · exact needIndL h r x hx
end
mutual
def validN (n : NeedT) (lv : Int) : Bool :=
  match n with
  | .mk k g s => decide (lv ≤ 40) && (if k = 1 ∨ k = 2 then decide (g = 0 ∧ s.length = 0) else if k = 3 then decide (0 ≤ g ∧ g < 16777216 ∧ s.length = 0) else if k = 4 ∨ k = 5 then decide (g = 0 ∧ 2 ≤ s.length) && validsN s (lv + 1) else false)
  termination_by structural n
def validsN (l : List NeedT) (lv : Int) : Bool :=
  match l with
  | [] => true
  | x :: r => validN x lv && validsN r lv
  termination_by structural l
end
theorem validsN_iff (l : List NeedT) (lv : Int) : validsN l lv = true ↔ ∀ x ∈ l, validN x lv = true := by
  induction l with
  | nil => simp [validsN]
  | cons x r ih => rw [validsN, Bool.and_eq_true, ih]; simp
theorem validsN_take {l : List NeedT} {lv : Int} {i : Nat} (hi : i < l.length) : validsN (l.take (i + 1)) lv = (validsN (l.take i) lv && validN l[i] lv) := by
  have h : ∀ a b : List NeedT, validsN (a ++ b) lv = (validsN a lv && validsN b lv) := by
    intro a b
    induction a with
    | nil => simp [validsN]
    | cons x a ih => rw [List.cons_append, validsN, validsN, ih, Bool.and_assoc]
  rw [List.take_succ_eq_append_getElem hi, h, validsN, validsN, Bool.and_true]
mutual
def holdsN (n : NeedT) (codes : List Int) : Bool :=
  match n with
  | .mk k g s => if k = 1 then true else if k = 2 then false else if k = 3 then decide (g ∈ codes) else holdL (decide (k = 5)) (decide (k = 4)) s codes
  termination_by structural n
def holdL (o d : Bool) (l : List NeedT) (codes : List Int) : Bool :=
  match l with
  | [] => d
  | x :: r => if holdsN x codes = o then o else holdL o d r codes
  termination_by structural l
end
theorem holdL_none {o d : Bool} {codes : List Int} : ∀ {l : List NeedT}, (∀ x ∈ l, holdsN x codes ≠ o) → holdL o d l codes = d
  | [], _ => by rw [holdL]
  | x :: r, h => by rw [holdL, if_neg (h x (by simp))]; exact holdL_none fun y hy => h y (by simp [hy])
theorem holdL_some {o d : Bool} {codes : List Int} : ∀ {l : List NeedT} {x : NeedT}, x ∈ l → holdsN x codes = o → holdL o d l codes = o
  | y :: r, x, hx, h => by
    rw [holdL]
    split
    · rfl
    · next hy =>
      rcases List.mem_cons.1 hx with e | hx
      · rw [← e] at hy; exact absurd h hy
      · exact holdL_some hx h
def Undec (o : Bool) (codes : List Int) (l : List NeedT) (i : Nat) : Prop := ∀ x ∈ l.take i, holdsN x codes ≠ o
theorem Undec.zero (o : Bool) (codes : List Int) (l : List NeedT) : Undec o codes l 0 := by simp [Undec]
theorem Undec.succ {o : Bool} {codes : List Int} {l : List NeedT} {i : Nat} (h : Undec o codes l i) (hi : i < l.length) (hx : holdsN l[i] codes ≠ o) : Undec o codes l (i + 1) := by
  unfold Undec at h ⊢
  rw [List.take_succ_eq_append_getElem hi]
  intro x hm
  rcases List.mem_append.1 hm with hm | hm
  · exact h x hm
  · rw [List.mem_singleton.1 hm]; exact hx
mutual
def nodesN (n : NeedT) (lim : Int) : Int :=
  match n with
  | .mk _ _ s => nodesL s 1 lim
  termination_by structural n
def nodesL (l : List NeedT) (k lim : Int) : Int :=
  match l with
  | [] => k
  | x :: r => if k ≤ lim then nodesL r (k + nodesN x (lim - k)) lim else k
  termination_by structural l
end
mutual
theorem nodesN_le (n : NeedT) (lim : Int) : 1 ≤ nodesN n lim ∧ (nodesN n lim ≤ 1 ∨ nodesN n lim ≤ lim + 1) := by
  match n with
  | .mk k g s =>
    rw [nodesN]
    have := nodesL_le s 1 lim (by omega)
    omega
theorem nodesL_le (l : List NeedT) (k lim : Int) (hk : 1 ≤ k) : k ≤ nodesL l k lim ∧ (nodesL l k lim ≤ k ∨ nodesL l k lim ≤ lim + 1) := by
  match l with
  | [] => rw [nodesL]; omega
  | x :: r =>
    rw [nodesL]
    split
    · have h1 := nodesN_le x (lim - k)
      have h2 := nodesL_le r (k + nodesN x (lim - k)) lim (by omega)
      omega
    · omega
end
end Go.Hv
set_option linter.unusedVariables false
set_option linter.unusedSimpArgs false
/- The codes of each document, gathered out of a segment's postings (layer 29, Eval). -/
namespace Go.Hv
def fI (p : List (Int × Int)) : List Int := p.foldl (fun a x => adK a x.1) []
def gatI (p : List (Int × Int)) (c : Int) : List Int := (p.filter fun x => decide (x.1 = c)).map Prod.snd
theorem fI_snoc (p : List (Int × Int)) (c g : Int) : fI (p ++ [(c, g)]) = adK (fI p) c := by simp [fI]
theorem gatI_snoc (p : List (Int × Int)) (c g c' : Int) : gatI (p ++ [(c, g)]) c' = gatI p c' ++ (if c = c' then [g] else []) := by
  unfold gatI
  rw [List.filter_append, List.map_append]
  congr 1
  by_cases h : c = c' <;> simp [h]
theorem fI_mem (p : List (Int × Int)) (c : Int) : c ∈ fI p ↔ ∃ x ∈ p, x.1 = c := by
  have : ∀ (p : List (Int × Int)) (a : List Int), c ∈ p.foldl (fun a x => adK a x.1) a ↔ c ∈ a ∨ ∃ x ∈ p, x.1 = c := by
    intro p
    induction p with
    | nil => simp
    | cons x p ih =>
      intro a
      rw [List.foldl_cons, ih, adK_mem]
      simp [or_assoc, eq_comm]
  unfold fI; rw [this]; simp
theorem fI_nodup (p : List (Int × Int)) : (fI p).Nodup := by
  have : ∀ (p : List (Int × Int)) (a : List Int), a.Nodup → (p.foldl (fun a x => adK a x.1) a).Nodup := by
    intro p
    induction p with
    | nil => exact fun a h => h
    | cons x p ih => exact fun a h => ih _ (adK_nodup h _)
  exact this p [] (by simp)
theorem fI_length (p : List (Int × Int)) : (fI p).length ≤ p.length := by
  have : ∀ (p : List (Int × Int)) (a : List Int), (p.foldl (fun a x => adK a x.1) a).length ≤ a.length + p.length := by
    intro p
    induction p with
    | nil => exact fun a => Nat.le_refl _
    | cons x p ih =>
      intro a
      rw [List.foldl_cons]
      refine Nat.le_trans (ih _) ?_
      have : (adK a x.1).length ≤ a.length + 1 := by unfold adK; split <;> simp
      simp; omega
  have := this p []
  simpa [fI] using this
theorem gatI_length (p : List (Int × Int)) (c : Int) : (gatI p c).length ≤ p.length := by
  unfold gatI; rw [List.length_map]; exact List.length_filter_le _ _
theorem gatI_none {p : List (Int × Int)} {c : Int} (h : c ∉ fI p) : gatI p c = [] := by
  unfold gatI
  rw [List.filter_eq_nil_iff.2 (fun x hx => by
    intro h2
    exact h ((fI_mem p c).2 ⟨x, hx, of_decide_eq_true h2⟩))]
  rfl
theorem gatI_append (a b : List (Int × Int)) (c : Int) : gatI (a ++ b) c = gatI a c ++ gatI b c := by simp [gatI]
def evP (p : Post) : List (Int × Int) := p.docs.map fun x => (x.code, p.code)
def evQ (g : List Post) : List (Int × Int) := g.flatMap evP
def pJ (g : List Post) (p : Post) (k j : Nat) : List (Int × Int) := evQ (g.take k) ++ (evP p).take j
theorem pJ_zero (g : List Post) (p : Post) (k : Nat) : pJ g p k 0 = evQ (g.take k) := by simp [pJ]
theorem pJ_succ (g : List Post) (p : Post) (k : Nat) {j : Nat} (h : j < p.docs.length) : pJ g p k (j + 1) = pJ g p k j ++ [(p.docs[j].code, p.code)] := by
  have h' : j < (evP p).length := by simpa [evP] using h
  unfold pJ
  rw [List.append_assoc, List.take_succ_eq_append_getElem h']
  simp [evP]
theorem pJ_end (g : List Post) {k : Nat} (h : k < g.length) : pJ g g[k] k g[k].docs.length = evQ (g.take (k + 1)) := by
  unfold pJ
  rw [List.take_of_length_le (l := evP g[k]) (by simp [evP])]
  rw [List.take_succ_eq_append_getElem (i := k) h]
  unfold evQ
  rw [List.flatMap_append, List.flatMap_cons, List.flatMap_nil, List.append_nil]
theorem evQ_length {g : List Post} {m : Nat} (h : ∀ p ∈ g, p.docs.length ≤ m) : (evQ g).length ≤ g.length * m := by
  induction g with
  | nil => simp [evQ]
  | cons p g ih =>
    have := ih fun x hx => h x (by simp [hx])
    have hp := h p (by simp)
    unfold evQ at this ⊢
    rw [List.flatMap_cons, List.length_append, List.length_cons, Nat.succ_mul]
    have : (evP p).length = p.docs.length := by simp [evP]
    omega
theorem filter_post {l : List Doc} (hl : IncBy Doc.id l) (c : Int) {d : Doc} (hd : d ∈ l) : (postV l c).filter (fun x => decide (x.code = d.id)) = if offV d.text c = [] then [] else [⟨d.id, offV d.text c⟩] := by
  unfold postV
  induction l with
  | nil => simp at hd
  | cons x l ih =>
    have hl' := hl
    unfold IncBy at hl'
    rw [List.pairwise_cons] at hl'
    rw [List.map_cons]
    rcases List.mem_cons.1 hd with rfl | hd'
    · have hrest : (((l.map fun d => (⟨d.id, offV d.text c⟩ : Gram)).filter fun g => decide (g.off ≠ [])).filter fun x => decide (x.code = d.id)) = [] := by
        rw [List.filter_eq_nil_iff]
        intro g hg
        obtain ⟨y, hy, rfl⟩ := List.mem_map.1 (List.mem_filter.1 hg).1
        have := hl'.1 y hy
        simp; omega
      by_cases h : offV d.text c = []
      · rw [List.filter_cons_of_neg (by simpa using h), if_pos h]; exact hrest
      · rw [List.filter_cons_of_pos (by simpa using h), List.filter_cons_of_pos (by simp), if_neg h, hrest]
    · have hne : x.id ≠ d.id := by have := hl'.1 d hd'; omega
      have ih := ih hl'.2 hd'
      by_cases h : offV x.text c = []
      · rw [List.filter_cons_of_neg (by simpa using h)]; exact ih
      · rw [List.filter_cons_of_pos (by simpa using h), List.filter_cons_of_neg (by simpa using hne)]; exact ih
theorem gatI_evP {l : List Doc} (hl : IncBy Doc.id l) (c : Int) {d : Doc} (hd : d ∈ l) : gatI (evP ⟨c, postV l c⟩) d.id = if offV d.text c = [] then [] else [c] := by
  unfold gatI evP
  rw [List.filter_map, List.map_map]
  have : ((fun x : Int × Int => decide (x.1 = d.id)) ∘ fun x : Gram => (x.code, c)) = fun x => decide (x.code = d.id) := rfl
  show List.map _ (List.filter ((fun x : Int × Int => decide (x.1 = d.id)) ∘ fun x : Gram => (x.code, c)) (postV l c)) = _
  rw [this, filter_post hl c hd]
  split <;> rfl
theorem gatI_evQ {l : List Doc} (hl : IncBy Doc.id l) {d : Doc} (hd : d ∈ l) : gatI (evQ (gramsOf l)) d.id = ofV d.text := by
  have h : ∀ cs : List Int, gatI (evQ (cs.map fun c => (⟨c, postV l c⟩ : Post))) d.id = cs.filter fun c => decide (offV d.text c ≠ []) := by
    intro cs
    induction cs with
    | nil => rfl
    | cons c cs ih =>
      rw [List.map_cons]
      unfold evQ at ih ⊢
      rw [List.flatMap_cons, gatI_append, ih, gatI_evP hl c hd]
      by_cases h : offV d.text c = []
      · rw [if_pos h, List.filter_cons_of_neg (by simpa using h)]; rfl
      · rw [if_neg h, List.filter_cons_of_pos (by simpa using h)]; rfl
  unfold gramsOf
  rw [h]
  apply inc_unique
  · exact (codesV_inc l).sublist List.filter_sublist
  · exact ofK_inc _ _
  · intro c
    rw [List.mem_filter, decide_eq_true_eq, offV_ne]
    constructor
    · exact fun h => h.2
    · exact fun h => ⟨(codesV_mem l c).2 ⟨d, hd, h⟩, h⟩
end Go.Hv
set_option linter.unusedVariables false
set_option linter.unusedSimpArgs false
/- What segments answer: plain words that lean on the walks of locate (layer 29). -/
namespace Go.Hv
open Go Go.Hv Go.Proofs Go.RowKit
open Go.Proofs.YtlbmbnpknobjdaaGreatDoor
theorem findV_mem (s t : List UInt8) (x : Int) : x ∈ findV s t ↔ ∃ i : Nat, i ≤ s.length ∧ occ s t i = true ∧ x = i := by
  rw [← findK_all]
  unfold findK
  simp only [List.mem_map, List.mem_filter, List.mem_range]
  constructor
  · rintro ⟨i, ⟨h1, h2⟩, rfl⟩; exact ⟨i, by omega, h2, rfl⟩
  · rintro ⟨i, h1, h2, rfl⟩; exact ⟨i, ⟨by omega, h2⟩, rfl⟩
theorem offK_mem {s : List UInt8} {m : Nat} {c x : Int} (h : x ∈ offK s m c) : ∃ i : Nat, i < m ∧ codeAt s i = c ∧ x = (i : Int) := by
  unfold offK at h
  obtain ⟨i, hi, rfl⟩ := List.mem_map.1 h
  rw [List.mem_filter] at hi
  exact ⟨i, by simpa using hi.1, by simpa using hi.2, rfl⟩
theorem atV_gramsM (s : List UInt8) (c x : Int) : x ∈ atV (gramsV s) c ↔ ∃ j : Nat, j < s.length - 2 ∧ codeAt s j = c ∧ x = j := by
  unfold atV
  split
  · next g hg =>
    have hm := List.mem_of_find?_eq_some hg
    have hc : g.code = c := by simpa using List.find?_some hg
    obtain ⟨c', hc', rfl⟩ := List.mem_map.1 hm
    dsimp only at hc ⊢
    subst hc
    constructor
    · intro h; exact offK_mem h
    · rintro ⟨j, h1, h2, rfl⟩
      unfold offK
      exact List.mem_map.2 ⟨j, List.mem_filter.2 ⟨List.mem_range.2 h1, by simpa using h2⟩, rfl⟩
  · next hg =>
    constructor
    · intro h; cases h
    · rintro ⟨j, h1, h2, rfl⟩
      rw [List.find?_eq_none] at hg
      have := hg ⟨c, offK s (s.length - 2) c⟩ (List.mem_map.2 ⟨c, (ofV_mem s c).2 ⟨j, h1, h2⟩, rfl⟩)
      simp at this
theorem codeAt_eqq {s t : List UInt8} {i j : Nat} (hi : i + 2 < s.length) (hj : j + 2 < t.length) : codeAt s i = codeAt t j ↔ (foldB s[i] = foldB t[j] ∧ foldB s[i + 1] = foldB t[j + 1] ∧ foldB s[i + 2] = foldB t[j + 2]) := by
  rw [codeAt_eq hi, codeAt_eq hj]
  constructor
  · intro h; exact code3_inj h
  · rintro ⟨h1, h2, h3⟩; rw [h1, h2, h3]
theorem findV_inc (s t : List UInt8) : Inc (findV s t) := by
  unfold findV findK Inc
  rw [List.pairwise_map]
  refine List.Pairwise.sublist List.filter_sublist ?_
  exact List.pairwise_lt_range.imp fun h => by omega
theorem exact_cand {s t : List UInt8} (hs : s.length ≤ 900) (ht : ¬ t.length < 3) : candV (gramsV s) t = findV (foldS s) (foldS t) := by
  have hv : ∀ x : Int, x ∈ candV (gramsV s) t ↔ x ∈ atV (gramsV s) (codeAt t 0) ∧ 0 ≤ x ∧ ∀ i, i < t.length - 2 → x + i ∈ atV (gramsV s) (codeAt t i) := fun x => by
    unfold candV candI
    rw [if_neg ht, ins_foldl_mem, List.take_length, List.mem_filter, candJ_iff]
    simp
  have hinc : Inc (candV (gramsV s) t) := by unfold candV; rw [if_neg ht]; exact candI_inc _ _ _
  refine inc_unique hinc (findV_inc _ _) fun x => ?_
  rw [hv, findV_mem]
  constructor
  · rintro ⟨h1, h2, h3⟩
    obtain ⟨k, hk, _, rfl⟩ := (atV_gramsM s _ x).1 h1
    have hat : ∀ i, i < t.length - 2 → k + i < s.length - 2 ∧ codeAt s (k + i) = codeAt t i := fun i hi => by
      obtain ⟨j, hj, hc, he⟩ := (atV_gramsM s _ _).1 (h3 i hi)
      obtain rfl : j = k + i := by omega
      exact ⟨hj, hc⟩
    have hend := (hat (t.length - 3) (by omega)).1
    refine ⟨k, by simp; omega, ?_, rfl⟩
    rw [occ_iff]
    refine ⟨.inl (by simp; omega), fun j hj => ?_⟩
    have hj' : j < t.length := by simpa using hj
    have e1 : (foldS s)[k + j]? = some (foldB (s[k + j]'(by omega))) := by simp [foldS, List.getElem?_eq_getElem (show k + j < s.length by omega)]
    have e2 : (foldS t)[j]? = some (foldB t[j]) := by simp [foldS, List.getElem?_eq_getElem hj']
    rw [e1, e2]
    congr 1
    by_cases hl : j < t.length - 2
    · have h := (hat j hl)
      exact ((codeAt_eqq (by omega) (by omega)).1 h.2).1
    · have h := (hat (t.length - 3) (by omega))
      have h' := (codeAt_eqq (by omega) (by omega)).1 h.2
      by_cases e : j = t.length - 2
      · have := h'.2.1
        simp only [show k + (t.length - 3) + 1 = k + j by omega, show t.length - 3 + 1 = j by omega] at this
        exact this
      · have := h'.2.2
        simp only [show k + (t.length - 3) + 2 = k + j by omega, show t.length - 3 + 2 = j by omega] at this
        exact this
  · rintro ⟨k, hk, ho, rfl⟩
    rw [occ_iff] at ho
    obtain ⟨h1, h2⟩ := ho
    have hroom : k + t.length ≤ s.length := by
      rcases h1 with h | h
      · simpa using h
      · have := congrArg List.length h; simp at this; subst this; simp at ht
    have hb : ∀ j (hj : j < t.length), foldB (s[k + j]'(by omega)) = foldB t[j] := fun j hj => by
      have := h2 j (by simpa using hj)
      simp only [foldS, List.getElem?_map, List.getElem?_eq_getElem (show k + j < s.length by omega), List.getElem?_eq_getElem hj, Option.map_some, Option.some.injEq] at this
      exact this
    have hat : ∀ i, i < t.length - 2 → ((k : Int) + i) ∈ atV (gramsV s) (codeAt t i) := fun i hi => by
      refine (atV_gramsM s _ _).2 ⟨k + i, by omega, ?_, by omega⟩
      exact (codeAt_eqq (by omega) (by omega)).2 ⟨hb i (by omega), hb (i + 1) (by omega), hb (i + 2) (by omega)⟩
    exact ⟨by have := hat 0 (by omega); simpa using this, by omega, hat⟩
theorem candV_congr {a b : List Gram} {t : List UInt8} (h : ∀ i, i + 2 < t.length → atV a (codeAt t i) = atV b (codeAt t i)) : candV a t = candV b t := by
  unfold candV
  split
  · rfl
  · next h3 =>
    have h0 := h 0 (by omega)
    unfold candI
    rw [h0]
    congr 1
    apply List.filter_congr
    intro x hx
    unfold candJ
    congr 1
    rw [Bool.eq_iff_iff, List.all_eq_true, List.all_eq_true]
    constructor
    · intro H i hi
      have := H i hi
      rw [h i (by have := List.mem_range.1 hi; omega)] at this
      exact this
    · intro H i hi
      have := H i hi
      rw [← h i (by have := List.mem_range.1 hi; omega)] at this
      exact this
theorem cand_doc {s t : List UInt8} (hs : s.length ≤ 900) (ht : ¬ t.length < 3) : candV ((ofV t).map fun c => ⟨c, offV s c⟩) t = findV (foldS s) (foldS t) := by
  rw [← exact_cand hs ht]
  refine candV_congr fun i hi => ?_
  rw [atV_map, atV_grams, if_pos ((ofV_mem t _).2 ⟨i, by omega, rfl⟩)]
theorem find_code {s t : List UInt8} (hs : s.length ≤ 900) (ht : ¬ t.length < 3) (h : findV (foldS s) (foldS t) ≠ []) {c : Int} (hc : c ∈ ofV t) : offV s c ≠ [] := by
  rw [← exact_cand hs ht] at h
  obtain ⟨x, hx⟩ := List.exists_mem_of_ne_nil _ h
  obtain ⟨i, hi, rfl⟩ := (ofV_mem t c).1 hc
  unfold candV candI at hx
  rw [if_neg ht, ins_foldl_mem, List.take_length, List.mem_filter, candJ_iff] at hx
  have hm : x + i ∈ atV (gramsV s) (codeAt t i) := by
    rcases hx with hx | hx
    · simp at hx
    · exact hx.2.2 i hi
  rw [atV_grams] at hm
  intro e
  rw [e] at hm
  simp at hm
def find29 (l : List Doc) (t : List UInt8) : List Gram := (l.map fun d => (⟨d.id, findV (foldS d.text) (foldS t)⟩ : Gram)).filter fun g => decide (g.off ≠ [])
theorem find29_snoc (l : List Doc) (t : List UInt8) {k : Nat} (hk : k < l.length) : find29 (l.take (k + 1)) t = find29 (l.take k) t ++ if findV (foldS l[k].text) (foldS t) = [] then [] else [⟨l[k].id, findV (foldS l[k].text) (foldS t)⟩] := by
  unfold find29
  rw [List.take_succ_eq_append_getElem hk, List.map_append, List.filter_append]
  congr 1
  by_cases h : findV (foldS l[k].text) (foldS t) = [] <;> simp [h]
theorem find29_len (l : List Doc) (t : List UInt8) (k : Nat) : (find29 (l.take k) t).length ≤ l.length := by
  unfold find29
  have h1 := List.length_filter_le (fun g : Gram => decide (g.off ≠ [])) ((l.take k).map fun d => (⟨d.id, findV (foldS d.text) (foldS t)⟩ : Gram))
  rw [List.length_map, List.length_take] at h1; omega
def haveV (l : List Doc) (c : Int) : List Doc := l.filter fun d => decide (offV d.text c ≠ [])
theorem find29_have {l : List Doc} {t : List UInt8} (hl : ∀ d ∈ l, d.text.length ≤ 900) (ht : ¬ t.length < 3) {c : Int} (hc : c ∈ ofV t) : find29 (haveV l c) t = find29 l t := by
  unfold find29 haveV
  induction l with
  | nil => rfl
  | cons d l ih =>
    have ih := ih fun x hx => hl x (by simp [hx])
    have hd := hl d (by simp)
    rw [List.map_cons]
    by_cases h : offV d.text c = []
    · have hf : findV (foldS d.text) (foldS t) = [] := Classical.byContradiction fun hne => find_code hd ht hne hc h
      rw [List.filter_cons_of_neg (by simpa using h), List.filter_cons_of_neg (by simpa using hf)]
      exact ih
    · rw [List.filter_cons_of_pos (by simpa using h), List.map_cons]
      by_cases hf : findV (foldS d.text) (foldS t) = []
      · rw [List.filter_cons_of_neg (by simpa using hf), List.filter_cons_of_neg (by simpa using hf)]; exact ih
      · rw [List.filter_cons_of_pos (by simpa using hf), List.filter_cons_of_pos (by simpa using hf), ih]
def eval29 (l : List Doc) (n : NeedT) : List Int := (l.filter fun d => holdsN n (ofV d.text)).map Doc.id
end Go.Hv
