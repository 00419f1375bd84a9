import Derived.Test.YthdljfognblpbaaGreatDoorWB4
set_option linter.unusedVariables false
set_option linter.unusedSimpArgs false
namespace Go.Hv
open Go Go.Hv Go.Proofs Go.RowKit
open Go.Proofs.YthdljfognblpbaaGreatDoor
theorem ne_len {α : Type} {a b : List α} (h : ¬ a.length = b.length) : ¬ a = b := fun e => h (by rw [e])
theorem ne_at {α : Type} {a b : List α} {k : Nat} (ha : k < a.length) (hb : k < b.length) (h : ¬ a[k] = b[k]) : ¬ a = b := fun e => by subst e; exact h rfl
set_option maxHeartbeats 2000000 in
theorem Strings_spec (a b : List (List UInt8)) (ha : a.length ≤ 140737488355328) : Spec1 Tryz.prog 98 [.sl 1 false (strsHV a), .sl 1 false (strsHV b)] (bo (decide (a = b))) := by
  refine Spec1.of_HT Tryz.func98 rfl (by rw [Tryz.ntmps98]; simp) rfl ?_
  rw [Tryz.ntmps98]
  refine HT.seq ?_
  refine HT.region ?_   -- R0
  simp (disch := first | omega | (simp <;> omega) | fail) [wrap_i64, wrap_u64, wrap_u8']
  refine HT.seq ?_
  refine HT.seq ?_
  by_cases c1 : ¬ a.length = b.length
  · skip
    refine HT.region ?_   -- R1
    simp (disch := first | omega | (simp <;> omega) | fail) [wrap_i64, wrap_u64, wrap_u8']
    refine HT.cond' ?_   -- if 10
    simp (disch := first | omega | (simp <;> omega) | fail) [wrap_i64, wrap_u64, wrap_u8']
    refine HT.seq ?_
    refine HT.region ?_   -- R2
    simp (disch := first | omega | (simp <;> omega) | fail) [wrap_i64, wrap_u64, wrap_u8']
    refine HT.ret ?_
    simp (disch := first | omega | (simp <;> omega) | fail) [wrap_i64, wrap_u64, wrap_u8', ne_len c1]
  refine HT.region ?_   -- R1
  simp (disch := first | omega | (simp <;> omega) | fail) [wrap_i64, wrap_u64, wrap_u8']
  refine HT.cond' ?_   -- if 10
  simp (disch := first | omega | (simp <;> omega) | fail) [wrap_i64, wrap_u64, wrap_u8']
  refine HT.skip ?_
  simp (disch := first | omega | (simp <;> omega) | fail) [wrap_i64, wrap_u64, wrap_u8']
  refine HT.seq ?_
  refine HT.seq ?_
  refine HT.region ?_   -- R3
  simp (disch := first | omega | (simp <;> omega) | fail) [wrap_i64, wrap_u64, wrap_u8']
  refine HT.block ?_
  refine HT.loopK (fun k : {k : Nat // k ≤ a.length ∧ ∀ i, i < k → a[i]? = b[i]?} => [.s 5 (i64 k)]) [0, 1] [] (fun k => a.length - k) (⟨0, by omega, by intro i hi; omega⟩) ?_ ?_   -- block 0 turned [5]
  · simp (disch := first | omega | (simp <;> omega) | fail) [wrap_i64, wrap_u64, wrap_u8']
  rintro ⟨k, hk, hg⟩
  simp (disch := first | omega | (simp <;> omega) | fail) [wrap_i64, wrap_u64, wrap_u8']
  refine HT.seq ?_
  refine HT.seq ?_
  refine HT.region ?_   -- R4
  simp (disch := first | omega | (simp <;> omega) | fail) [wrap_i64, wrap_u64, wrap_u8']
  refine HT.cond' ?_   -- if 14
  simp (disch := first | omega | (simp <;> omega) | fail) [wrap_i64, wrap_u64, wrap_u8']
  refine ⟨fun h14 => ?_, fun h14 => ?_⟩
  · skip
    have hk' : k < a.length := by omega
    have hkb : k < b.length := by omega
    refine HT.skip ?_
    simp (disch := first | omega | (simp <;> omega) | fail) [wrap_i64, wrap_u64, wrap_u8']
    refine HT.seq ?_
    refine HT.block ?_
    refine HT.seq ?_
    by_cases d1 : ¬ a[k] = b[k]
    · skip
      refine HT.draw [.batch [0, 1, 2, 3, 4, 5, 6, 7, 8]] (by kernel_rfl) ?_   -- R6
      simp (disch := first | omega | (simp <;> omega) | fail) [wrap_i64, wrap_u64, wrap_u8', d1]
      refine HT.cond' ?_   -- if 25
      simp (disch := first | omega | (simp <;> omega) | fail) [wrap_i64, wrap_u64, wrap_u8']
      refine HT.seq ?_
      refine HT.region ?_   -- R7
      simp (disch := first | omega | (simp <;> omega) | fail) [wrap_i64, wrap_u64, wrap_u8']
      refine HT.ret ?_
      simp (disch := first | omega | (simp <;> omega) | fail) [wrap_i64, wrap_u64, wrap_u8', ne_at hk' hkb d1]
    rw [Classical.not_not] at d1
    refine HT.draw [.batch [0, 1, 2, 3, 4, 5, 6, 7, 8]] (by kernel_rfl) ?_   -- R6
    simp (disch := first | omega | (simp <;> omega) | fail) [wrap_i64, wrap_u64, wrap_u8', d1]
    refine HT.cond' ?_   -- if 25
    simp (disch := first | omega | (simp <;> omega) | fail) [wrap_i64, wrap_u64, wrap_u8']
    refine HT.skip ?_
    simp (disch := first | omega | (simp <;> omega) | fail) [wrap_i64, wrap_u64, wrap_u8']
    refine HT.region ?_   -- R5
    simp (disch := first | omega | (simp <;> omega) | fail) [wrap_i64, wrap_u64, wrap_u8']
    refine Round.mk' (⟨k + 1, by omega, agreeX hg (by rw [List.getElem?_eq_getElem hk', List.getElem?_eq_getElem hkb, d1])⟩) (by dsimp only; omega) rfl ?_
    simp (disch := first | omega | (simp <;> omega) | fail) [wrap_i64, wrap_u64, wrap_u8']
  · skip
    obtain rfl : k = a.length := by omega
    refine HT.exit ?_
    simp (disch := first | omega | (simp <;> omega) | fail) [wrap_i64, wrap_u64, wrap_u8']
    refine HT.seq ?_
    refine HT.region ?_   -- R8
    simp (disch := first | omega | (simp <;> omega) | fail) [wrap_i64, wrap_u64, wrap_u8']
    refine HT.ret ?_
    have hx : a = b := extX (by omega) hg
    simp (disch := first | omega | (simp <;> omega) | fail) [wrap_i64, wrap_u64, wrap_u8', hx]
set_option maxHeartbeats 2000000 in
theorem Same5_spec (a b : List Int) (ha : a.length ≤ 140737488355328) : Spec1 Tryz.prog 99 [.sl 1 false (intsHV a), .sl 1 false (intsHV b)] (bo (decide (a = b))) := by
  refine Spec1.of_HT Tryz.func99 rfl (by rw [Tryz.ntmps99]; simp) rfl ?_
  rw [Tryz.ntmps99]
  refine HT.seq ?_
  refine HT.region ?_   -- R0
  simp (disch := first | omega | (simp <;> omega) | fail) [wrap_i64, wrap_u64, wrap_u8']
  refine HT.seq ?_
  refine HT.seq ?_
  by_cases c1 : ¬ a.length = b.length
  · skip
    refine HT.region ?_   -- R1
    simp (disch := first | omega | (simp <;> omega) | fail) [wrap_i64, wrap_u64, wrap_u8']
    refine HT.cond' ?_   -- if 10
    simp (disch := first | omega | (simp <;> omega) | fail) [wrap_i64, wrap_u64, wrap_u8']
    refine HT.seq ?_
    refine HT.region ?_   -- R2
    simp (disch := first | omega | (simp <;> omega) | fail) [wrap_i64, wrap_u64, wrap_u8']
    refine HT.ret ?_
    simp (disch := first | omega | (simp <;> omega) | fail) [wrap_i64, wrap_u64, wrap_u8', ne_len c1]
  refine HT.region ?_   -- R1
  simp (disch := first | omega | (simp <;> omega) | fail) [wrap_i64, wrap_u64, wrap_u8']
  refine HT.cond' ?_   -- if 10
  simp (disch := first | omega | (simp <;> omega) | fail) [wrap_i64, wrap_u64, wrap_u8']
  refine HT.skip ?_
  simp (disch := first | omega | (simp <;> omega) | fail) [wrap_i64, wrap_u64, wrap_u8']
  refine HT.seq ?_
  refine HT.seq ?_
  refine HT.region ?_   -- R3
  simp (disch := first | omega | (simp <;> omega) | fail) [wrap_i64, wrap_u64, wrap_u8']
  refine HT.block ?_
  refine HT.loopK (fun k : {k : Nat // k ≤ a.length ∧ ∀ i, i < k → a[i]? = b[i]?} => [.s 5 (i64 k)]) [0, 1] [] (fun k => a.length - k) (⟨0, by omega, by intro i hi; omega⟩) ?_ ?_   -- block 0 turned [5]
  · simp (disch := first | omega | (simp <;> omega) | fail) [wrap_i64, wrap_u64, wrap_u8']
  rintro ⟨k, hk, hg⟩
  simp (disch := first | omega | (simp <;> omega) | fail) [wrap_i64, wrap_u64, wrap_u8']
  refine HT.seq ?_
  refine HT.seq ?_
  refine HT.region ?_   -- R4
  simp (disch := first | omega | (simp <;> omega) | fail) [wrap_i64, wrap_u64, wrap_u8']
  refine HT.cond' ?_   -- if 14
  simp (disch := first | omega | (simp <;> omega) | fail) [wrap_i64, wrap_u64, wrap_u8']
  refine ⟨fun h14 => ?_, fun h14 => ?_⟩
  · skip
    have hk' : k < a.length := by omega
    have hkb : k < b.length := by omega
    refine HT.skip ?_
    simp (disch := first | omega | (simp <;> omega) | fail) [wrap_i64, wrap_u64, wrap_u8']
    refine HT.seq ?_
    refine HT.block ?_
    refine HT.seq ?_
    by_cases d1 : ¬ a[k] = b[k]
    · skip
      refine HT.draw [.batch [0, 1, 2, 3, 4, 5, 6, 7, 8]] (by kernel_rfl) ?_   -- R6
      simp (disch := first | omega | (simp <;> omega) | fail) [wrap_i64, wrap_u64, wrap_u8', d1]
      refine HT.cond' ?_   -- if 25
      simp (disch := first | omega | (simp <;> omega) | fail) [wrap_i64, wrap_u64, wrap_u8']
      refine HT.seq ?_
      refine HT.region ?_   -- R7
      simp (disch := first | omega | (simp <;> omega) | fail) [wrap_i64, wrap_u64, wrap_u8']
      refine HT.ret ?_
      simp (disch := first | omega | (simp <;> omega) | fail) [wrap_i64, wrap_u64, wrap_u8', ne_at hk' hkb d1]
    rw [Classical.not_not] at d1
    refine HT.draw [.batch [0, 1, 2, 3, 4, 5, 6, 7, 8]] (by kernel_rfl) ?_   -- R6
    simp (disch := first | omega | (simp <;> omega) | fail) [wrap_i64, wrap_u64, wrap_u8', d1]
    refine HT.cond' ?_   -- if 25
    simp (disch := first | omega | (simp <;> omega) | fail) [wrap_i64, wrap_u64, wrap_u8']
    refine HT.skip ?_
    simp (disch := first | omega | (simp <;> omega) | fail) [wrap_i64, wrap_u64, wrap_u8']
    refine HT.region ?_   -- R5
    simp (disch := first | omega | (simp <;> omega) | fail) [wrap_i64, wrap_u64, wrap_u8']
    refine Round.mk' (⟨k + 1, by omega, agreeX hg (by rw [List.getElem?_eq_getElem hk', List.getElem?_eq_getElem hkb, d1])⟩) (by dsimp only; omega) rfl ?_
    simp (disch := first | omega | (simp <;> omega) | fail) [wrap_i64, wrap_u64, wrap_u8']
  · skip
    obtain rfl : k = a.length := by omega
    refine HT.exit ?_
    simp (disch := first | omega | (simp <;> omega) | fail) [wrap_i64, wrap_u64, wrap_u8']
    refine HT.seq ?_
    refine HT.region ?_   -- R8
    simp (disch := first | omega | (simp <;> omega) | fail) [wrap_i64, wrap_u64, wrap_u8']
    refine HT.ret ?_
    have hx : a = b := extX (by omega) hg
    simp (disch := first | omega | (simp <;> omega) | fail) [wrap_i64, wrap_u64, wrap_u8', hx]
def DocQ (d : Doc) : Prop := d.repo.length ≤ 1000000 ∧ d.path.length ≤ 1000000 ∧ d.text.length ≤ 1000000 ∧ d.on.length ≤ 140737488355328 ∧ ∀ s ∈ d.on, s.length ≤ 140737488355328
theorem DocQ.kb {d : Doc} (h : DocQ d) : KB (keyV d) := ⟨by have := h.1; show d.repo.length ≤ _; omega, by have := h.2.1; show d.path.length ≤ _; omega, by have := h.2.2.1; show d.text.length ≤ _; omega⟩
theorem doc_eq {d e : Doc} (h1 : d.id = e.id) (h2 : keyV d = keyV e) : (d = e) = (d.on = e.on) := by
  cases d; cases e
  simp only [keyV, Prod.mk.injEq] at h2
  simp only at h1
  simp [h1, h2.1, h2.2.1, h2.2.2]
set_option maxHeartbeats 4000000 in
set_option maxRecDepth 20000 in
theorem SameDoc_spec (d e : Doc) (hd : DocQ d) (he : DocQ e) : Spec1 Tryz.prog 68 [.agg d.enc, .agg e.enc] (bo (decide (d = e))) := by
  have hon := hd.2.2.2.1
  have hke : aggEq Tryz.prog 85 [.str d.repo, .str d.path, .str d.text] [.str e.repo, .str e.path, .str e.text] = some (decide (keyV d = keyV e)) := aggEq85 hd.kb he.kb
  refine Spec1.of_HT Tryz.func68 rfl (by rw [Tryz.ntmps68]; simp) rfl ?_
  rw [Tryz.ntmps68]
  refine HT.seq ?_
  refine HT.region ?_   -- R0
  simp (disch := first | omega | (simp <;> omega) | fail) [wrap_i64, wrap_u64, wrap_u8']
  refine HT.seq ?_
  by_cases d1 : ¬ d.id = e.id
  · skip
    refine HT.draw [.batch [0, 1, 2, 3, 4, 5, 6, 7, 8, 9, 10, 11, 12, 13, 14, 15, 16, 17, 18, 19]] (by kernel_rfl) ?_   -- R1
    simp -dsimp (disch := first | omega | (simp <;> omega) | fail) [wrap_i64, wrap_u64, wrap_u8']
    refine HT.ret ?_
    first | (have hx : ¬ d = e := (fun h => d1 (by rw [h])); simp (disch := first | omega | (simp <;> omega) | fail) [wrap_i64, wrap_u64, wrap_u8', hx]; done) | (have hx : ¬ d = e := (fun h => d2 (by rw [h])); simp (disch := first | omega | (simp <;> omega) | fail) [wrap_i64, wrap_u64, wrap_u8', hx]; done) | (have hx := doc_eq d1 d2; simp (disch := first | omega | (simp <;> omega) | fail) [wrap_i64, wrap_u64, wrap_u8', hx]; done)
  rw [Classical.not_not] at d1
  by_cases d2 : ¬ keyV d = keyV e
  · skip
    refine HT.draw [.batch [0, 1, 2, 3, 4, 5, 6, 7, 8, 9, 10, 11, 12, 13, 14, 15, 16, 17, 18, 19]] (by kernel_rfl) ?_   -- R1
    simp -dsimp (disch := first | omega | (simp <;> omega) | fail) [wrap_i64, wrap_u64, wrap_u8', hke, d2]
    refine stepK.mk (.call1 _ _ _ rfl Ty.hb58 rfl rfl (rKey_spec d)) ?_
    simp -dsimp (disch := first | omega | (simp <;> omega) | fail) [wrap_i64, wrap_u64, wrap_u8', hke, d2]
    refine stepK.mk (.call1 _ _ _ rfl Ty.hb58 rfl rfl (rKey_spec e)) ?_
    simp -dsimp (disch := first | omega | (simp <;> omega) | fail) [wrap_i64, wrap_u64, wrap_u8', hke, d2]
    refine HT.ret ?_
    first | (have hx : ¬ d = e := (fun h => d1 (by rw [h])); simp (disch := first | omega | (simp <;> omega) | fail) [wrap_i64, wrap_u64, wrap_u8', hx]; done) | (have hx : ¬ d = e := (fun h => d2 (by rw [h])); simp (disch := first | omega | (simp <;> omega) | fail) [wrap_i64, wrap_u64, wrap_u8', hx]; done) | (have hx := doc_eq d1 d2; simp (disch := first | omega | (simp <;> omega) | fail) [wrap_i64, wrap_u64, wrap_u8', hx]; done)
  rw [Classical.not_not] at d2
  refine HT.draw [.batch [0, 1, 2, 3, 4, 5, 6, 7, 8, 9, 10, 11, 12, 13, 14, 15, 16, 17, 18, 19]] (by kernel_rfl) ?_   -- R1
  simp -dsimp (disch := first | omega | (simp <;> omega) | fail) [wrap_i64, wrap_u64, wrap_u8', hke, d2]
  refine stepK.mk (.call1 _ _ _ rfl Ty.hb58 rfl rfl (rKey_spec d)) ?_
  simp -dsimp (disch := first | omega | (simp <;> omega) | fail) [wrap_i64, wrap_u64, wrap_u8', hke, d2]
  refine stepK.mk (.call1 _ _ _ rfl Ty.hb58 rfl rfl (rKey_spec e)) ?_
  simp -dsimp (disch := first | omega | (simp <;> omega) | fail) [wrap_i64, wrap_u64, wrap_u8', hke, d2]
  refine stepK.mk (.call1 _ _ _ rfl Ty.hb98 rfl rfl (Strings_spec d.on e.on (by omega))) ?_
  simp -dsimp (disch := first | omega | (simp <;> omega) | fail) [wrap_i64, wrap_u64, wrap_u8', hke, d2]
  refine HT.ret ?_
  first | (have hx : ¬ d = e := (fun h => d1 (by rw [h])); simp (disch := first | omega | (simp <;> omega) | fail) [wrap_i64, wrap_u64, wrap_u8', hx]; done) | (have hx : ¬ d = e := (fun h => d2 (by rw [h])); simp (disch := first | omega | (simp <;> omega) | fail) [wrap_i64, wrap_u64, wrap_u8', hx]; done) | (have hx := doc_eq d1 d2; simp (disch := first | omega | (simp <;> omega) | fail) [wrap_i64, wrap_u64, wrap_u8', hx]; done)
set_option maxHeartbeats 2000000 in
theorem SameD_spec (a b : List Doc) (ha : a.length ≤ 1000000) (hA : ∀ d ∈ a, DocQ d) (hB : ∀ d ∈ b, DocQ d) : Spec1 Tryz.prog 36 [.sl 5 false (docsHV a), .sl 5 false (docsHV b)] (bo (decide (a = b))) := by
  refine Spec1.of_HT Tryz.func36 rfl (by rw [Tryz.ntmps36]; simp) rfl ?_
  rw [Tryz.ntmps36]
  refine HT.seq ?_
  refine HT.region ?_   -- R0
  simp (disch := first | omega | (simp <;> omega) | fail) [wrap_i64, wrap_u64, wrap_u8']
  refine HT.seq ?_
  refine HT.seq ?_
  by_cases c1 : ¬ a.length = b.length
  · skip
    refine HT.region ?_   -- R1
    simp (disch := first | omega | (simp <;> omega) | fail) [wrap_i64, wrap_u64, wrap_u8']
    refine HT.cond' ?_   -- if 10
    simp (disch := first | omega | (simp <;> omega) | fail) [wrap_i64, wrap_u64, wrap_u8']
    refine HT.seq ?_
    refine HT.region ?_   -- R2
    simp (disch := first | omega | (simp <;> omega) | fail) [wrap_i64, wrap_u64, wrap_u8']
    refine HT.ret ?_
    simp (disch := first | omega | (simp <;> omega) | fail) [wrap_i64, wrap_u64, wrap_u8', ne_len c1]
  refine HT.region ?_   -- R1
  simp (disch := first | omega | (simp <;> omega) | fail) [wrap_i64, wrap_u64, wrap_u8']
  refine HT.cond' ?_   -- if 10
  simp (disch := first | omega | (simp <;> omega) | fail) [wrap_i64, wrap_u64, wrap_u8']
  refine HT.skip ?_
  simp (disch := first | omega | (simp <;> omega) | fail) [wrap_i64, wrap_u64, wrap_u8']
  refine HT.seq ?_
  refine HT.seq ?_
  refine HT.region ?_   -- R3
  simp (disch := first | omega | (simp <;> omega) | fail) [wrap_i64, wrap_u64, wrap_u8']
  refine HT.block ?_
  refine HT.loopK (fun k : {k : Nat // k ≤ a.length ∧ ∀ i, i < k → a[i]? = b[i]?} => [.s 5 (i64 k)]) [0, 1] [] (fun k => a.length - k) (⟨0, by omega, by intro i hi; omega⟩) ?_ ?_   -- block 0 turned [5]
  · simp (disch := first | omega | (simp <;> omega) | fail) [wrap_i64, wrap_u64, wrap_u8']
  rintro ⟨k, hk, hg⟩
  simp (disch := first | omega | (simp <;> omega) | fail) [wrap_i64, wrap_u64, wrap_u8']
  refine HT.seq ?_
  refine HT.seq ?_
  refine HT.region ?_   -- R4
  simp (disch := first | omega | (simp <;> omega) | fail) [wrap_i64, wrap_u64, wrap_u8']
  refine HT.cond' ?_   -- if 14
  simp (disch := first | omega | (simp <;> omega) | fail) [wrap_i64, wrap_u64, wrap_u8']
  refine ⟨fun h14 => ?_, fun h14 => ?_⟩
  · skip
    have hk' : k < a.length := by omega
    have hkb : k < b.length := by omega
    refine HT.skip ?_
    simp (disch := first | omega | (simp <;> omega) | fail) [wrap_i64, wrap_u64, wrap_u8']
    refine HT.seq ?_
    refine HT.block ?_
    refine HT.seq ?_
    by_cases d1 : ¬ a[k] = b[k]
    · skip
      have hq := eq_false d1
      refine HT.draw [.batch [0, 1, 2, 3, 4, 5, 6, 7, 8, 9]] (by kernel_rfl) ?_   -- R6
      simp (disch := first | omega | (simp <;> omega) | fail) [wrap_i64, wrap_u64, wrap_u8']
      refine stepK.mk (.call1 _ _ _ rfl Ty.hb68 rfl rfl (SameDoc_spec a[k] b[k] (hA _ (List.getElem_mem hk')) (hB _ (List.getElem_mem hkb)))) ?_
      simp (disch := first | omega | (simp <;> omega) | fail) [wrap_i64, wrap_u64, wrap_u8', hq]
      refine HT.cond' ?_   -- if 26
      simp (disch := first | omega | (simp <;> omega) | fail) [wrap_i64, wrap_u64, wrap_u8']
      refine HT.seq ?_
      refine HT.region ?_   -- R7
      simp (disch := first | omega | (simp <;> omega) | fail) [wrap_i64, wrap_u64, wrap_u8']
      refine HT.ret ?_
      simp (disch := first | omega | (simp <;> omega) | fail) [wrap_i64, wrap_u64, wrap_u8', ne_at hk' hkb d1]
    rw [Classical.not_not] at d1
    have hq := eq_true d1
    refine HT.draw [.batch [0, 1, 2, 3, 4, 5, 6, 7, 8, 9]] (by kernel_rfl) ?_   -- R6
    simp (disch := first | omega | (simp <;> omega) | fail) [wrap_i64, wrap_u64, wrap_u8']
    refine stepK.mk (.call1 _ _ _ rfl Ty.hb68 rfl rfl (SameDoc_spec a[k] b[k] (hA _ (List.getElem_mem hk')) (hB _ (List.getElem_mem hkb)))) ?_
    simp (disch := first | omega | (simp <;> omega) | fail) [wrap_i64, wrap_u64, wrap_u8', hq]
    refine HT.cond' ?_   -- if 26
    simp (disch := first | omega | (simp <;> omega) | fail) [wrap_i64, wrap_u64, wrap_u8']
    refine HT.skip ?_
    simp (disch := first | omega | (simp <;> omega) | fail) [wrap_i64, wrap_u64, wrap_u8']
    refine HT.region ?_   -- R5
    simp (disch := first | omega | (simp <;> omega) | fail) [wrap_i64, wrap_u64, wrap_u8']
    refine Round.mk' (⟨k + 1, by omega, agreeX hg (by rw [List.getElem?_eq_getElem hk', List.getElem?_eq_getElem hkb, d1])⟩) (by dsimp only; omega) rfl ?_
    simp (disch := first | omega | (simp <;> omega) | fail) [wrap_i64, wrap_u64, wrap_u8']
  · skip
    obtain rfl : k = a.length := by omega
    refine HT.exit ?_
    simp (disch := first | omega | (simp <;> omega) | fail) [wrap_i64, wrap_u64, wrap_u8']
    refine HT.seq ?_
    refine HT.region ?_   -- R8
    simp (disch := first | omega | (simp <;> omega) | fail) [wrap_i64, wrap_u64, wrap_u8']
    refine HT.ret ?_
    have hx : a = b := extX (by omega) hg
    simp (disch := first | omega | (simp <;> omega) | fail) [wrap_i64, wrap_u64, wrap_u8', hx]
set_option maxHeartbeats 4000000 in
set_option maxRecDepth 20000 in
theorem SameAt_spec (a b : List Gram) (ha : a.length ≤ 140737488355328) (hA : ∀ g ∈ a, g.off.length ≤ 140737488355328) : Spec1 Tryz.prog 69 [.sl 2 false (gramsHV a), .sl 2 false (gramsHV b)] (bo (decide (a = b))) := by
  refine Spec1.of_HT Tryz.func69 rfl (by rw [Tryz.ntmps69]; simp) rfl ?_
  rw [Tryz.ntmps69]
  refine HT.seq ?_
  refine HT.region ?_   -- R0
  simp (disch := first | omega | (simp <;> omega) | fail) [wrap_i64, wrap_u64, wrap_u8']
  refine HT.seq ?_
  refine HT.seq ?_
  by_cases c1 : ¬ a.length = b.length
  · skip
    refine HT.region ?_   -- R1
    simp (disch := first | omega | (simp <;> omega) | fail) [wrap_i64, wrap_u64, wrap_u8']
    refine HT.cond' ?_   -- if 10
    simp (disch := first | omega | (simp <;> omega) | fail) [wrap_i64, wrap_u64, wrap_u8']
    refine HT.seq ?_
    refine HT.region ?_   -- R2
    simp (disch := first | omega | (simp <;> omega) | fail) [wrap_i64, wrap_u64, wrap_u8']
    refine HT.ret ?_
    simp (disch := first | omega | (simp <;> omega) | fail) [wrap_i64, wrap_u64, wrap_u8', ne_len c1]
  refine HT.region ?_   -- R1
  simp (disch := first | omega | (simp <;> omega) | fail) [wrap_i64, wrap_u64, wrap_u8']
  refine HT.cond' ?_   -- if 10
  simp (disch := first | omega | (simp <;> omega) | fail) [wrap_i64, wrap_u64, wrap_u8']
  refine HT.skip ?_
  simp (disch := first | omega | (simp <;> omega) | fail) [wrap_i64, wrap_u64, wrap_u8']
  refine HT.seq ?_
  refine HT.seq ?_
  refine HT.region ?_   -- R3
  simp (disch := first | omega | (simp <;> omega) | fail) [wrap_i64, wrap_u64, wrap_u8']
  refine HT.block ?_
  refine HT.loopK (fun k : {k : Nat // k ≤ a.length ∧ ∀ i, i < k → a[i]? = b[i]?} => [.s 5 (i64 k)]) [0, 1] [] (fun k => a.length - k) (⟨0, by omega, by intro i hi; omega⟩) ?_ ?_   -- block 0 turned [5, 29, 30, 31, 32, 33, 34, 35, 36, 37, 38, 39, 40]
  · simp (disch := first | omega | (simp <;> omega) | fail) [wrap_i64, wrap_u64, wrap_u8']
  rintro ⟨k, hk, hg⟩
  simp (disch := first | omega | (simp <;> omega) | fail) [wrap_i64, wrap_u64, wrap_u8']
  refine HT.seq ?_
  refine HT.seq ?_
  refine HT.region ?_   -- R4
  simp (disch := first | omega | (simp <;> omega) | fail) [wrap_i64, wrap_u64, wrap_u8']
  refine HT.cond' ?_   -- if 14
  simp (disch := first | omega | (simp <;> omega) | fail) [wrap_i64, wrap_u64, wrap_u8']
  refine ⟨fun h14 => ?_, fun h14 => ?_⟩
  · skip
    have hk' : k < a.length := by omega
    have hkb : k < b.length := by omega
    refine HT.skip ?_
    simp (disch := first | omega | (simp <;> omega) | fail) [wrap_i64, wrap_u64, wrap_u8']
    refine HT.seq ?_
    refine HT.block ?_
    refine HT.seq ?_
    by_cases d1 : ¬ a[k].code = b[k].code
    · skip
      refine HT.draw [.batch [0, 1, 2, 3, 4, 5, 6, 7, 8, 9, 10, 11, 12, 13, 14, 15, 16, 17, 18, 19, 20, 21, 22, 23, 24]] (by kernel_rfl) ?_   -- R6
      simp -dsimp (disch := first | omega | (simp <;> omega) | fail) [wrap_i64, wrap_u64, wrap_u8']
      refine HT.cond' ?_   -- if 41
      simp (disch := first | omega | (simp <;> omega) | fail) [wrap_i64, wrap_u64, wrap_u8']
      refine HT.seq ?_
      refine HT.region ?_   -- R7
      simp (disch := first | omega | (simp <;> omega) | fail) [wrap_i64, wrap_u64, wrap_u8']
      refine HT.ret ?_
      have hx : ¬ a = b := ne_at hk' hkb (fun h => by first | exact d1 (by rw [h]) | exact d2 (by rw [h]))
      simp (disch := first | omega | (simp <;> omega) | fail) [wrap_i64, wrap_u64, wrap_u8', hx]
    rw [Classical.not_not] at d1
    by_cases d2 : ¬ a[k].off = b[k].off
    · skip
      refine HT.draw [.batch [0, 1, 2, 3, 4, 5, 6, 7, 8, 9, 10, 11, 12, 13, 14, 15, 16, 17, 18, 19, 20, 21, 22, 23, 24]] (by kernel_rfl) ?_   -- R6
      simp -dsimp (disch := first | omega | (simp <;> omega) | fail) [wrap_i64, wrap_u64, wrap_u8']
      refine stepK.mk (.call1 _ _ _ rfl Ty.hb99 rfl rfl (Same5_spec a[k].off b[k].off (hA _ (List.getElem_mem hk')))) ?_
      simp -dsimp (disch := first | omega | (simp <;> omega) | fail) [wrap_i64, wrap_u64, wrap_u8', d2]
      refine HT.cond' ?_   -- if 41
      simp (disch := first | omega | (simp <;> omega) | fail) [wrap_i64, wrap_u64, wrap_u8']
      refine HT.seq ?_
      refine HT.region ?_   -- R7
      simp (disch := first | omega | (simp <;> omega) | fail) [wrap_i64, wrap_u64, wrap_u8']
      refine HT.ret ?_
      have hx : ¬ a = b := ne_at hk' hkb (fun h => by first | exact d1 (by rw [h]) | exact d2 (by rw [h]))
      simp (disch := first | omega | (simp <;> omega) | fail) [wrap_i64, wrap_u64, wrap_u8', hx]
    rw [Classical.not_not] at d2
    refine HT.draw [.batch [0, 1, 2, 3, 4, 5, 6, 7, 8, 9, 10, 11, 12, 13, 14, 15, 16, 17, 18, 19, 20, 21, 22, 23, 24]] (by kernel_rfl) ?_   -- R6
    simp -dsimp (disch := first | omega | (simp <;> omega) | fail) [wrap_i64, wrap_u64, wrap_u8']
    refine stepK.mk (.call1 _ _ _ rfl Ty.hb99 rfl rfl (Same5_spec a[k].off b[k].off (hA _ (List.getElem_mem hk')))) ?_
    simp -dsimp (disch := first | omega | (simp <;> omega) | fail) [wrap_i64, wrap_u64, wrap_u8', d2]
    refine HT.cond' ?_   -- if 41
    simp (disch := first | omega | (simp <;> omega) | fail) [wrap_i64, wrap_u64, wrap_u8']
    refine HT.skip ?_
    simp (disch := first | omega | (simp <;> omega) | fail) [wrap_i64, wrap_u64, wrap_u8']
    refine HT.region ?_   -- R5
    simp (disch := first | omega | (simp <;> omega) | fail) [wrap_i64, wrap_u64, wrap_u8']
    refine Round.mk' (⟨k + 1, by omega, agreeX hg (by rw [List.getElem?_eq_getElem hk', List.getElem?_eq_getElem hkb, gram_eqX d1 d2])⟩) (by dsimp only; omega) rfl ?_
    simp (disch := first | omega | (simp <;> omega) | fail) [wrap_i64, wrap_u64, wrap_u8']
  · skip
    obtain rfl : k = a.length := by omega
    refine HT.exit ?_
    simp (disch := first | omega | (simp <;> omega) | fail) [wrap_i64, wrap_u64, wrap_u8']
    refine HT.seq ?_
    refine HT.region ?_   -- R8
    simp (disch := first | omega | (simp <;> omega) | fail) [wrap_i64, wrap_u64, wrap_u8']
    refine HT.ret ?_
    have hx : a = b := extX (by omega) hg
    simp (disch := first | omega | (simp <;> omega) | fail) [wrap_i64, wrap_u64, wrap_u8', hx]
set_option maxHeartbeats 4000000 in
set_option maxRecDepth 20000 in
theorem SameGrams_spec (a b : List Post) (ha : a.length ≤ 140737488355328) (hA : ∀ p ∈ a, p.docs.length ≤ 140737488355328 ∧ ∀ g ∈ p.docs, g.off.length ≤ 140737488355328) : Spec1 Tryz.prog 37 [.sl 2 false (postsHV a), .sl 2 false (postsHV b)] (bo (decide (a = b))) := by
  refine Spec1.of_HT Tryz.func37 rfl (by rw [Tryz.ntmps37]; simp) rfl ?_
  rw [Tryz.ntmps37]
  refine HT.seq ?_
  refine HT.region ?_   -- R0
  simp (disch := first | omega | (simp <;> omega) | fail) [wrap_i64, wrap_u64, wrap_u8']
  refine HT.seq ?_
  refine HT.seq ?_
  by_cases c1 : ¬ a.length = b.length
  · skip
    refine HT.region ?_   -- R1
    simp (disch := first | omega | (simp <;> omega) | fail) [wrap_i64, wrap_u64, wrap_u8']
    refine HT.cond' ?_   -- if 10
    simp (disch := first | omega | (simp <;> omega) | fail) [wrap_i64, wrap_u64, wrap_u8']
    refine HT.seq ?_
    refine HT.region ?_   -- R2
    simp (disch := first | omega | (simp <;> omega) | fail) [wrap_i64, wrap_u64, wrap_u8']
    refine HT.ret ?_
    simp (disch := first | omega | (simp <;> omega) | fail) [wrap_i64, wrap_u64, wrap_u8', ne_len c1]
  refine HT.region ?_   -- R1
  simp (disch := first | omega | (simp <;> omega) | fail) [wrap_i64, wrap_u64, wrap_u8']
  refine HT.cond' ?_   -- if 10
  simp (disch := first | omega | (simp <;> omega) | fail) [wrap_i64, wrap_u64, wrap_u8']
  refine HT.skip ?_
  simp (disch := first | omega | (simp <;> omega) | fail) [wrap_i64, wrap_u64, wrap_u8']
  refine HT.seq ?_
  refine HT.seq ?_
  refine HT.region ?_   -- R3
  simp (disch := first | omega | (simp <;> omega) | fail) [wrap_i64, wrap_u64, wrap_u8']
  refine HT.block ?_
  refine HT.loopK (fun k : {k : Nat // k ≤ a.length ∧ ∀ i, i < k → a[i]? = b[i]?} => [.s 5 (i64 k)]) [0, 1] [] (fun k => a.length - k) (⟨0, by omega, by intro i hi; omega⟩) ?_ ?_   -- block 0 turned [5, 29, 30, 31, 32, 33, 34, 35, 36, 37, 38, 39, 40]
  · simp (disch := first | omega | (simp <;> omega) | fail) [wrap_i64, wrap_u64, wrap_u8']
  rintro ⟨k, hk, hg⟩
  simp (disch := first | omega | (simp <;> omega) | fail) [wrap_i64, wrap_u64, wrap_u8']
  refine HT.seq ?_
  refine HT.seq ?_
  refine HT.region ?_   -- R4
  simp (disch := first | omega | (simp <;> omega) | fail) [wrap_i64, wrap_u64, wrap_u8']
  refine HT.cond' ?_   -- if 14
  simp (disch := first | omega | (simp <;> omega) | fail) [wrap_i64, wrap_u64, wrap_u8']
  refine ⟨fun h14 => ?_, fun h14 => ?_⟩
  · skip
    have hk' : k < a.length := by omega
    have hkb : k < b.length := by omega
    have hAk := hA _ (List.getElem_mem hk')
    refine HT.skip ?_
    simp (disch := first | omega | (simp <;> omega) | fail) [wrap_i64, wrap_u64, wrap_u8']
    refine HT.seq ?_
    refine HT.block ?_
    refine HT.seq ?_
    by_cases d1 : ¬ a[k].code = b[k].code
    · skip
      refine HT.draw [.batch [0, 1, 2, 3, 4, 5, 6, 7, 8, 9, 10, 11, 12, 13, 14, 15, 16, 17, 18, 19, 20, 21, 22, 23, 24]] (by kernel_rfl) ?_   -- R6
      simp -dsimp (disch := first | omega | (simp <;> omega) | fail) [wrap_i64, wrap_u64, wrap_u8']
      refine HT.cond' ?_   -- if 41
      simp (disch := first | omega | (simp <;> omega) | fail) [wrap_i64, wrap_u64, wrap_u8']
      refine HT.seq ?_
      refine HT.region ?_   -- R7
      simp (disch := first | omega | (simp <;> omega) | fail) [wrap_i64, wrap_u64, wrap_u8']
      refine HT.ret ?_
      have hx : ¬ a = b := ne_at hk' hkb (fun h => by first | exact d1 (by rw [h]) | exact d2 (by rw [h]))
      simp (disch := first | omega | (simp <;> omega) | fail) [wrap_i64, wrap_u64, wrap_u8', hx]
    rw [Classical.not_not] at d1
    by_cases d2 : ¬ a[k].docs = b[k].docs
    · skip
      refine HT.draw [.batch [0, 1, 2, 3, 4, 5, 6, 7, 8, 9, 10, 11, 12, 13, 14, 15, 16, 17, 18, 19, 20, 21, 22, 23, 24]] (by kernel_rfl) ?_   -- R6
      simp -dsimp (disch := first | omega | (simp <;> omega) | fail) [wrap_i64, wrap_u64, wrap_u8']
      refine stepK.mk (.call1 _ _ _ rfl Ty.hb69 rfl rfl (SameAt_spec a[k].docs b[k].docs hAk.1 hAk.2)) ?_
      simp -dsimp (disch := first | omega | (simp <;> omega) | fail) [wrap_i64, wrap_u64, wrap_u8', d2]
      refine HT.cond' ?_   -- if 41
      simp (disch := first | omega | (simp <;> omega) | fail) [wrap_i64, wrap_u64, wrap_u8']
      refine HT.seq ?_
      refine HT.region ?_   -- R7
      simp (disch := first | omega | (simp <;> omega) | fail) [wrap_i64, wrap_u64, wrap_u8']
      refine HT.ret ?_
      have hx : ¬ a = b := ne_at hk' hkb (fun h => by first | exact d1 (by rw [h]) | exact d2 (by rw [h]))
      simp (disch := first | omega | (simp <;> omega) | fail) [wrap_i64, wrap_u64, wrap_u8', hx]
    rw [Classical.not_not] at d2
    refine HT.draw [.batch [0, 1, 2, 3, 4, 5, 6, 7, 8, 9, 10, 11, 12, 13, 14, 15, 16, 17, 18, 19, 20, 21, 22, 23, 24]] (by kernel_rfl) ?_   -- R6
    simp -dsimp (disch := first | omega | (simp <;> omega) | fail) [wrap_i64, wrap_u64, wrap_u8']
    refine stepK.mk (.call1 _ _ _ rfl Ty.hb69 rfl rfl (SameAt_spec a[k].docs b[k].docs hAk.1 hAk.2)) ?_
    simp -dsimp (disch := first | omega | (simp <;> omega) | fail) [wrap_i64, wrap_u64, wrap_u8', d2]
    refine HT.cond' ?_   -- if 41
    simp (disch := first | omega | (simp <;> omega) | fail) [wrap_i64, wrap_u64, wrap_u8']
    refine HT.skip ?_
    simp (disch := first | omega | (simp <;> omega) | fail) [wrap_i64, wrap_u64, wrap_u8']
    refine HT.region ?_   -- R5
    simp (disch := first | omega | (simp <;> omega) | fail) [wrap_i64, wrap_u64, wrap_u8']
    refine Round.mk' (⟨k + 1, by omega, agreeX hg (by rw [List.getElem?_eq_getElem hk', List.getElem?_eq_getElem hkb, post_eq d1 d2])⟩) (by dsimp only; omega) rfl ?_
    simp (disch := first | omega | (simp <;> omega) | fail) [wrap_i64, wrap_u64, wrap_u8']
  · skip
    obtain rfl : k = a.length := by omega
    refine HT.exit ?_
    simp (disch := first | omega | (simp <;> omega) | fail) [wrap_i64, wrap_u64, wrap_u8']
    refine HT.seq ?_
    refine HT.region ?_   -- R8
    simp (disch := first | omega | (simp <;> omega) | fail) [wrap_i64, wrap_u64, wrap_u8']
    refine HT.ret ?_
    have hx : a = b := extX (by omega) hg
    simp (disch := first | omega | (simp <;> omega) | fail) [wrap_i64, wrap_u64, wrap_u8', hx]
theorem seg_eq (a b : Seg) : (a = b) = (a.docs = b.docs ∧ a.grams = b.grams) := by cases a; cases b; simp
def SegQ (s : Seg) : Prop := s.docs.length ≤ 1000000 ∧ (∀ d ∈ s.docs, DocQ d) ∧ s.grams.length ≤ 1000000 ∧ ∀ p ∈ s.grams, p.docs.length ≤ 1000000 ∧ ∀ g ∈ p.docs, g.off.length ≤ 1000000
set_option maxRecDepth 20000 in
set_option maxHeartbeats 2000000 in
theorem Same29_spec (a b : Seg) (ha : SegQ a) (hb : SegQ b) : Spec1 Tryz.prog 14 [.agg a.enc, .agg b.enc] (bo (decide (a = b))) := by
  refine Spec1.of_HT Tryz.func14 rfl (by rw [Tryz.ntmps14]; simp) rfl ?_
  rw [Tryz.ntmps14]
  refine HT.seq ?_
  refine HT.region ?_   -- R0
  simp (disch := first | omega | (simp <;> omega) | fail) [wrap_i64, wrap_u64, wrap_u8']
  refine HT.seq ?_
  by_cases d1 : ¬ a.docs = b.docs
  · skip
    have hq := eq_false d1
    refine HT.region ?_   -- R1
    simp (disch := first | omega | (simp <;> omega) | fail) [wrap_i64, wrap_u64, wrap_u8', hq]
    refine stepK.mk (.call1 _ _ _ _ rfl Ty.hb36 rfl (SameD_spec a.docs b.docs ha.1 ha.2.1 hb.2.1) rfl rfl) ?_
    simp (disch := first | omega | (simp <;> omega) | fail) [wrap_i64, wrap_u64, wrap_u8', hq, hq]
    refine HT.ret ?_
    simp (disch := first | omega | (simp <;> omega) | fail) [wrap_i64, wrap_u64, wrap_u8', seg_eq, hq]
  rw [Classical.not_not] at d1
  have hq := eq_true d1
  refine HT.region ?_   -- R1
  simp (disch := first | omega | (simp <;> omega) | fail) [wrap_i64, wrap_u64, wrap_u8', hq]
  refine stepK.mk (.call1 _ _ _ _ rfl Ty.hb36 rfl (SameD_spec a.docs b.docs ha.1 ha.2.1 hb.2.1) rfl rfl) ?_
  simp (disch := first | omega | (simp <;> omega) | fail) [wrap_i64, wrap_u64, wrap_u8', hq, hq]
  refine stepK.mk (.call1 _ _ _ _ rfl Ty.hb37 rfl (SameGrams_spec a.grams b.grams (by have := ha.2.2.1; omega) (fun p hp => ⟨by have := (ha.2.2.2 p hp).1; omega, fun g hg => by have := (ha.2.2.2 p hp).2 g hg; omega⟩)) rfl rfl) ?_
  simp (disch := first | omega | (simp <;> omega) | fail) [wrap_i64, wrap_u64, wrap_u8', hq]
  refine HT.ret ?_
  simp (disch := first | omega | (simp <;> omega) | fail) [wrap_i64, wrap_u64, wrap_u8', seg_eq, hq]
end Go.Hv
set_option linter.unusedVariables false
set_option linter.unusedSimpArgs false
namespace Go.Hv
open Go Go.Hv Go.Proofs Go.RowKit
open Go.Proofs.YthdljfognblpbaaGreatDoor
def insD (l : List Doc) (d : Doc) : List Doc := match l with
  | [] => [d]
  | x :: r => if d.id < x.id then d :: x :: r else x :: insD r d
theorem insD_gt {x d : Doc} {r : List Doc} (h : d.id < x.id) : insD (x :: r) d = d :: x :: r := by rw [insD, if_pos h]
theorem insD_le {x d : Doc} {r : List Doc} (h : ¬ d.id < x.id) : insD (x :: r) d = x :: insD r d := by rw [insD, if_neg h]
theorem insD_perm (d : Doc) : ∀ (l : List Doc), (insD l d).Perm (d :: l)
  | [] => List.Perm.refl _
  | x :: r => by
    by_cases h : d.id < x.id
    · rw [insD_gt h]
    · rw [insD_le h]; exact ((insD_perm d r).cons x).trans (List.Perm.swap d x r)
theorem insD_inc {d : Doc} : ∀ {l : List Doc}, IncBy Doc.id l → (∀ x ∈ l, ¬ x.id = d.id) → IncBy Doc.id (insD l d)
  | [], _, _ => List.pairwise_singleton _ _
  | x :: r, h, hn => by
    have h' := h
    unfold IncBy at h'
    rw [List.pairwise_cons] at h'
    by_cases hx : d.id < x.id
    · rw [insD_gt hx]
      refine List.pairwise_cons.2 ⟨fun y hy => ?_, h⟩
      rcases List.mem_cons.1 hy with rfl | hy
      · exact hx
      · have := h'.1 y hy; omega
    · rw [insD_le hx]
      refine List.pairwise_cons.2 ⟨fun y hy => ?_, insD_inc h'.2 (fun y hy => hn y (by simp [hy]))⟩
      rcases List.mem_cons.1 ((insD_perm d r).mem_iff.1 hy) with rfl | hy
      · have := hn x (by simp); omega
      · exact h'.1 y hy
theorem insD_sort {p : List Doc} {d : Doc} (hn : ((p ++ [d]).map Doc.id).Nodup) : insD (sortV p) d = sortV (p ++ [d]) := by
  have hn0 := hn
  rw [List.map_append, List.nodup_append] at hn
  have h1 : IncBy Doc.id (sortV p) := incBy_sort hn.1
  have h2 : ∀ x ∈ sortV p, ¬ x.id = d.id := fun x hx => hn.2.2 x.id (List.mem_map_of_mem ((sortV_perm p).mem_iff.1 hx)) d.id (by simp)
  refine incBy_perm (insD_inc h1 h2) (incBy_sort hn0) ?_
  refine (insD_perm d _).trans ?_
  refine ((sortV_perm p).cons d).trans ?_
  refine List.Perm.trans ?_ (sortV_perm (p ++ [d])).symm
  exact (List.perm_append_comm (l₁ := [d]) (l₂ := p))
set_option maxHeartbeats 4000000 in
theorem insert31_spec (l : List Doc) (d : Doc) (hl : l.length ≤ 1000000) : Spec1 Tryz.prog 34 [.sl 5 false (docsHV l), .agg d.enc] (.sl 5 false (docsHV (insD l d))) := by
  refine Spec1.of_HT Tryz.func34 rfl (by rw [Tryz.ntmps34]; simp) rfl ?_
  rw [Tryz.ntmps34]
  refine HT.seq ?_
  refine HT.region ?_   -- R0
  simp (disch := first | omega | (simp <;> omega) | fail) [wrap_i64, wrap_u64, wrap_u8']
  refine HT.seq ?_
  refine HT.region ?_   -- R1
  simp (disch := first | omega | (simp <;> omega) | fail) [wrap_i64, wrap_u64, wrap_u8']
  refine HT.weaken (HS.le_own (t := 5) 200 47 5 _ (by decide) rfl (by decide)) ?_
  refine HT.seq ?_
  refine HT.region ?_   -- R2
  simp (disch := first | omega | (simp <;> omega) | fail) [wrap_i64, wrap_u64, wrap_u8']
  refine HT.seq ?_
  refine HT.seq ?_
  refine HT.region ?_   -- R3
  simp (disch := first | omega | (simp <;> omega) | fail) [wrap_i64, wrap_u64, wrap_u8']
  refine HT.block ?_
  refine HT.loopK (fun k : {k : Nat × Bool × List Doc // k.1 ≤ l.length ∧ k.2.2 ++ (if k.2.1 = true then l.drop k.1 else insD (l.drop k.1) d) = insD l d ∧ k.2.2.length ≤ k.1 + (if k.2.1 = true then 1 else 0)} => [.s 7 (i64 k.1.1), .s 6 (bo k.1.2.1), .s 5 (.ref 200), .o 200 (.row 47 5 (docsHV k.1.2.2))]) [0, 3] [3] (fun k => l.length - k.1.1) (⟨⟨0, false, []⟩, by simp⟩) ?_ ?_   -- block 0 turned [5, 6, 7, 17, 18, 19, 20, 21, 22, 23, 24]
  · simp (disch := first | omega | (simp <;> omega) | fail) [wrap_i64, wrap_u64, wrap_u8']
  rintro ⟨⟨k, dn, o⟩, hk, hh, hlen⟩
  simp (disch := first | omega | (simp <;> omega) | fail) [wrap_i64, wrap_u64, wrap_u8']
  refine HT.seq ?_
  refine HT.seq ?_
  refine HT.region ?_   -- R4
  simp (disch := first | omega | (simp <;> omega) | fail) [wrap_i64, wrap_u64, wrap_u8']
  refine HT.cond' ?_   -- if 11
  simp (disch := first | omega | (simp <;> omega) | fail) [wrap_i64, wrap_u64, wrap_u8']
  refine ⟨fun h11 => ?_, fun h11 => ?_⟩
  · skip
    dsimp only at hk hh hlen
    have hk' : k < l.length := by omega
    have hlen2 : o.length ≤ k + 1 := by split at hlen <;> omega
    have hdr := List.drop_eq_getElem_cons hk'
    refine HT.skip ?_
    simp (disch := first | omega | (simp <;> omega) | fail) [wrap_i64, wrap_u64, wrap_u8']
    refine HT.seq ?_
    refine HT.block ?_
    refine HT.seq ?_
    refine HT.seq ?_
    by_cases d1 : dn = true
    · skip
      subst d1
      have dt := hk'
      refine HT.draw [.batch [0, 1, 2, 3, 4, 5, 6, 7, 8, 9, 10, 11]] (by kernel_rfl) ?_   -- R6
      simp (disch := first | omega | (simp <;> omega) | fail) [wrap_i64, wrap_u64, wrap_u8']
      refine HT.cond' ?_   -- if 25
      simp (disch := first | omega | (simp <;> omega) | fail) [wrap_i64, wrap_u64, wrap_u8']
      refine HT.skip ?_
      simp (disch := first | omega | (simp <;> omega) | fail) [wrap_i64, wrap_u64, wrap_u8']
      refine HT.region ?_   -- R9
      simp (disch := first | omega | (simp <;> omega) | fail) [wrap_i64, wrap_u64, wrap_u8']
      refine HT.region ?_   -- R5
      simp (disch := first | omega | (simp <;> omega) | fail) [wrap_i64, wrap_u64, wrap_u8']
      first | (have _t := dt; refine Round.mk' (⟨⟨k + 1, true, o ++ [l[k]]⟩, by dsimp only; omega, by dsimp only; rw [if_pos rfl, ← hh, if_pos rfl, hdr]; simp, by dsimp only; rw [List.length_append]; simp at hlen ⊢; omega⟩) (by dsimp only; omega) rfl ?_) | (have _t := cg; refine Round.mk' (⟨⟨k + 1, true, o ++ [d, l[k]]⟩, by dsimp only; omega, by dsimp only; rw [if_pos rfl, ← hh, if_neg (by simp), hdr, insD_gt cg]; simp, by dsimp only; rw [List.length_append]; simp at hlen ⊢; omega⟩) (by dsimp only; omega) rfl ?_) | (refine Round.mk' (⟨⟨k + 1, false, o ++ [l[k]]⟩, by dsimp only; omega, by dsimp only; rw [if_neg (by simp), ← hh, if_neg (by simp), hdr, insD_le c2]; simp, by dsimp only; rw [List.length_append]; simp at hlen ⊢; omega⟩) (by dsimp only; omega) rfl ?_)
      simp (disch := first | omega | (simp <;> omega) | fail) [wrap_i64, wrap_u64, wrap_u8']
      try simp [docsHV]
    obtain rfl : dn = false := by simpa using d1
    by_cases c2 : d.id < l[k].id
    · skip
      have cg := c2
      refine HT.draw [.batch [0, 1, 2, 3, 4, 5, 6, 7, 8, 9, 10, 11]] (by kernel_rfl) ?_   -- R6
      simp (disch := first | omega | (simp <;> omega) | fail) [wrap_i64, wrap_u64, wrap_u8']
      refine HT.cond' ?_   -- if 25
      simp (disch := first | omega | (simp <;> omega) | fail) [wrap_i64, wrap_u64, wrap_u8']
      refine HT.seq ?_
      refine HT.region ?_   -- R7
      simp (disch := first | omega | (simp <;> omega) | fail) [wrap_i64, wrap_u64, wrap_u8']
      refine HT.region ?_   -- R8
      simp (disch := first | omega | (simp <;> omega) | fail) [wrap_i64, wrap_u64, wrap_u8']
      refine HT.region ?_   -- R9
      simp (disch := first | omega | (simp <;> omega) | fail) [wrap_i64, wrap_u64, wrap_u8']
      refine HT.region ?_   -- R5
      simp (disch := first | omega | (simp <;> omega) | fail) [wrap_i64, wrap_u64, wrap_u8']
      first | (have _t := dt; refine Round.mk' (⟨⟨k + 1, true, o ++ [l[k]]⟩, by dsimp only; omega, by dsimp only; rw [if_pos rfl, ← hh, if_pos rfl, hdr]; simp, by dsimp only; rw [List.length_append]; simp at hlen ⊢; omega⟩) (by dsimp only; omega) rfl ?_) | (have _t := cg; refine Round.mk' (⟨⟨k + 1, true, o ++ [d, l[k]]⟩, by dsimp only; omega, by dsimp only; rw [if_pos rfl, ← hh, if_neg (by simp), hdr, insD_gt cg]; simp, by dsimp only; rw [List.length_append]; simp at hlen ⊢; omega⟩) (by dsimp only; omega) rfl ?_) | (refine Round.mk' (⟨⟨k + 1, false, o ++ [l[k]]⟩, by dsimp only; omega, by dsimp only; rw [if_neg (by simp), ← hh, if_neg (by simp), hdr, insD_le c2]; simp, by dsimp only; rw [List.length_append]; simp at hlen ⊢; omega⟩) (by dsimp only; omega) rfl ?_)
      simp (disch := first | omega | (simp <;> omega) | fail) [wrap_i64, wrap_u64, wrap_u8']
      try simp [docsHV]
    refine HT.draw [.batch [0, 1, 2, 3, 4, 5, 6, 7, 8, 9, 10, 11]] (by kernel_rfl) ?_   -- R6
    simp (disch := first | omega | (simp <;> omega) | fail) [wrap_i64, wrap_u64, wrap_u8']
    refine HT.cond' ?_   -- if 25
    simp (disch := first | omega | (simp <;> omega) | fail) [wrap_i64, wrap_u64, wrap_u8']
    refine HT.skip ?_
    simp (disch := first | omega | (simp <;> omega) | fail) [wrap_i64, wrap_u64, wrap_u8']
    refine HT.region ?_   -- R9
    simp (disch := first | omega | (simp <;> omega) | fail) [wrap_i64, wrap_u64, wrap_u8']
    refine HT.region ?_   -- R5
    simp (disch := first | omega | (simp <;> omega) | fail) [wrap_i64, wrap_u64, wrap_u8']
    first | (have _t := dt; refine Round.mk' (⟨⟨k + 1, true, o ++ [l[k]]⟩, by dsimp only; omega, by dsimp only; rw [if_pos rfl, ← hh, if_pos rfl, hdr]; simp, by dsimp only; rw [List.length_append]; simp at hlen ⊢; omega⟩) (by dsimp only; omega) rfl ?_) | (have _t := cg; refine Round.mk' (⟨⟨k + 1, true, o ++ [d, l[k]]⟩, by dsimp only; omega, by dsimp only; rw [if_pos rfl, ← hh, if_neg (by simp), hdr, insD_gt cg]; simp, by dsimp only; rw [List.length_append]; simp at hlen ⊢; omega⟩) (by dsimp only; omega) rfl ?_) | (refine Round.mk' (⟨⟨k + 1, false, o ++ [l[k]]⟩, by dsimp only; omega, by dsimp only; rw [if_neg (by simp), ← hh, if_neg (by simp), hdr, insD_le c2]; simp, by dsimp only; rw [List.length_append]; simp at hlen ⊢; omega⟩) (by dsimp only; omega) rfl ?_)
    simp (disch := first | omega | (simp <;> omega) | fail) [wrap_i64, wrap_u64, wrap_u8']
    try simp [docsHV]
  · skip
    dsimp only at hk hh hlen
    obtain rfl : k = l.length := by omega
    have hlen2 : o.length ≤ l.length + 1 := by split at hlen <;> omega
    rw [List.drop_length] at hh
    refine HT.exit ?_
    simp (disch := first | omega | (simp <;> omega) | fail) [wrap_i64, wrap_u64, wrap_u8']
    refine HT.seq ?_
    refine HT.seq ?_
    by_cases d2 : dn = true
    · skip
      subst d2
      have hx : o = insD l d := by rw [← hh]; simp
      refine HT.region ?_   -- R10
      simp (disch := first | omega | (simp <;> omega) | fail) [wrap_i64, wrap_u64, wrap_u8']
      refine HT.cond' ?_   -- if 38
      simp (disch := first | omega | (simp <;> omega) | fail) [wrap_i64, wrap_u64, wrap_u8']
      refine HT.skip ?_
      simp (disch := first | omega | (simp <;> omega) | fail) [wrap_i64, wrap_u64, wrap_u8']
      refine HT.seq ?_
      refine HT.region ?_   -- R12
      simp (disch := first | omega | (simp <;> omega) | fail) [wrap_i64, wrap_u64, wrap_u8']
      refine HT.ret ?_
      first | (rw [← hx]; simp (disch := first | omega | (simp <;> omega) | fail) [wrap_i64, wrap_u64, wrap_u8', docsHV]; done) | simp (disch := first | omega | (simp <;> omega) | fail) [wrap_i64, wrap_u64, wrap_u8', hx]
    obtain rfl : dn = false := by simpa using d2
    have hx : o ++ [d] = insD l d := by rw [← hh]; simp [insD]
    refine HT.region ?_   -- R10
    simp (disch := first | omega | (simp <;> omega) | fail) [wrap_i64, wrap_u64, wrap_u8']
    refine HT.cond' ?_   -- if 38
    simp (disch := first | omega | (simp <;> omega) | fail) [wrap_i64, wrap_u64, wrap_u8']
    refine HT.region ?_   -- R11
    simp (disch := first | omega | (simp <;> omega) | fail) [wrap_i64, wrap_u64, wrap_u8']
    refine HT.seq ?_
    refine HT.region ?_   -- R12
    simp (disch := first | omega | (simp <;> omega) | fail) [wrap_i64, wrap_u64, wrap_u8']
    refine HT.ret ?_
    first | (rw [← hx]; simp (disch := first | omega | (simp <;> omega) | fail) [wrap_i64, wrap_u64, wrap_u8', docsHV]; done) | simp (disch := first | omega | (simp <;> omega) | fail) [wrap_i64, wrap_u64, wrap_u8', hx]
end Go.Hv
set_option linter.unusedVariables false
set_option linter.unusedSimpArgs false
namespace Go.Hv
open Go Go.Hv Go.Proofs Go.RowKit
open Go.Proofs.YthdljfognblpbaaGreatDoor
def SegsB (ls : List Seg) : Prop := ls.length ≤ 6 ∧ (∀ s ∈ ls, s.docs.length ≤ 40) ∧ ∀ s ∈ ls, ∀ d ∈ s.docs, DocB 140737488355328 d
theorem allV_append (a b : List Seg) (dead : List Int) : allV (a ++ b) dead = allV a dead ++ allV b dead := by simp [allV]
theorem allV_succ {ls : List Seg} {i : Nat} {dead : List Int} (hi : i < ls.length) : allV (ls.take (i + 1)) dead = allV (ls.take i) dead ++ dKeep dead ls[i].docs := by
  rw [List.take_succ_eq_append_getElem hi, allV_append]
  simp [allV, dKeep]
theorem dKeep_len (dead : List Int) (l : List Doc) : (dKeep dead l).length ≤ l.length := List.length_filter_le _ _
theorem allV_len {ls : List Seg} (h : SegsB ls) (dead : List Int) : ∀ (i : Nat), i ≤ ls.length → (allV (ls.take i) dead).length ≤ 40 * i
  | 0, _ => by simp [allV]
  | i + 1, hi => by
    have ih := allV_len h dead i (by omega)
    rw [allV_succ (show i < ls.length by omega), List.length_append]
    have h1 := dKeep_len dead (ls[i]'(by omega)).docs
    have h2 := h.2.1 _ (List.getElem_mem (show i < ls.length by omega))
    omega
theorem allV_split {ls : List Seg} {i k : Nat} {dead : List Int} (hi : i < ls.length) (hk : k < ls[i].docs.length) (ha : ls[i].docs[k].id ∉ dead) : ∃ rest, allV ls dead = (allV (ls.take i) dead ++ dKeep dead (ls[i].docs.take k)) ++ ls[i].docs[k] :: rest := by
  refine ⟨dKeep dead (ls[i].docs.drop (k + 1)) ++ allV (ls.drop (i + 1)) dead, ?_⟩
  have e1 : allV ls dead = allV (ls.take i) dead ++ (dKeep dead ls[i].docs ++ allV (ls.drop (i + 1)) dead) := by
    have : ls = ls.take i ++ (ls[i] :: ls.drop (i + 1)) := by rw [← List.drop_eq_getElem_cons hi, List.take_append_drop]
    rw [show allV ls dead = allV (ls.take i ++ (ls[i] :: ls.drop (i + 1))) dead by rw [← this], allV_append]
    congr 1
  have e2 : dKeep dead ls[i].docs = dKeep dead (ls[i].docs.take k) ++ ls[i].docs[k] :: dKeep dead (ls[i].docs.drop (k + 1)) := by
    have : ls[i].docs = ls[i].docs.take k ++ (ls[i].docs[k] :: ls[i].docs.drop (k + 1)) := by rw [← List.drop_eq_getElem_cons hk, List.take_append_drop]
    rw [show dKeep dead ls[i].docs = dKeep dead (ls[i].docs.take k ++ (ls[i].docs[k] :: ls[i].docs.drop (k + 1))) by rw [← this]]
    unfold dKeep
    rw [List.filter_append, List.filter_cons_of_pos (by simpa [aliveB] using ha)]
  rw [e1, e2]; simp
theorem merge_twice {ls : List Seg} {dead : List Int} {p rest : List Doc} {d : Doc} (h : allV ls dead = p ++ d :: rest) {x : Doc} (hx : x ∈ sortV p) (he : x.id = d.id) : mergeV ls dead = (emptySeg, 7) := by
  unfold mergeV
  rw [if_neg]
  rw [h]
  intro hn
  rw [List.map_append, List.nodup_append] at hn
  exact hn.2.2 x.id (List.mem_map_of_mem ((sortV_perm p).mem_iff.1 hx)) d.id (by simp) he
theorem merge_once {ls : List Seg} {dead : List Int} (h : ((allV ls dead).map Doc.id).Nodup) : mergeV ls dead = buildV (sortV (allV ls dead)) := by unfold mergeV; rw [if_pos h]
theorem sortV_length (l : List Doc) : (sortV l).length = l.length := (sortV_perm l).length_eq
theorem allV_mem {ls : List Seg} {dead : List Int} {d : Doc} (h : d ∈ allV ls dead) : ∃ s ∈ ls, d ∈ s.docs := by
  unfold allV at h
  obtain ⟨s, hs, h⟩ := List.mem_flatMap.1 h
  exact ⟨s, hs, (List.mem_filter.1 h).1⟩
def NotId (l : List Doc) (n : Int) (j : Nat) : Prop := ∀ (a : Nat) (x : Doc), a < j → l[a]? = some x → ¬ x.id = n
theorem NotId.succ {l : List Doc} {n : Int} {j : Nat} (h : NotId l n j) (hj : j < l.length) (hne : ¬ l[j].id = n) : NotId l n (j + 1) := fun a x ha hx => by
  by_cases e : a = j
  · subst e; rw [List.getElem?_eq_getElem hj] at hx; cases hx; exact hne
  · exact h a x (by omega) hx
theorem nod_snoc {p : List Doc} {d : Doc} (hn : (p.map Doc.id).Nodup) (h : NotId (sortV p) d.id (sortV p).length) : ((p ++ [d]).map Doc.id).Nodup := by
  rw [List.map_append, List.nodup_append]
  refine ⟨hn, by simp, fun x hx y hy => ?_⟩
  obtain ⟨u, hu, rfl⟩ := List.mem_map.1 hx
  simp at hy; subst hy
  obtain ⟨a, ha⟩ := List.mem_iff_getElem?.1 ((sortV_perm p).mem_iff.2 hu)
  exact h a u (getElem?_lt ha) ha
set_option maxRecDepth 20000 in
set_option maxHeartbeats 8000000 in
theorem refMerge_spec (ls : List Seg) (dead : List Int) (hs : SegsB ls) (hd : dead.length ≤ 1000000) : SpecT Tryz.prog 13 [.sl 2 false (segsHV ls), .sl 1 false (intsHV dead)] [.agg (mergeV ls dead).1.enc, i64 (mergeV ls dead).2] := by
  have hls := hs.1
  refine SpecT.of_HT Tryz.func13 rfl (by rw [Tryz.ntmps13]; simp) (rs := [.cell 4 29, .tmp 5]) rfl (by decide) ?_
  rw [Tryz.ntmps13]
  refine HT.seq ?_
  refine HT.region ?_   -- R0
  simp (disch := first | omega | (simp <;> omega) | fail) [wrap_i64, wrap_u64, wrap_u8']
  refine HT.seq ?_
  refine HT.region ?_   -- R1
  simp (disch := first | omega | (simp <;> omega) | fail) [wrap_i64, wrap_u64, wrap_u8']
  refine HT.weaken (HS.le_wk 6 (.sl 5 false []) (by decide) rfl rfl (HLe.nilf 0 5 true)) ?_
  refine HT.seq ?_
  refine HT.seq ?_
  refine HT.region ?_   -- R2
  simp (disch := first | omega | (simp <;> omega) | fail) [wrap_i64, wrap_u64, wrap_u8']
  refine HT.block ?_
  refine HT.loopK (fun i : {i : Nat // i ≤ ls.length ∧ ((allV (ls.take i) dead).map Doc.id).Nodup} => [.s 7 (i64 i), .s 6 (.sl 5 false (docsHV (sortV (allV (ls.take i) dead))))]) [0, 1, 4] [4] (fun i => ls.length - i) (⟨0, by omega, by simp [allV]⟩) ?_ ?_   -- block 0 turned [6, 7]
  · simp (disch := first | omega | (simp <;> omega) | fail) [wrap_i64, wrap_u64, wrap_u8', allV, sortV]
  rintro ⟨i, hi, hn⟩
  simp (disch := first | omega | (simp <;> omega) | fail) [wrap_i64, wrap_u64, wrap_u8']
  refine HT.seq ?_
  refine HT.seq ?_
  refine HT.region ?_   -- R3
  simp (disch := first | omega | (simp <;> omega) | fail) [wrap_i64, wrap_u64, wrap_u8']
  refine HT.cond' ?_   -- if 14
  simp (disch := first | omega | (simp <;> omega) | fail) [wrap_i64, wrap_u64, wrap_u8']
  refine ⟨fun h14 => ?_, fun h14 => ?_⟩
  · skip
    have hi' : i < ls.length := by omega
    have hal := allV_len hs dead i (by omega)
    have hsd := hs.2.1 _ (List.getElem_mem hi')
    refine HT.skip ?_
    simp (disch := first | omega | (simp <;> omega) | fail) [wrap_i64, wrap_u64, wrap_u8']
    refine HT.seq ?_
    refine HT.block ?_
    refine HT.seq ?_
    refine HT.region ?_   -- R5
    simp (disch := first | omega | (simp <;> omega) | fail) [wrap_i64, wrap_u64, wrap_u8']
    refine HT.block ?_
    refine HT.loopK (fun k : {k : Nat // k ≤ ls[i].docs.length ∧ ((allV (ls.take i) dead ++ dKeep dead (ls[i].docs.take k)).map Doc.id).Nodup} => [.s 8 (i64 k), .s 6 (.sl 5 false (docsHV (sortV (allV (ls.take i) dead ++ dKeep dead (ls[i].docs.take k)))))]) [0, 1, 4, 7] [4] (fun k => ls[i].docs.length - k) (⟨0, by omega, by simpa [dKeep] using hn⟩) ?_ ?_   -- block 2 turned [6, 8]
    · simp (disch := first | omega | (simp <;> omega) | fail) [wrap_i64, wrap_u64, wrap_u8', dKeep]
    rintro ⟨k, hk, hn2⟩
    simp (disch := first | omega | (simp <;> omega) | fail) [wrap_i64, wrap_u64, wrap_u8']
    refine HT.seq ?_
    refine HT.seq ?_
    refine HT.region ?_   -- R6
    simp (disch := first | omega | (simp <;> omega) | fail) [wrap_i64, wrap_u64, wrap_u8']
    refine HT.cond' ?_   -- if 24
    simp (disch := first | omega | (simp <;> omega) | fail) [wrap_i64, wrap_u64, wrap_u8']
    refine ⟨fun h24 => ?_, fun h24 => ?_⟩
    · skip
      have hk' : k < ls[i].docs.length := by omega
      have hdl := dKeep_take_le dead ls[i].docs k
      have hsl := sortV_length (allV (ls.take i) dead ++ dKeep dead (ls[i].docs.take k))
      rw [List.length_append] at hsl
      refine HT.skip ?_
      simp (disch := first | omega | (simp <;> omega) | fail) [wrap_i64, wrap_u64, wrap_u8']
      refine HT.seq ?_
      refine HT.block ?_
      refine HT.seq ?_
      refine HT.region ?_   -- R8
      simp (disch := first | omega | (simp <;> omega) | fail) [wrap_i64, wrap_u64, wrap_u8']
      refine HT.seq ?_
      refine HT.seq ?_
      refine HT.region ?_   -- R9
      simp (disch := first | omega | (simp <;> omega) | fail) [wrap_i64, wrap_u64, wrap_u8']
      refine stepK.mk (.call1 _ _ _ _ rfl Ty.hb25 rfl (Has_spec false dead ls[i].docs[k].id (by omega)) rfl rfl) ?_
      simp (disch := first | omega | (simp <;> omega) | fail) [wrap_i64, wrap_u64, wrap_u8']
      refine HT.cond' ?_   -- if 38
      simp (disch := first | omega | (simp <;> omega) | fail) [wrap_i64, wrap_u64, wrap_u8']
      refine ⟨fun h38 => ?_, fun h38 => ?_⟩
      · skip
        refine HT.exit ?_
        simp (disch := first | omega | (simp <;> omega) | fail) [wrap_i64, wrap_u64, wrap_u8']
        refine HT.region ?_   -- R7
        simp (disch := first | omega | (simp <;> omega) | fail) [wrap_i64, wrap_u64, wrap_u8']
        first | (have _t := hnn; refine Round.mk' (⟨k + 1, by omega, by rw [dKeep_succ hk', if_neg h38, ← List.append_assoc]; exact hnn⟩) (by dsimp only; omega) rfl ?_) | (refine Round.mk' (⟨k + 1, by omega, by rw [dKeep_succ hk', if_pos h38, List.append_nil]; exact hn2⟩) (by dsimp only; omega) rfl ?_)
        simp (disch := first | omega | (simp <;> omega) | fail) [wrap_i64, wrap_u64, wrap_u8']
        first
        | (have _t := hnn; rw [dKeep_succ hk', if_neg h38, ← List.append_assoc, ← insD_sort hnn])
        | (rw [dKeep_succ hk', if_pos h38, List.append_nil])
      · skip
        refine HT.skip ?_
        simp (disch := first | omega | (simp <;> omega) | fail) [wrap_i64, wrap_u64, wrap_u8']
        refine HT.seq ?_
        refine HT.seq ?_
        refine HT.region ?_   -- R10
        simp (disch := first | omega | (simp <;> omega) | fail) [wrap_i64, wrap_u64, wrap_u8']
        refine HT.block ?_
        refine HT.loopK (fun j : {j : Nat // j ≤ (sortV (allV (ls.take i) dead ++ dKeep dead (ls[i].docs.take k))).length ∧ NotId (sortV (allV (ls.take i) dead ++ dKeep dead (ls[i].docs.take k))) ls[i].docs[k].id j} => [.s 10 (i64 j)]) [0, 1, 4, 6, 7, 8, 9] [4, 9] (fun j => (sortV (allV (ls.take i) dead ++ dKeep dead (ls[i].docs.take k))).length - j) (⟨0, by omega, fun a x ha => absurd ha (Nat.not_lt_zero _)⟩) ?_ ?_   -- block 4 turned [10]
        · simp (disch := first | omega | (simp <;> omega) | fail) [wrap_i64, wrap_u64, wrap_u8']
        rintro ⟨j, hj, hno⟩
        simp (disch := first | omega | (simp <;> omega) | fail) [wrap_i64, wrap_u64, wrap_u8']
        refine HT.seq ?_
        refine HT.seq ?_
        refine HT.region ?_   -- R11
        simp (disch := first | omega | (simp <;> omega) | fail) [wrap_i64, wrap_u64, wrap_u8']
        refine HT.cond' ?_   -- if 42
        simp (disch := first | omega | (simp <;> omega) | fail) [wrap_i64, wrap_u64, wrap_u8']
        refine ⟨fun h42 => ?_, fun h42 => ?_⟩
        · skip
          have hj' : j < (sortV (allV (ls.take i) dead ++ dKeep dead (ls[i].docs.take k))).length := by omega
          refine HT.skip ?_
          simp (disch := first | omega | (simp <;> omega) | fail) [wrap_i64, wrap_u64, wrap_u8']
          refine HT.seq ?_
          refine HT.block ?_
          refine HT.seq ?_
          refine HT.draw [.batch [0, 1, 2, 3, 4, 5, 6, 7]] (by kernel_rfl) ?_   -- R13
          simp (disch := first | omega | (simp <;> omega) | fail) [wrap_i64, wrap_u64, wrap_u8']
          refine HT.cond' ?_   -- if 52
          simp (disch := first | omega | (simp <;> omega) | fail) [wrap_i64, wrap_u64, wrap_u8']
          refine ⟨fun h52 => ?_, fun h52 => ?_⟩
          · skip
            refine HT.seq ?_
            refine HT.region ?_   -- R14
            simp (disch := first | omega | (simp <;> omega) | fail) [wrap_i64, wrap_u64, wrap_u8']
            refine HT.weaken (HS.le_boxown 4 0 200 47 5 0 rfl rfl (by decide) (by decide)) ?_
            simp
            refine HT.weaken (HS.le_boxown 4 1 201 56 2 0 (by rfl) (by rfl) (by decide) (by decide)) ?_
            refine HT.ret ?_
            obtain ⟨rest, hrest⟩ := allV_split hi' hk' h38
            have hm := merge_twice hrest (List.getElem_mem hj') h52
            simp (disch := first | omega | (simp <;> omega) | fail) [wrap_i64, wrap_u64, wrap_u8', hm, emptySeg]
          · skip
            refine HT.skip ?_
            simp (disch := first | omega | (simp <;> omega) | fail) [wrap_i64, wrap_u64, wrap_u8']
            refine HT.region ?_   -- R12
            simp (disch := first | omega | (simp <;> omega) | fail) [wrap_i64, wrap_u64, wrap_u8']
            refine Round.mk' (⟨j + 1, by omega, hno.succ hj' h52⟩) (by dsimp only; omega) rfl ?_
            simp (disch := first | omega | (simp <;> omega) | fail) [wrap_i64, wrap_u64, wrap_u8']
        · skip
          obtain rfl : j = (sortV (allV (ls.take i) dead ++ dKeep dead (ls[i].docs.take k))).length := by omega
          have hnn := nod_snoc hn2 hno
          refine HT.exit ?_
          simp (disch := first | omega | (simp <;> omega) | fail) [wrap_i64, wrap_u64, wrap_u8']
          refine HT.region ?_   -- R15
          simp (disch := first | omega | (simp <;> omega) | fail) [wrap_i64, wrap_u64, wrap_u8']
          refine stepK.mk (.call1f _ _ _ _ _ rfl Ty.hb34 rfl rfl (insert31_spec (sortV (allV (ls.take i) dead ++ dKeep dead (ls[i].docs.take k))) ls[i].docs[k] (by omega)) rfl) ?_
          simp (disch := first | omega | (simp <;> omega) | fail) [wrap_i64, wrap_u64, wrap_u8']
          refine HT.region ?_   -- R7
          simp (disch := first | omega | (simp <;> omega) | fail) [wrap_i64, wrap_u64, wrap_u8']
          first | (have _t := hnn; refine Round.mk' (⟨k + 1, by omega, by rw [dKeep_succ hk', if_neg h38, ← List.append_assoc]; exact hnn⟩) (by dsimp only; omega) rfl ?_) | (refine Round.mk' (⟨k + 1, by omega, by rw [dKeep_succ hk', if_pos h38, List.append_nil]; exact hn2⟩) (by dsimp only; omega) rfl ?_)
          simp (disch := first | omega | (simp <;> omega) | fail) [wrap_i64, wrap_u64, wrap_u8']
          first
          | (have _t := hnn; rw [dKeep_succ hk', if_neg h38, ← List.append_assoc, ← insD_sort hnn])
          | (rw [dKeep_succ hk', if_pos h38, List.append_nil])
    · skip
      obtain rfl : k = ls[i].docs.length := by omega
      rw [List.take_length] at hn2
      refine HT.exit ?_
      simp (disch := first | omega | (simp <;> omega) | fail) [wrap_i64, wrap_u64, wrap_u8']
      refine HT.region ?_   -- R4
      simp (disch := first | omega | (simp <;> omega) | fail) [wrap_i64, wrap_u64, wrap_u8']
      refine Round.mk' (⟨i + 1, by omega, by rw [allV_succ hi']; exact hn2⟩) (by dsimp only; omega) rfl ?_
      simp (disch := first | omega | (simp <;> omega) | fail) [wrap_i64, wrap_u64, wrap_u8', allV_succ hi']
  · skip
    obtain rfl : i = ls.length := by omega
    rw [List.take_length] at hn
    have hm := merge_once hn
    have hal := allV_len hs dead ls.length (Nat.le_refl _)
    rw [List.take_length] at hal
    have hsl := sortV_length (allV ls dead)
    refine HT.exit ?_
    simp (disch := first | omega | (simp <;> omega) | fail) [wrap_i64, wrap_u64, wrap_u8']
    refine HT.seq ?_
    refine HT.region ?_   -- R16
    simp (disch := first | omega | (simp <;> omega) | fail) [wrap_i64, wrap_u64, wrap_u8']
    refine stepK.mk (.callTf _ _ _ _ _ rfl Ty.hb35 rfl rfl (refBuild_spec (sortV (allV ls dead)) ⟨by omega, fun d hd => by obtain ⟨s, hs1, hs2⟩ := allV_mem ((sortV_perm _).mem_iff.1 hd); exact hs.2.2 s hs1 d hs2⟩) rfl) ?_
    simp (disch := first | omega | (simp <;> omega) | fail) [wrap_i64, wrap_u64, wrap_u8']
    refine HT.ret ?_
    simp (disch := first | omega | (simp <;> omega) | fail) [wrap_i64, wrap_u64, wrap_u8', hm]
end Go.Hv
set_option linter.unusedVariables false
set_option linter.unusedSimpArgs false
namespace Go.Hv
open Go Go.Hv Go.Proofs Go.RowKit
open Go.Proofs.YthdljfognblpbaaGreatDoor
set_option maxHeartbeats 2000000 in
theorem EqS_spec (a b : List (List UInt8)) (ha : a.length ≤ 140737488355328) : Spec1 Tryz.prog 117 [.sl 1 false (strsHV a), .sl 1 false (strsHV b)] (bo (decide (a = b))) := by
  refine Spec1.of_HT Tryz.func117 rfl (by rw [Tryz.ntmps117]; simp) rfl ?_
  rw [Tryz.ntmps117]
  refine HT.seq ?_
  refine HT.region ?_   -- R0
  simp (disch := first | omega | (simp <;> omega) | fail) [wrap_i64, wrap_u64, wrap_u8']
  refine HT.seq ?_
  refine HT.seq ?_
  by_cases c1 : ¬ a.length = b.length
  · skip
    refine HT.region ?_   -- R1
    simp (disch := first | omega | (simp <;> omega) | fail) [wrap_i64, wrap_u64, wrap_u8']
    refine HT.cond' ?_   -- if 10
    simp (disch := first | omega | (simp <;> omega) | fail) [wrap_i64, wrap_u64, wrap_u8']
    refine HT.seq ?_
    refine HT.region ?_   -- R2
    simp (disch := first | omega | (simp <;> omega) | fail) [wrap_i64, wrap_u64, wrap_u8']
    refine HT.ret ?_
    simp (disch := first | omega | (simp <;> omega) | fail) [wrap_i64, wrap_u64, wrap_u8', ne_len c1]
  refine HT.region ?_   -- R1
  simp (disch := first | omega | (simp <;> omega) | fail) [wrap_i64, wrap_u64, wrap_u8']
  refine HT.cond' ?_   -- if 10
  simp (disch := first | omega | (simp <;> omega) | fail) [wrap_i64, wrap_u64, wrap_u8']
  refine HT.skip ?_
  simp (disch := first | omega | (simp <;> omega) | fail) [wrap_i64, wrap_u64, wrap_u8']
  refine HT.seq ?_
  refine HT.seq ?_
  refine HT.region ?_   -- R3
  simp (disch := first | omega | (simp <;> omega) | fail) [wrap_i64, wrap_u64, wrap_u8']
  refine HT.block ?_
  refine HT.loopK (fun k : {k : Nat // k ≤ a.length ∧ ∀ i, i < k → a[i]? = b[i]?} => [.s 13 (i64 k)]) [0, 1, 12] [] (fun k => a.length - k) (⟨0, by omega, by intro i hi; omega⟩) ?_ ?_   -- block 0 turned [13]
  · simp (disch := first | omega | (simp <;> omega) | fail) [wrap_i64, wrap_u64, wrap_u8']
  rintro ⟨k, hk, hg⟩
  simp (disch := first | omega | (simp <;> omega) | fail) [wrap_i64, wrap_u64, wrap_u8']
  refine HT.seq ?_
  refine HT.region ?_   -- R4
  simp (disch := first | omega | (simp <;> omega) | fail) [wrap_i64, wrap_u64, wrap_u8']
  refine HT.seq ?_
  refine HT.cond' ?_   -- if 14
  simp (disch := first | omega | (simp <;> omega) | fail) [wrap_i64, wrap_u64, wrap_u8']
  refine ⟨fun h14 => ?_, fun h14 => ?_⟩
  · skip
    have hk' : k < a.length := by omega
    have hkb : k < b.length := by omega
    refine HT.skip ?_
    simp (disch := first | omega | (simp <;> omega) | fail) [wrap_i64, wrap_u64, wrap_u8']
    refine HT.seq ?_
    refine HT.block ?_
    refine HT.seq ?_
    refine HT.region ?_   -- R5
    simp (disch := first | omega | (simp <;> omega) | fail) [wrap_i64, wrap_u64, wrap_u8']
    refine HT.seq ?_
    by_cases d1 : ¬ a[k] = b[k]
    · skip
      refine HT.draw [.batch [0, 1, 2, 3, 4, 5, 6, 7, 8]] (by kernel_rfl) ?_   -- R6
      simp (disch := first | omega | (simp <;> omega) | fail) [wrap_i64, wrap_u64, wrap_u8', d1]
      refine HT.cond' ?_   -- if 24
      simp (disch := first | omega | (simp <;> omega) | fail) [wrap_i64, wrap_u64, wrap_u8']
      refine HT.seq ?_
      refine HT.region ?_   -- R7
      simp (disch := first | omega | (simp <;> omega) | fail) [wrap_i64, wrap_u64, wrap_u8']
      refine HT.ret ?_
      simp (disch := first | omega | (simp <;> omega) | fail) [wrap_i64, wrap_u64, wrap_u8', ne_at hk' hkb d1]
    rw [Classical.not_not] at d1
    refine HT.draw [.batch [0, 1, 2, 3, 4, 5, 6, 7, 8]] (by kernel_rfl) ?_   -- R6
    simp (disch := first | omega | (simp <;> omega) | fail) [wrap_i64, wrap_u64, wrap_u8', d1]
    refine HT.cond' ?_   -- if 24
    simp (disch := first | omega | (simp <;> omega) | fail) [wrap_i64, wrap_u64, wrap_u8']
    refine HT.skip ?_
    simp (disch := first | omega | (simp <;> omega) | fail) [wrap_i64, wrap_u64, wrap_u8']
    refine HT.region ?_   -- R8
    simp (disch := first | omega | (simp <;> omega) | fail) [wrap_i64, wrap_u64, wrap_u8']
    refine Round.mk' (⟨k + 1, by omega, agreeX hg (by rw [List.getElem?_eq_getElem hk', List.getElem?_eq_getElem hkb, d1])⟩) (by dsimp only; omega) rfl ?_
    simp (disch := first | omega | (simp <;> omega) | fail) [wrap_i64, wrap_u64, wrap_u8']
  · skip
    obtain rfl : k = a.length := by omega
    refine HT.exit ?_
    simp (disch := first | omega | (simp <;> omega) | fail) [wrap_i64, wrap_u64, wrap_u8']
    refine HT.seq ?_
    refine HT.region ?_   -- R9
    simp (disch := first | omega | (simp <;> omega) | fail) [wrap_i64, wrap_u64, wrap_u8']
    refine HT.ret ?_
    have hx : a = b := extX (by omega) hg
    simp (disch := first | omega | (simp <;> omega) | fail) [wrap_i64, wrap_u64, wrap_u8', hx]
set_option maxHeartbeats 2000000 in
theorem EqI_spec (a b : List Int) (ha : a.length ≤ 140737488355328) : Spec1 Tryz.prog 120 [.sl 1 false (intsHV a), .sl 1 false (intsHV b)] (bo (decide (a = b))) := by
  refine Spec1.of_HT Tryz.func120 rfl (by rw [Tryz.ntmps120]; simp) rfl ?_
  rw [Tryz.ntmps120]
  refine HT.seq ?_
  refine HT.region ?_   -- R0
  simp (disch := first | omega | (simp <;> omega) | fail) [wrap_i64, wrap_u64, wrap_u8']
  refine HT.seq ?_
  refine HT.seq ?_
  by_cases c1 : ¬ a.length = b.length
  · skip
    refine HT.region ?_   -- R1
    simp (disch := first | omega | (simp <;> omega) | fail) [wrap_i64, wrap_u64, wrap_u8']
    refine HT.cond' ?_   -- if 10
    simp (disch := first | omega | (simp <;> omega) | fail) [wrap_i64, wrap_u64, wrap_u8']
    refine HT.seq ?_
    refine HT.region ?_   -- R2
    simp (disch := first | omega | (simp <;> omega) | fail) [wrap_i64, wrap_u64, wrap_u8']
    refine HT.ret ?_
    simp (disch := first | omega | (simp <;> omega) | fail) [wrap_i64, wrap_u64, wrap_u8', ne_len c1]
  refine HT.region ?_   -- R1
  simp (disch := first | omega | (simp <;> omega) | fail) [wrap_i64, wrap_u64, wrap_u8']
  refine HT.cond' ?_   -- if 10
  simp (disch := first | omega | (simp <;> omega) | fail) [wrap_i64, wrap_u64, wrap_u8']
  refine HT.skip ?_
  simp (disch := first | omega | (simp <;> omega) | fail) [wrap_i64, wrap_u64, wrap_u8']
  refine HT.seq ?_
  refine HT.seq ?_
  refine HT.region ?_   -- R3
  simp (disch := first | omega | (simp <;> omega) | fail) [wrap_i64, wrap_u64, wrap_u8']
  refine HT.block ?_
  refine HT.loopK (fun k : {k : Nat // k ≤ a.length ∧ ∀ i, i < k → a[i]? = b[i]?} => [.s 13 (i64 k)]) [0, 1, 12] [] (fun k => a.length - k) (⟨0, by omega, by intro i hi; omega⟩) ?_ ?_   -- block 0 turned [13]
  · simp (disch := first | omega | (simp <;> omega) | fail) [wrap_i64, wrap_u64, wrap_u8']
  rintro ⟨k, hk, hg⟩
  simp (disch := first | omega | (simp <;> omega) | fail) [wrap_i64, wrap_u64, wrap_u8']
  refine HT.seq ?_
  refine HT.region ?_   -- R4
  simp (disch := first | omega | (simp <;> omega) | fail) [wrap_i64, wrap_u64, wrap_u8']
  refine HT.seq ?_
  refine HT.cond' ?_   -- if 14
  simp (disch := first | omega | (simp <;> omega) | fail) [wrap_i64, wrap_u64, wrap_u8']
  refine ⟨fun h14 => ?_, fun h14 => ?_⟩
  · skip
    have hk' : k < a.length := by omega
    have hkb : k < b.length := by omega
    refine HT.skip ?_
    simp (disch := first | omega | (simp <;> omega) | fail) [wrap_i64, wrap_u64, wrap_u8']
    refine HT.seq ?_
    refine HT.block ?_
    refine HT.seq ?_
    refine HT.region ?_   -- R5
    simp (disch := first | omega | (simp <;> omega) | fail) [wrap_i64, wrap_u64, wrap_u8']
    refine HT.seq ?_
    by_cases d1 : ¬ a[k] = b[k]
    · skip
      refine HT.draw [.batch [0, 1, 2, 3, 4, 5, 6, 7, 8]] (by kernel_rfl) ?_   -- R6
      simp (disch := first | omega | (simp <;> omega) | fail) [wrap_i64, wrap_u64, wrap_u8', d1]
      refine HT.cond' ?_   -- if 24
      simp (disch := first | omega | (simp <;> omega) | fail) [wrap_i64, wrap_u64, wrap_u8']
      refine HT.seq ?_
      refine HT.region ?_   -- R7
      simp (disch := first | omega | (simp <;> omega) | fail) [wrap_i64, wrap_u64, wrap_u8']
      refine HT.ret ?_
      simp (disch := first | omega | (simp <;> omega) | fail) [wrap_i64, wrap_u64, wrap_u8', ne_at hk' hkb d1]
    rw [Classical.not_not] at d1
    refine HT.draw [.batch [0, 1, 2, 3, 4, 5, 6, 7, 8]] (by kernel_rfl) ?_   -- R6
    simp (disch := first | omega | (simp <;> omega) | fail) [wrap_i64, wrap_u64, wrap_u8', d1]
    refine HT.cond' ?_   -- if 24
    simp (disch := first | omega | (simp <;> omega) | fail) [wrap_i64, wrap_u64, wrap_u8']
    refine HT.skip ?_
    simp (disch := first | omega | (simp <;> omega) | fail) [wrap_i64, wrap_u64, wrap_u8']
    refine HT.region ?_   -- R8
    simp (disch := first | omega | (simp <;> omega) | fail) [wrap_i64, wrap_u64, wrap_u8']
    refine Round.mk' (⟨k + 1, by omega, agreeX hg (by rw [List.getElem?_eq_getElem hk', List.getElem?_eq_getElem hkb, d1])⟩) (by dsimp only; omega) rfl ?_
    simp (disch := first | omega | (simp <;> omega) | fail) [wrap_i64, wrap_u64, wrap_u8']
  · skip
    obtain rfl : k = a.length := by omega
    refine HT.exit ?_
    simp (disch := first | omega | (simp <;> omega) | fail) [wrap_i64, wrap_u64, wrap_u8']
    refine HT.seq ?_
    refine HT.region ?_   -- R9
    simp (disch := first | omega | (simp <;> omega) | fail) [wrap_i64, wrap_u64, wrap_u8']
    refine HT.ret ?_
    have hx : a = b := extX (by omega) hg
    simp (disch := first | omega | (simp <;> omega) | fail) [wrap_i64, wrap_u64, wrap_u8', hx]
def ApartTo (a b : List Doc) (i : Nat) : Prop := ∀ (k : Nat) (x : Doc), k < i → a[k]? = some x → ∀ y ∈ b, ¬ x.id = y.id
def FarTo (b : List Doc) (n : Int) (j : Nat) : Prop := ∀ (k : Nat) (y : Doc), k < j → b[k]? = some y → ¬ n = y.id
theorem FarTo.succ {b : List Doc} {n : Int} {j : Nat} (h : FarTo b n j) (hj : j < b.length) (hne : ¬ n = b[j].id) : FarTo b n (j + 1) := fun k y hk hy => by
  by_cases e : k = j
  · subst e; rw [List.getElem?_eq_getElem hj] at hy; cases hy; exact hne
  · exact h k y (by omega) hy
theorem ApartTo.succ {a b : List Doc} {i : Nat} (h : ApartTo a b i) (hi : i < a.length) (hf : FarTo b a[i].id b.length) : ApartTo a b (i + 1) := fun k x hk hx y hy => by
  by_cases e : k = i
  · subst e
    rw [List.getElem?_eq_getElem hi] at hx; cases hx
    obtain ⟨j, hj⟩ := List.mem_iff_getElem?.1 hy
    exact hf j y (getElem?_lt hj) hj
  · exact h k x (by omega) hx y hy
def sumD (ls : List Seg) : Nat := (ls.map fun s => s.docs.length).sum
theorem sumD_succ {ls : List Seg} {i : Nat} (hi : i < ls.length) : sumD (ls.take (i + 1)) = sumD (ls.take i) + ls[i].docs.length := by
  unfold sumD; rw [List.take_succ_eq_append_getElem hi, List.map_append, List.sum_append]; simp only [List.map_cons, List.map_nil, List.sum_cons, List.sum_nil, Nat.add_zero]
def shortB (s : Seg) : Bool := decide (s.docs.length ≤ 40)
def smallV (ls : List Seg) : Bool := (ls.take 7).all shortB && decide (ls.length ≤ 6 ∧ sumD (ls.take 7) ≤ 40)
theorem small_no {ls : List Seg} {i : Nat} (hi : i < ls.length) (hi7 : i < 7) (h : ¬ ls[i].docs.length ≤ 40) : smallV ls = false := by
  unfold smallV
  have : (ls.take 7).all shortB = false := by
    rw [List.all_eq_false]
    refine ⟨ls[i], List.mem_iff_getElem?.2 ⟨i, by rw [List.getElem?_take_of_lt hi7, List.getElem?_eq_getElem hi]⟩, by unfold shortB; simpa using h⟩
  rw [this]; rfl
theorem small_end {ls : List Seg} {i : Nat} (h : UpTo shortB ls i) (hi : i ≤ ls.length) (he : i = ls.length ∧ i ≤ 7 ∨ i = 7) : smallV ls = decide (ls.length ≤ 6 ∧ sumD (ls.take i) ≤ 40) := by
  have e : ls.take 7 = ls.take i := by
    rcases he with ⟨h1, h2⟩ | h1
    · rw [List.take_of_length_le (by omega), List.take_of_length_le (by omega)]
    · rw [h1]
  unfold smallV
  have : (ls.take i).all shortB = true := by
    rw [List.all_eq_true]
    intro x hx
    obtain ⟨k, hk⟩ := List.mem_iff_getElem?.1 hx
    have hl := getElem?_lt hk
    rw [List.length_take] at hl
    rw [List.getElem?_take_of_lt (by omega)] at hk
    exact h k x (by omega) hk
  rw [e, this]; simp
set_option maxHeartbeats 2000000 in
theorem small_spec (ls : List Seg) (hl : ls.length ≤ 140737488355328) (hs : ∀ s ∈ ls, s.docs.length ≤ 140737488355328) : Spec1 Tryz.prog 11 [.sl 2 false (segsHV ls)] (bo (smallV ls)) := by
  refine Spec1.of_HT Tryz.func11 rfl (by rw [Tryz.ntmps11]; simp) rfl ?_
  rw [Tryz.ntmps11]
  refine HT.seq ?_
  refine HT.region ?_   -- R0
  simp (disch := first | omega | (simp <;> omega) | fail) [wrap_i64, wrap_u64, wrap_u8']
  refine HT.seq ?_
  refine HT.region ?_   -- R1
  simp (disch := first | omega | (simp <;> omega) | fail) [wrap_i64, wrap_u64, wrap_u8']
  refine HT.joinX (fun p : {i : Nat // smallV ls = decide (ls.length ≤ 6 ∧ sumD (ls.take i) ≤ 40) ∧ sumD (ls.take i) ≤ 1000} => [.s 3 (i64 (sumD (ls.take p.1)))]) [0, 34, 35] [] ?_ ?_
  · skip
    refine HT.seq ?_
    refine HT.region ?_   -- R2
    simp (disch := first | omega | (simp <;> omega) | fail) [wrap_i64, wrap_u64, wrap_u8']
    refine HT.block ?_
    refine HT.loopK (fun i : {i : Nat // i ≤ ls.length ∧ i ≤ 7 ∧ UpTo shortB ls i ∧ sumD (ls.take i) ≤ 40 * i} => [.s 4 (i64 i), .s 3 (i64 (sumD (ls.take i)))]) [0, 34, 35] [] (fun i => ls.length - i) (⟨0, by omega, by omega, UpTo.zero _ _, by simp [sumD]⟩) ?_ ?_   -- block 0 turned [3, 4, 10, 11]
    · simp (disch := first | omega | (simp <;> omega) | fail) [wrap_i64, wrap_u64, wrap_u8', sumD]
    rintro ⟨i, hi, hi7, hg, hsm⟩
    simp (disch := first | omega | (simp <;> omega) | fail) [wrap_i64, wrap_u64, wrap_u8']
    refine HT.seq ?_
    refine HT.seq ?_
    by_cases c1 : ls.length ≤ i
    · skip
      refine HT.region ?_   -- R3
      simp (disch := first | omega | (simp <;> omega) | fail) [wrap_i64, wrap_u64, wrap_u8']
      refine HT.cond' ?_   -- if 12
      simp (disch := first | omega | (simp <;> omega) | fail) [wrap_i64, wrap_u64, wrap_u8']
      refine HT.exit ?_
      simp (disch := first | omega | (simp <;> omega) | fail) [wrap_i64, wrap_u64, wrap_u8']
      refine Pick.mk' (⟨i, small_end hg hi (by omega), by omega⟩) rfl ?_
      simp (disch := first | omega | (simp <;> omega) | fail) [wrap_i64, wrap_u64, wrap_u8']
    have hi' : i < ls.length := by omega
    by_cases c2 : 6 < i
    · skip
      refine HT.region ?_   -- R3
      simp (disch := first | omega | (simp <;> omega) | fail) [wrap_i64, wrap_u64, wrap_u8']
      refine HT.cond' ?_   -- if 12
      simp (disch := first | omega | (simp <;> omega) | fail) [wrap_i64, wrap_u64, wrap_u8']
      refine HT.exit ?_
      simp (disch := first | omega | (simp <;> omega) | fail) [wrap_i64, wrap_u64, wrap_u8']
      refine Pick.mk' (⟨i, small_end hg hi (by omega), by omega⟩) rfl ?_
      simp (disch := first | omega | (simp <;> omega) | fail) [wrap_i64, wrap_u64, wrap_u8']
    have hsi := hs _ (List.getElem_mem hi')
    refine HT.region ?_   -- R3
    simp (disch := first | omega | (simp <;> omega) | fail) [wrap_i64, wrap_u64, wrap_u8']
    refine HT.cond' ?_   -- if 12
    simp (disch := first | omega | (simp <;> omega) | fail) [wrap_i64, wrap_u64, wrap_u8']
    refine HT.skip ?_
    simp (disch := first | omega | (simp <;> omega) | fail) [wrap_i64, wrap_u64, wrap_u8']
    refine HT.seq ?_
    refine HT.block ?_
    refine HT.seq ?_
    refine HT.region ?_   -- R5
    simp (disch := first | omega | (simp <;> omega) | fail) [wrap_i64, wrap_u64, wrap_u8']
    refine HT.seq ?_
    refine HT.region ?_   -- R6
    simp (disch := first | omega | (simp <;> omega) | fail) [wrap_i64, wrap_u64, wrap_u8']
    refine HT.cond' ?_   -- if 29
    simp (disch := first | omega | (simp <;> omega) | fail) [wrap_i64, wrap_u64, wrap_u8']
    refine ⟨fun h29 => ?_, fun h29 => ?_⟩
    · skip
      refine HT.seq ?_
      refine HT.region ?_   -- R7
      simp (disch := first | omega | (simp <;> omega) | fail) [wrap_i64, wrap_u64, wrap_u8']
      refine HT.ret ?_
      simp (disch := first | omega | (simp <;> omega) | fail) [wrap_i64, wrap_u64, wrap_u8', small_no hi' (by omega) (by omega)]
    · skip
      refine HT.skip ?_
      simp (disch := first | omega | (simp <;> omega) | fail) [wrap_i64, wrap_u64, wrap_u8']
      refine HT.region ?_   -- R4
      simp (disch := first | omega | (simp <;> omega) | fail) [wrap_i64, wrap_u64, wrap_u8']
      refine Round.mk' (⟨i + 1, by omega, by omega, hg.succ hi' (decide_eq_true (by omega)), by rw [sumD_succ hi']; omega⟩) (by dsimp only; omega) rfl ?_
      simp (disch := first | omega | (simp <;> omega) | fail) [wrap_i64, wrap_u64, wrap_u8', sumD_succ hi']
  · rintro ⟨i, hsv, hs1⟩
    simp (disch := first | omega | (simp <;> omega) | fail) [wrap_i64, wrap_u64, wrap_u8']
    refine HT.seq ?_
    by_cases e1 : ls.length ≤ 6
    · skip
      refine HT.region ?_   -- R8
      simp (disch := first | omega | (simp <;> omega) | fail) [wrap_i64, wrap_u64, wrap_u8']
      refine HT.ret ?_
      simp (disch := first | omega | (simp <;> omega) | fail) [wrap_i64, wrap_u64, wrap_u8', hsv, e1]
      try omega
    refine HT.region ?_   -- R8
    simp (disch := first | omega | (simp <;> omega) | fail) [wrap_i64, wrap_u64, wrap_u8']
    refine HT.ret ?_
    simp (disch := first | omega | (simp <;> omega) | fail) [wrap_i64, wrap_u64, wrap_u8', hsv, e1]
    try omega
end Go.Hv
set_option linter.unusedVariables false
set_option linter.unusedSimpArgs false
namespace Go.Hv
open Go Go.Hv Go.Proofs Go.RowKit
open Go.Proofs.YthdljfognblpbaaGreatDoor
theorem gram_iff (a b : Gram) : (a = b) = (a.code = b.code ∧ a.off = b.off) := by cases a; cases b; simp
theorem post_iff (a b : Post) : (a = b) = (a.code = b.code ∧ a.docs = b.docs) := by cases a; cases b; simp
set_option maxHeartbeats 2000000 in
set_option maxRecDepth 20000 in
theorem atC_spec (a b : Gram) (ha : a.off.length ≤ 140737488355328) : Spec1 Tryz.prog 119 [.agg a.enc, .agg b.enc] (bo (decide (a = b))) := by
  refine Spec1.of_HT Tryz.func119 rfl (by rw [Tryz.ntmps119]; simp) rfl ?_
  rw [Tryz.ntmps119]
  refine HT.seq ?_
  refine HT.region ?_   -- R0
  simp (disch := first | omega | (simp <;> omega) | fail) [wrap_i64, wrap_u64, wrap_u8']
  refine HT.seq ?_
  by_cases d1 : ¬ a.code = b.code
  · skip
    refine HT.region ?_   -- R1
    simp (disch := first | omega | (simp <;> omega) | fail) [wrap_i64, wrap_u64, wrap_u8']
    refine HT.ret ?_
    first | (have hx : (a = b) = False := eq_false (by rw [gram_iff]; exact fun h => d1 h.1); simp (disch := first | omega | (simp <;> omega) | fail) [wrap_i64, wrap_u64, wrap_u8', hx]; done) | (have hx : (a = b) = (a.off = b.off) := (by rw [gram_iff]; simp [Classical.not_not.1 d1]); simp (disch := first | omega | (simp <;> omega) | fail) [wrap_i64, wrap_u64, wrap_u8', hx]; done)
  refine HT.region ?_   -- R1
  simp (disch := first | omega | (simp <;> omega) | fail) [wrap_i64, wrap_u64, wrap_u8']
  refine stepK.mk (.call1 _ _ _ _ rfl Ty.hb120 rfl (EqI_spec a.off b.off ha) rfl rfl) ?_
  simp (disch := first | omega | (simp <;> omega) | fail) [wrap_i64, wrap_u64, wrap_u8']
  refine HT.ret ?_
  first | (have hx : (a = b) = False := eq_false (by rw [gram_iff]; exact fun h => d1 h.1); simp (disch := first | omega | (simp <;> omega) | fail) [wrap_i64, wrap_u64, wrap_u8', hx]; done) | (have hx : (a = b) = (a.off = b.off) := (by rw [gram_iff]; simp [Classical.not_not.1 d1]); simp (disch := first | omega | (simp <;> omega) | fail) [wrap_i64, wrap_u64, wrap_u8', hx]; done)
set_option maxHeartbeats 2000000 in
set_option maxRecDepth 20000 in
theorem eqfG_spec (a b : List Gram) (ha : a.length ≤ 140737488355328) (hA : ∀ g ∈ a, g.off.length ≤ 140737488355328) : Spec1 Tryz.prog 118 [.sl 2 false (gramsHV a), .sl 2 false (gramsHV b), .fn (.func 119) []] (bo (decide (a = b))) := by
  refine Spec1.of_HT Tryz.func118 rfl (by rw [Tryz.ntmps118]; simp) rfl ?_
  rw [Tryz.ntmps118]
  refine HT.seq ?_
  refine HT.region ?_   -- R0
  simp (disch := first | omega | (simp <;> omega) | fail) [wrap_i64, wrap_u64, wrap_u8']
  refine HT.seq ?_
  refine HT.seq ?_
  by_cases c1 : ¬ a.length = b.length
  · skip
    refine HT.region ?_   -- R1
    simp (disch := first | omega | (simp <;> omega) | fail) [wrap_i64, wrap_u64, wrap_u8']
    refine HT.cond' ?_   -- if 14
    simp (disch := first | omega | (simp <;> omega) | fail) [wrap_i64, wrap_u64, wrap_u8']
    refine HT.seq ?_
    refine HT.region ?_   -- R2
    simp (disch := first | omega | (simp <;> omega) | fail) [wrap_i64, wrap_u64, wrap_u8']
    refine HT.ret ?_
    simp (disch := first | omega | (simp <;> omega) | fail) [wrap_i64, wrap_u64, wrap_u8', ne_len c1]
  refine HT.region ?_   -- R1
  simp (disch := first | omega | (simp <;> omega) | fail) [wrap_i64, wrap_u64, wrap_u8']
  refine HT.cond' ?_   -- if 14
  simp (disch := first | omega | (simp <;> omega) | fail) [wrap_i64, wrap_u64, wrap_u8']
  refine HT.skip ?_
  simp (disch := first | omega | (simp <;> omega) | fail) [wrap_i64, wrap_u64, wrap_u8']
  refine HT.seq ?_
  refine HT.seq ?_
  refine HT.region ?_   -- R3
  simp (disch := first | omega | (simp <;> omega) | fail) [wrap_i64, wrap_u64, wrap_u8']
  refine HT.block ?_
  refine HT.loopK (fun k : {k : Nat // k ≤ a.length ∧ ∀ i, i < k → a[i]? = b[i]?} => [.s 17 (i64 k)]) [1, 2, 15, 16] [] (fun k => a.length - k) (⟨0, by omega, by intro i hi; omega⟩) ?_ ?_   -- block 0 turned [17]
  · simp (disch := first | omega | (simp <;> omega) | fail) [wrap_i64, wrap_u64, wrap_u8']
  rintro ⟨k, hk, hg⟩
  simp (disch := first | omega | (simp <;> omega) | fail) [wrap_i64, wrap_u64, wrap_u8']
  refine HT.seq ?_
  refine HT.region ?_   -- R4
  simp (disch := first | omega | (simp <;> omega) | fail) [wrap_i64, wrap_u64, wrap_u8']
  refine HT.seq ?_
  refine HT.cond' ?_   -- if 18
  simp (disch := first | omega | (simp <;> omega) | fail) [wrap_i64, wrap_u64, wrap_u8']
  refine ⟨fun h18 => ?_, fun h18 => ?_⟩
  · skip
    have hk' : k < a.length := by omega
    have hkb : k < b.length := by omega
    refine HT.skip ?_
    simp (disch := first | omega | (simp <;> omega) | fail) [wrap_i64, wrap_u64, wrap_u8']
    refine HT.seq ?_
    refine HT.block ?_
    refine HT.seq ?_
    refine HT.region ?_   -- R5
    simp (disch := first | omega | (simp <;> omega) | fail) [wrap_i64, wrap_u64, wrap_u8']
    refine HT.seq ?_
    refine HT.region ?_   -- R6
    simp (disch := first | omega | (simp <;> omega) | fail) [wrap_i64, wrap_u64, wrap_u8']
    refine HT.seq ?_
    by_cases d1 : ¬ a[k] = b[k]
    · skip
      have hq := eq_false d1
      refine HT.region ?_   -- R7
      simp (disch := first | omega | (simp <;> omega) | fail) [wrap_i64, wrap_u64, wrap_u8']
      refine stepK.mk (.call1 _ _ _ _ rfl Ty.hb119 rfl (atC_spec a[k] b[k] (hA _ (List.getElem_mem hk'))) rfl rfl) ?_
      simp (disch := first | omega | (simp <;> omega) | fail) [wrap_i64, wrap_u64, wrap_u8', hq]
      refine HT.cond' ?_   -- if 30
      simp (disch := first | omega | (simp <;> omega) | fail) [wrap_i64, wrap_u64, wrap_u8']
      refine HT.seq ?_
      refine HT.region ?_   -- R8
      simp (disch := first | omega | (simp <;> omega) | fail) [wrap_i64, wrap_u64, wrap_u8']
      refine HT.ret ?_
      simp (disch := first | omega | (simp <;> omega) | fail) [wrap_i64, wrap_u64, wrap_u8', ne_at hk' hkb d1]
    rw [Classical.not_not] at d1
    have hq := eq_true d1
    refine HT.region ?_   -- R7
    simp (disch := first | omega | (simp <;> omega) | fail) [wrap_i64, wrap_u64, wrap_u8']
    refine stepK.mk (.call1 _ _ _ _ rfl Ty.hb119 rfl (atC_spec a[k] b[k] (hA _ (List.getElem_mem hk'))) rfl rfl) ?_
    simp (disch := first | omega | (simp <;> omega) | fail) [wrap_i64, wrap_u64, wrap_u8', hq]
    refine HT.cond' ?_   -- if 30
    simp (disch := first | omega | (simp <;> omega) | fail) [wrap_i64, wrap_u64, wrap_u8']
    refine HT.skip ?_
    simp (disch := first | omega | (simp <;> omega) | fail) [wrap_i64, wrap_u64, wrap_u8']
    refine HT.region ?_   -- R9
    simp (disch := first | omega | (simp <;> omega) | fail) [wrap_i64, wrap_u64, wrap_u8']
    refine Round.mk' (⟨k + 1, by omega, agreeX hg (by rw [List.getElem?_eq_getElem hk', List.getElem?_eq_getElem hkb, d1])⟩) (by dsimp only; omega) rfl ?_
    simp (disch := first | omega | (simp <;> omega) | fail) [wrap_i64, wrap_u64, wrap_u8']
  · skip
    obtain rfl : k = a.length := by omega
    refine HT.exit ?_
    simp (disch := first | omega | (simp <;> omega) | fail) [wrap_i64, wrap_u64, wrap_u8']
    refine HT.seq ?_
    refine HT.region ?_   -- R10
    simp (disch := first | omega | (simp <;> omega) | fail) [wrap_i64, wrap_u64, wrap_u8']
    refine HT.ret ?_
    have hx : a = b := extX (by omega) hg
    simp (disch := first | omega | (simp <;> omega) | fail) [wrap_i64, wrap_u64, wrap_u8', hx]
theorem sameAt_spec (a b : List Gram) (ha : a.length ≤ 140737488355328) (hA : ∀ g ∈ a, g.off.length ≤ 140737488355328) : Spec1 Tryz.prog 83 [.sl 2 false (gramsHV a), .sl 2 false (gramsHV b)] (bo (decide (a = b))) := by
  refine Spec1.of_HT Tryz.func83 rfl (by rw [Tryz.ntmps83]; simp) rfl ?_
  rw [Tryz.ntmps83]
  refine HT.seq ?_
  refine HT.region ?_   -- R0
  simp (disch := first | omega | (simp <;> omega) | fail) [wrap_i64, wrap_u64, wrap_u8']
  refine HT.seq ?_
  refine HT.region ?_   -- R1
  simp (disch := first | omega | (simp <;> omega) | fail) [wrap_i64, wrap_u64, wrap_u8']
  refine stepK.mk (.call1 _ _ _ _ rfl Ty.hb118 rfl (eqfG_spec a b ha hA) rfl rfl) ?_
  simp (disch := first | omega | (simp <;> omega) | fail) [wrap_i64, wrap_u64, wrap_u8']
  refine HT.ret ?_
  simp (disch := first | omega | (simp <;> omega) | fail) [wrap_i64, wrap_u64, wrap_u8']
set_option maxHeartbeats 2000000 in
set_option maxRecDepth 20000 in
theorem postC_spec (a b : Post) (ha : a.docs.length ≤ 140737488355328) (hA : ∀ g ∈ a.docs, g.off.length ≤ 140737488355328) : Spec1 Tryz.prog 82 [.agg a.enc, .agg b.enc] (bo (decide (a = b))) := by
  refine Spec1.of_HT Tryz.func82 rfl (by rw [Tryz.ntmps82]; simp) rfl ?_
  rw [Tryz.ntmps82]
  refine HT.seq ?_
  refine HT.region ?_   -- R0
  simp (disch := first | omega | (simp <;> omega) | fail) [wrap_i64, wrap_u64, wrap_u8']
  refine HT.seq ?_
  by_cases d1 : ¬ a.code = b.code
  · skip
    refine HT.region ?_   -- R1
    simp (disch := first | omega | (simp <;> omega) | fail) [wrap_i64, wrap_u64, wrap_u8']
    refine HT.ret ?_
    first | (have hx : (a = b) = False := eq_false (by rw [post_iff]; exact fun h => d1 h.1); simp (disch := first | omega | (simp <;> omega) | fail) [wrap_i64, wrap_u64, wrap_u8', hx]; done) | (have hx : (a = b) = (a.docs = b.docs) := (by rw [post_iff]; simp [Classical.not_not.1 d1]); simp (disch := first | omega | (simp <;> omega) | fail) [wrap_i64, wrap_u64, wrap_u8', hx]; done)
  refine HT.region ?_   -- R1
  simp (disch := first | omega | (simp <;> omega) | fail) [wrap_i64, wrap_u64, wrap_u8']
  refine stepK.mk (.call1 _ _ _ _ rfl Ty.hb83 rfl (sameAt_spec a.docs b.docs ha hA) rfl rfl) ?_
  simp (disch := first | omega | (simp <;> omega) | fail) [wrap_i64, wrap_u64, wrap_u8']
  refine HT.ret ?_
  first | (have hx : (a = b) = False := eq_false (by rw [post_iff]; exact fun h => d1 h.1); simp (disch := first | omega | (simp <;> omega) | fail) [wrap_i64, wrap_u64, wrap_u8', hx]; done) | (have hx : (a = b) = (a.docs = b.docs) := (by rw [post_iff]; simp [Classical.not_not.1 d1]); simp (disch := first | omega | (simp <;> omega) | fail) [wrap_i64, wrap_u64, wrap_u8', hx]; done)
set_option maxHeartbeats 2000000 in
set_option maxRecDepth 20000 in
theorem eqfP_spec (a b : List Post) (ha : a.length ≤ 140737488355328) (hA : ∀ p ∈ a, p.docs.length ≤ 140737488355328 ∧ ∀ g ∈ p.docs, g.off.length ≤ 140737488355328) : Spec1 Tryz.prog 81 [.sl 2 false (postsHV a), .sl 2 false (postsHV b), .fn (.func 82) []] (bo (decide (a = b))) := by
  refine Spec1.of_HT Tryz.func81 rfl (by rw [Tryz.ntmps81]; simp) rfl ?_
  rw [Tryz.ntmps81]
  refine HT.seq ?_
  refine HT.region ?_   -- R0
  simp (disch := first | omega | (simp <;> omega) | fail) [wrap_i64, wrap_u64, wrap_u8']
  refine HT.seq ?_
  refine HT.seq ?_
  by_cases c1 : ¬ a.length = b.length
  · skip
    refine HT.region ?_   -- R1
    simp (disch := first | omega | (simp <;> omega) | fail) [wrap_i64, wrap_u64, wrap_u8']
    refine HT.cond' ?_   -- if 14
    simp (disch := first | omega | (simp <;> omega) | fail) [wrap_i64, wrap_u64, wrap_u8']
    refine HT.seq ?_
    refine HT.region ?_   -- R2
    simp (disch := first | omega | (simp <;> omega) | fail) [wrap_i64, wrap_u64, wrap_u8']
    refine HT.ret ?_
    simp (disch := first | omega | (simp <;> omega) | fail) [wrap_i64, wrap_u64, wrap_u8', ne_len c1]
  refine HT.region ?_   -- R1
  simp (disch := first | omega | (simp <;> omega) | fail) [wrap_i64, wrap_u64, wrap_u8']
  refine HT.cond' ?_   -- if 14
  simp (disch := first | omega | (simp <;> omega) | fail) [wrap_i64, wrap_u64, wrap_u8']
  refine HT.skip ?_
  simp (disch := first | omega | (simp <;> omega) | fail) [wrap_i64, wrap_u64, wrap_u8']
  refine HT.seq ?_
  refine HT.seq ?_
  refine HT.region ?_   -- R3
  simp (disch := first | omega | (simp <;> omega) | fail) [wrap_i64, wrap_u64, wrap_u8']
  refine HT.block ?_
  refine HT.loopK (fun k : {k : Nat // k ≤ a.length ∧ ∀ i, i < k → a[i]? = b[i]?} => [.s 17 (i64 k)]) [1, 2, 15, 16] [] (fun k => a.length - k) (⟨0, by omega, by intro i hi; omega⟩) ?_ ?_   -- block 0 turned [17]
  · simp (disch := first | omega | (simp <;> omega) | fail) [wrap_i64, wrap_u64, wrap_u8']
  rintro ⟨k, hk, hg⟩
  simp (disch := first | omega | (simp <;> omega) | fail) [wrap_i64, wrap_u64, wrap_u8']
  refine HT.seq ?_
  refine HT.region ?_   -- R4
  simp (disch := first | omega | (simp <;> omega) | fail) [wrap_i64, wrap_u64, wrap_u8']
  refine HT.seq ?_
  refine HT.cond' ?_   -- if 18
  simp (disch := first | omega | (simp <;> omega) | fail) [wrap_i64, wrap_u64, wrap_u8']
  refine ⟨fun h18 => ?_, fun h18 => ?_⟩
  · skip
    have hk' : k < a.length := by omega
    have hkb : k < b.length := by omega
    have hAk := hA _ (List.getElem_mem hk')
    refine HT.skip ?_
    simp (disch := first | omega | (simp <;> omega) | fail) [wrap_i64, wrap_u64, wrap_u8']
    refine HT.seq ?_
    refine HT.block ?_
    refine HT.seq ?_
    refine HT.region ?_   -- R5
    simp (disch := first | omega | (simp <;> omega) | fail) [wrap_i64, wrap_u64, wrap_u8']
    refine HT.seq ?_
    refine HT.region ?_   -- R6
    simp (disch := first | omega | (simp <;> omega) | fail) [wrap_i64, wrap_u64, wrap_u8']
    refine HT.seq ?_
    by_cases d1 : ¬ a[k] = b[k]
    · skip
      have hq := eq_false d1
      refine HT.region ?_   -- R7
      simp (disch := first | omega | (simp <;> omega) | fail) [wrap_i64, wrap_u64, wrap_u8']
      refine stepK.mk (.call1 _ _ _ _ rfl Ty.hb82 rfl (postC_spec a[k] b[k] hAk.1 hAk.2) rfl rfl) ?_
      simp (disch := first | omega | (simp <;> omega) | fail) [wrap_i64, wrap_u64, wrap_u8', hq]
      refine HT.cond' ?_   -- if 30
      simp (disch := first | omega | (simp <;> omega) | fail) [wrap_i64, wrap_u64, wrap_u8']
      refine HT.seq ?_
      refine HT.region ?_   -- R8
      simp (disch := first | omega | (simp <;> omega) | fail) [wrap_i64, wrap_u64, wrap_u8']
      refine HT.ret ?_
      simp (disch := first | omega | (simp <;> omega) | fail) [wrap_i64, wrap_u64, wrap_u8', ne_at hk' hkb d1]
    rw [Classical.not_not] at d1
    have hq := eq_true d1
    refine HT.region ?_   -- R7
    simp (disch := first | omega | (simp <;> omega) | fail) [wrap_i64, wrap_u64, wrap_u8']
    refine stepK.mk (.call1 _ _ _ _ rfl Ty.hb82 rfl (postC_spec a[k] b[k] hAk.1 hAk.2) rfl rfl) ?_
    simp (disch := first | omega | (simp <;> omega) | fail) [wrap_i64, wrap_u64, wrap_u8', hq]
    refine HT.cond' ?_   -- if 30
    simp (disch := first | omega | (simp <;> omega) | fail) [wrap_i64, wrap_u64, wrap_u8']
    refine HT.skip ?_
    simp (disch := first | omega | (simp <;> omega) | fail) [wrap_i64, wrap_u64, wrap_u8']
    refine HT.region ?_   -- R9
    simp (disch := first | omega | (simp <;> omega) | fail) [wrap_i64, wrap_u64, wrap_u8']
    refine Round.mk' (⟨k + 1, by omega, agreeX hg (by rw [List.getElem?_eq_getElem hk', List.getElem?_eq_getElem hkb, d1])⟩) (by dsimp only; omega) rfl ?_
    simp (disch := first | omega | (simp <;> omega) | fail) [wrap_i64, wrap_u64, wrap_u8']
  · skip
    obtain rfl : k = a.length := by omega
    refine HT.exit ?_
    simp (disch := first | omega | (simp <;> omega) | fail) [wrap_i64, wrap_u64, wrap_u8']
    refine HT.seq ?_
    refine HT.region ?_   -- R10
    simp (disch := first | omega | (simp <;> omega) | fail) [wrap_i64, wrap_u64, wrap_u8']
    refine HT.ret ?_
    have hx : a = b := extX (by omega) hg
    simp (disch := first | omega | (simp <;> omega) | fail) [wrap_i64, wrap_u64, wrap_u8', hx]
end Go.Hv
set_option linter.unusedVariables false
set_option linter.unusedSimpArgs false
namespace Go.Hv
open Go Go.Hv Go.Proofs Go.RowKit
open Go.Proofs.YthdljfognblpbaaGreatDoor
set_option maxHeartbeats 4000000 in
set_option maxRecDepth 20000 in
theorem dSame_spec (a b : List Doc) (ha : a.length ≤ 1000000) (hA : ∀ d ∈ a, DocQ d) (hB : ∀ d ∈ b, DocQ d) : Spec1 Tryz.prog 80 [.sl 5 false (docsHV a), .sl 5 false (docsHV b)] (bo (decide (a = b))) := by
  refine Spec1.of_HT Tryz.func80 rfl (by rw [Tryz.ntmps80]; simp) rfl ?_
  rw [Tryz.ntmps80]
  refine HT.seq ?_
  refine HT.region ?_   -- R0
  simp (disch := first | omega | (simp <;> omega) | fail) [wrap_i64, wrap_u64, wrap_u8']
  refine HT.seq ?_
  refine HT.seq ?_
  by_cases c1 : ¬ a.length = b.length
  · skip
    refine HT.region ?_   -- R1
    simp (disch := first | omega | (simp <;> omega) | fail) [wrap_i64, wrap_u64, wrap_u8']
    refine HT.cond' ?_   -- if 11
    simp (disch := first | omega | (simp <;> omega) | fail) [wrap_i64, wrap_u64, wrap_u8']
    refine HT.seq ?_
    refine HT.region ?_   -- R2
    simp (disch := first | omega | (simp <;> omega) | fail) [wrap_i64, wrap_u64, wrap_u8']
    refine HT.ret ?_
    simp (disch := first | omega | (simp <;> omega) | fail) [wrap_i64, wrap_u64, wrap_u8', ne_len c1]
  refine HT.region ?_   -- R1
  simp (disch := first | omega | (simp <;> omega) | fail) [wrap_i64, wrap_u64, wrap_u8']
  refine HT.cond' ?_   -- if 11
  simp (disch := first | omega | (simp <;> omega) | fail) [wrap_i64, wrap_u64, wrap_u8']
  refine HT.skip ?_
  simp (disch := first | omega | (simp <;> omega) | fail) [wrap_i64, wrap_u64, wrap_u8']
  refine HT.seq ?_
  refine HT.seq ?_
  refine HT.region ?_   -- R3
  simp (disch := first | omega | (simp <;> omega) | fail) [wrap_i64, wrap_u64, wrap_u8']
  refine HT.block ?_
  refine HT.loopK (fun k : {k : Nat // k ≤ a.length ∧ ∀ i, i < k → a[i]? = b[i]?} => [.s 14 (i64 k)]) [1, 12, 13] [] (fun k => a.length - k) (⟨0, by omega, by intro i hi; omega⟩) ?_ ?_   -- block 0 turned [14, 28, 29, 30, 31, 32, 33, 34, 35, 38, 39, 40, 41, 42, 43, 44, 45, 46]
  · simp (disch := first | omega | (simp <;> omega) | fail) [wrap_i64, wrap_u64, wrap_u8']
  rintro ⟨k, hk, hg⟩
  simp (disch := first | omega | (simp <;> omega) | fail) [wrap_i64, wrap_u64, wrap_u8']
  refine HT.seq ?_
  refine HT.region ?_   -- R4
  simp (disch := first | omega | (simp <;> omega) | fail) [wrap_i64, wrap_u64, wrap_u8']
  refine HT.seq ?_
  refine HT.cond' ?_   -- if 15
  simp (disch := first | omega | (simp <;> omega) | fail) [wrap_i64, wrap_u64, wrap_u8']
  refine ⟨fun h15 => ?_, fun h15 => ?_⟩
  · skip
    have hk' : k < a.length := by omega
    have hkb : k < b.length := by omega
    have hAk := hA _ (List.getElem_mem hk')
    have hBk := hB _ (List.getElem_mem hkb)
    have hke : aggEq Tryz.prog 85 [.str a[k].repo, .str a[k].path, .str a[k].text] [.str b[k].repo, .str b[k].path, .str b[k].text] = some (decide (keyV a[k] = keyV b[k])) := aggEq85 hAk.kb hBk.kb
    have hon := hAk.2.2.2.1
    refine HT.skip ?_
    simp (disch := first | omega | (simp <;> omega) | fail) [wrap_i64, wrap_u64, wrap_u8']
    refine HT.seq ?_
    refine HT.block ?_
    refine HT.seq ?_
    refine HT.region ?_   -- R5
    simp (disch := first | omega | (simp <;> omega) | fail) [wrap_i64, wrap_u64, wrap_u8']
    refine HT.seq ?_
    by_cases d1 : ¬ a[k].id = b[k].id
    · skip
      refine HT.draw [.batch [0, 1, 2, 3, 4, 5, 6, 7, 8, 9, 10, 11, 12, 13, 14, 15, 16, 17, 18, 19, 20, 21, 22, 23, 24, 25, 26, 27, 28]] (by kernel_rfl) ?_   -- R6
      simp -dsimp (disch := first | omega | (simp <;> omega) | fail) [wrap_i64, wrap_u64, wrap_u8']
      refine HT.cond' ?_   -- if 47
      simp (disch := first | omega | (simp <;> omega) | fail) [wrap_i64, wrap_u64, wrap_u8']
      refine HT.seq ?_
      refine HT.region ?_   -- R7
      simp (disch := first | omega | (simp <;> omega) | fail) [wrap_i64, wrap_u64, wrap_u8']
      refine HT.ret ?_
      have hx : ¬ a = b := ne_at hk' hkb (fun h => by first | exact d1 (by rw [h]) | exact d2 (by rw [h]) | exact d3 (by rw [h]))
      simp (disch := first | omega | (simp <;> omega) | fail) [wrap_i64, wrap_u64, wrap_u8', hx]
    rw [Classical.not_not] at d1
    by_cases d2 : ¬ keyV a[k] = keyV b[k]
    · skip
      have hq2 := eq_false d2
      refine HT.draw [.batch [0, 1, 2, 3, 4, 5, 6, 7, 8, 9, 10, 11, 12, 13, 14, 15, 16, 17, 18, 19, 20, 21, 22, 23, 24, 25, 26, 27, 28]] (by kernel_rfl) ?_   -- R6
      simp -dsimp (disch := first | omega | (simp <;> omega) | fail) [wrap_i64, wrap_u64, wrap_u8', hke, hq2]
      refine stepK.mk (.call1 _ _ _ rfl Ty.hb71 rfl rfl (key_spec a[k])) ?_
      simp -dsimp (disch := first | omega | (simp <;> omega) | fail) [wrap_i64, wrap_u64, wrap_u8', hke, hq2]
      refine stepK.mk (.call1 _ _ _ rfl Ty.hb71 rfl rfl (key_spec b[k])) ?_
      simp -dsimp (disch := first | omega | (simp <;> omega) | fail) [wrap_i64, wrap_u64, wrap_u8', hke, hq2]
      refine HT.cond' ?_   -- if 47
      simp (disch := first | omega | (simp <;> omega) | fail) [wrap_i64, wrap_u64, wrap_u8']
      refine HT.seq ?_
      refine HT.region ?_   -- R7
      simp (disch := first | omega | (simp <;> omega) | fail) [wrap_i64, wrap_u64, wrap_u8']
      refine HT.ret ?_
      have hx : ¬ a = b := ne_at hk' hkb (fun h => by first | exact d1 (by rw [h]) | exact d2 (by rw [h]) | exact d3 (by rw [h]))
      simp (disch := first | omega | (simp <;> omega) | fail) [wrap_i64, wrap_u64, wrap_u8', hx]
    rw [Classical.not_not] at d2
    have hq2 := eq_true d2
    by_cases d3 : ¬ a[k].on = b[k].on
    · skip
      have hq := eq_false d3
      refine HT.draw [.batch [0, 1, 2, 3, 4, 5, 6, 7, 8, 9, 10, 11, 12, 13, 14, 15, 16, 17, 18, 19, 20, 21, 22, 23, 24, 25, 26, 27, 28]] (by kernel_rfl) ?_   -- R6
      simp -dsimp (disch := first | omega | (simp <;> omega) | fail) [wrap_i64, wrap_u64, wrap_u8', hke, hq2]
      refine stepK.mk (.call1 _ _ _ rfl Ty.hb71 rfl rfl (key_spec a[k])) ?_
      simp -dsimp (disch := first | omega | (simp <;> omega) | fail) [wrap_i64, wrap_u64, wrap_u8', hke, hq2]
      refine stepK.mk (.call1 _ _ _ rfl Ty.hb71 rfl rfl (key_spec b[k])) ?_
      simp -dsimp (disch := first | omega | (simp <;> omega) | fail) [wrap_i64, wrap_u64, wrap_u8', hke, hq2]
      refine stepK.mk (.call1 _ _ _ rfl Ty.hb117 rfl rfl (EqS_spec a[k].on b[k].on (by omega))) ?_
      simp -dsimp (disch := first | omega | (simp <;> omega) | fail) [wrap_i64, wrap_u64, wrap_u8', hke, hq2, hq]
      refine HT.cond' ?_   -- if 47
      simp (disch := first | omega | (simp <;> omega) | fail) [wrap_i64, wrap_u64, wrap_u8']
      refine HT.seq ?_
      refine HT.region ?_   -- R7
      simp (disch := first | omega | (simp <;> omega) | fail) [wrap_i64, wrap_u64, wrap_u8']
      refine HT.ret ?_
      have hx : ¬ a = b := ne_at hk' hkb (fun h => by first | exact d1 (by rw [h]) | exact d2 (by rw [h]) | exact d3 (by rw [h]))
      simp (disch := first | omega | (simp <;> omega) | fail) [wrap_i64, wrap_u64, wrap_u8', hx]
    rw [Classical.not_not] at d3
    have hq := eq_true d3
    refine HT.draw [.batch [0, 1, 2, 3, 4, 5, 6, 7, 8, 9, 10, 11, 12, 13, 14, 15, 16, 17, 18, 19, 20, 21, 22, 23, 24, 25, 26, 27, 28]] (by kernel_rfl) ?_   -- R6
    simp -dsimp (disch := first | omega | (simp <;> omega) | fail) [wrap_i64, wrap_u64, wrap_u8', hke, hq2]
    refine stepK.mk (.call1 _ _ _ rfl Ty.hb71 rfl rfl (key_spec a[k])) ?_
    simp -dsimp (disch := first | omega | (simp <;> omega) | fail) [wrap_i64, wrap_u64, wrap_u8', hke, hq2]
    refine stepK.mk (.call1 _ _ _ rfl Ty.hb71 rfl rfl (key_spec b[k])) ?_
    simp -dsimp (disch := first | omega | (simp <;> omega) | fail) [wrap_i64, wrap_u64, wrap_u8', hke, hq2]
    refine stepK.mk (.call1 _ _ _ rfl Ty.hb117 rfl rfl (EqS_spec a[k].on b[k].on (by omega))) ?_
    simp -dsimp (disch := first | omega | (simp <;> omega) | fail) [wrap_i64, wrap_u64, wrap_u8', hke, hq2, hq]
    refine HT.cond' ?_   -- if 47
    simp (disch := first | omega | (simp <;> omega) | fail) [wrap_i64, wrap_u64, wrap_u8']
    refine HT.skip ?_
    simp (disch := first | omega | (simp <;> omega) | fail) [wrap_i64, wrap_u64, wrap_u8']
    refine HT.region ?_   -- R8
    simp (disch := first | omega | (simp <;> omega) | fail) [wrap_i64, wrap_u64, wrap_u8']
    refine Round.mk' (⟨k + 1, by omega, agreeX hg (by rw [List.getElem?_eq_getElem hk', List.getElem?_eq_getElem hkb, (doc_eq d1 d2).mpr d3])⟩) (by dsimp only; omega) rfl ?_
    simp (disch := first | omega | (simp <;> omega) | fail) [wrap_i64, wrap_u64, wrap_u8']
  · skip
    obtain rfl : k = a.length := by omega
    refine HT.exit ?_
    simp (disch := first | omega | (simp <;> omega) | fail) [wrap_i64, wrap_u64, wrap_u8']
    refine HT.seq ?_
    refine HT.region ?_   -- R9
    simp (disch := first | omega | (simp <;> omega) | fail) [wrap_i64, wrap_u64, wrap_u8']
    refine HT.ret ?_
    have hx : a = b := extX (by omega) hg
    simp (disch := first | omega | (simp <;> omega) | fail) [wrap_i64, wrap_u64, wrap_u8', hx]
set_option maxRecDepth 20000 in
set_option maxHeartbeats 2000000 in
theorem sSame_spec (a b : Seg) (ha : SegQ a) (hb : SegQ b) : Spec1 Tryz.prog 59 [.agg a.enc, .agg b.enc] (bo (decide (a = b))) := by
  refine Spec1.of_HT Tryz.func59 rfl (by rw [Tryz.ntmps59]; simp) rfl ?_
  rw [Tryz.ntmps59]
  refine HT.seq ?_
  refine HT.region ?_   -- R0
  simp (disch := first | omega | (simp <;> omega) | fail) [wrap_i64, wrap_u64, wrap_u8']
  refine HT.seq ?_
  by_cases d1 : ¬ a.docs = b.docs
  · skip
    have hq := eq_false d1
    refine HT.region ?_   -- R1
    simp (disch := first | omega | (simp <;> omega) | fail) [wrap_i64, wrap_u64, wrap_u8', hq]
    refine stepK.mk (.call1 _ _ _ _ rfl Ty.hb80 rfl (dSame_spec a.docs b.docs ha.1 ha.2.1 hb.2.1) rfl rfl) ?_
    simp (disch := first | omega | (simp <;> omega) | fail) [wrap_i64, wrap_u64, wrap_u8', hq, hq]
    refine HT.ret ?_
    simp (disch := first | omega | (simp <;> omega) | fail) [wrap_i64, wrap_u64, wrap_u8', seg_eq, hq]
  rw [Classical.not_not] at d1
  have hq := eq_true d1
  refine HT.region ?_   -- R1
  simp (disch := first | omega | (simp <;> omega) | fail) [wrap_i64, wrap_u64, wrap_u8', hq]
  refine stepK.mk (.call1 _ _ _ _ rfl Ty.hb80 rfl (dSame_spec a.docs b.docs ha.1 ha.2.1 hb.2.1) rfl rfl) ?_
  simp (disch := first | omega | (simp <;> omega) | fail) [wrap_i64, wrap_u64, wrap_u8', hq, hq]
  refine stepK.mk (.call1 _ _ _ _ rfl Ty.hb81 rfl (eqfP_spec a.grams b.grams (by have := ha.2.2.1; omega) (fun p hp => ⟨by have := (ha.2.2.2 p hp).1; omega, fun g hg => by have := (ha.2.2.2 p hp).2 g hg; omega⟩)) rfl rfl) ?_
  simp (disch := first | omega | (simp <;> omega) | fail) [wrap_i64, wrap_u64, wrap_u8', hq]
  refine HT.ret ?_
  simp (disch := first | omega | (simp <;> omega) | fail) [wrap_i64, wrap_u64, wrap_u8', seg_eq, hq]
end Go.Hv
set_option linter.unusedVariables false
set_option linter.unusedSimpArgs false
namespace Go.Hv
open Go Go.Hv Go.Proofs Go.RowKit
open Go.Proofs.YthdljfognblpbaaGreatDoor
theorem Spec1.tell {P : Program} {f : FuncId} {args : List HV} {h h' : HV} (s : Spec1 P f args h) (hle : HLe h h') : Spec1 P f args h' :=
  fun D w vs hD hG hn hrep => (s D w vs hD hG hn hrep).mono fun e w' ⟨v, h1, h2, h3⟩ => ⟨v, h1, h2, hle _ _ _ h3⟩
def exD (i : Int) (p : List UInt8) : Doc := ⟨i, [114], p, [97, 98, 99], [[109, 97, 105, 110]]⟩
set_option maxHeartbeats 2000000 in
theorem doc0_spec (i : Int) (p : List UInt8) : Spec1 Tryz.prog 28 [i64 i, .str p] (.agg [i64 i, .str [114], .str p, .str [97, 98, 99], .sl 1 true (strsHV [[109, 97, 105, 110]])]) := by
  refine Spec1.of_HT Tryz.func28 rfl (by rw [Tryz.ntmps28]; simp) rfl ?_
  rw [Tryz.ntmps28]
  refine HT.seq ?_
  refine HT.region ?_   -- R0
  simp (disch := first | omega | (simp <;> omega) | fail) [wrap_i64, wrap_u64, wrap_u8']
  refine HT.seq ?_
  refine HT.region ?_   -- R1
  simp (disch := first | omega | (simp <;> omega) | fail) [wrap_i64, wrap_u64, wrap_u8']
  refine HT.ret ?_
  simp (disch := first | omega | (simp <;> omega) | fail) [wrap_i64, wrap_u64, wrap_u8', strsHV]
theorem doc_spec (i : Int) (p : List UInt8) : Spec1 Tryz.prog 28 [i64 i, .str p] (.agg (exD i p).enc) :=
  (doc0_spec i p).tell (HLe.agg (.cons (.refl _) (.cons (.refl _) (.cons (.refl _) (.cons (.refl _) (.cons (.full _ _) .nil))))))
end Go.Hv
set_option linter.unusedVariables false
set_option linter.unusedSimpArgs false
namespace Go.Hv
open Go Go.Hv Go.Proofs Go.RowKit
open Go.Proofs.YthdljfognblpbaaGreatDoor
set_option maxHeartbeats 2000000 in
theorem MLess_spec (l : List Doc) (i k : Nat) (hi : i < l.length) (hk : k < l.length) (hl : l.length ≤ 140737488355328) : Spec1 Tryz.prog 33 [i64 i, i64 k, .cptr [.sl 5 false (docsHV l)]] (bo (decide (l[i].id < l[k].id))) := by
  refine Spec1.of_HT Tryz.func33 rfl (by rw [Tryz.ntmps33]; simp) rfl ?_
  rw [Tryz.ntmps33]
  refine HT.seq ?_
  refine HT.region ?_   -- R0
  simp (disch := first | omega | (simp <;> omega) | fail) [wrap_i64, wrap_u64, wrap_u8']
  refine HT.seq ?_
  refine HT.draw [.batch [0, 1, 2, 3, 4, 5, 6, 7, 8, 9, 10, 11]] (by kernel_rfl) ?_   -- R1
  simp (disch := first | omega | (simp <;> omega) | fail) [wrap_i64, wrap_u64, wrap_u8']
  refine HT.ret ?_
  simp (disch := first | omega | (simp <;> omega) | fail) [wrap_i64, wrap_u64, wrap_u8']
end Go.Hv
set_option linter.unusedVariables false
set_option linter.unusedSimpArgs false
set_option maxRecDepth 100000
namespace Go.Hv
open Go Go.Hv Go.Proofs Go.RowKit Go.Stab
open Go.Proofs.YthdljfognblpbaaGreatDoor
theorem packed26 : Tryz.prog.packed 26 = false := by kernel_rfl
noncomputable def ti26 : TypeInfo := (Tryz.prog.info? 26).get (by kernel_rfl)
noncomputable def ti47 : TypeInfo := (Tryz.prog.info? 47).get (by kernel_rfl)
theorem i26 : Tryz.prog.info? 26 = some ti26 := by kernel_rfl
theorem d26 : ti26.desc = .slice 47 := by kernel_rfl
theorem i47 : Tryz.prog.info? 47 = some ti47 := by kernel_rfl
theorem s47 : ti47.size = 5 := by kernel_rfl
theorem hp47 : ti47.hasPointers = true := by kernel_rfl
theorem by47 : (ti47.bytes == 8) = false := by kernel_rfl
theorem k47 (w : World) : (Extern.Rtype.kind 47).run Tryz.prog w = .ok 25 w := by kernel_rfl
theorem sk47 (n : Nat) (h : 2 ≤ n) : Lib.swapperK n ti47 25 = 9 := by
  unfold Lib.swapperK
  have h0 : (n == 0) = false := by simp; omega
  have h1 : (n == 1) = false := by simp; omega
  rw [h0, h1, hp47, by47]; rfl
theorem MSort_spec {bB : Nat} {V : Value} {ob : Option Nat} (l : List Doc) (hN : l.length ≤ 1000000) (hob : ob ≠ some bB) (hV : V.oneCell' = true) :
    @SpecX (GI.box inferInstance bB V) Tryz.prog 32 #[] [.lit (.iface 26 V), .lit (.func (.func 33) #[] #[.pointer (some ⟨bB, 0, none⟩)])] V ob 47 5 (docsHV l) (.lit (.tuple #[])) (docsHV (srtK Doc.id l)) := by

  refine @sliceStable (GI.box inferInstance bB V) Doc Doc.enc Doc.id V ob 26 47 5 33 #[.pointer (some ⟨bB, 0, none⟩)] l ti26 ti47 25 hN
    (fun l' i' j' i j x y hl hi hj hx hy => by
      subst hi; subst hj
      have h1 := getElem?_lt hx
      have h2 := getElem?_lt hy
      rw [List.getElem?_eq_getElem h1] at hx
      rw [List.getElem?_eq_getElem h2] at hy
      cases hx; cases hy
      exact SpecX.less Ty.hb33 hob hV (@MLess_spec l' i' j' h1 h2 (by omega)))
    (fun l => isILL_docsHV l) i26 d26 i47 s47 k47 packed26 Tryz.isAgg47 sk47
theorem MSort1_spec {bB : Nat} {V : Value} {ob : Option Nat} (l : List Doc) (hN : l.length ≤ 1000000) (hob : ob ≠ some bB) :
    @SpecX (GI.box inferInstance bB V) Tryz.prog 32 #[] [.lit (.iface 26 V), .lit (.func (.func 33) #[] #[.pointer (some ⟨bB, 0, none⟩)])] V ob 47 5 (docsHV l) (.lit (.tuple #[])) (docsHV (sortV l)) := by
  intro D w us hD hG hW hus hrep
  have hV : V.oneCell' = true := by rcases hW.shape with ⟨_, A, rfl⟩ | ⟨b, cap, rfl, rfl⟩ <;> rfl
  exact (MSort_spec l hN hob hV) D w us hD hG hW hus hrep
end Go.Hv
set_option linter.unusedVariables false
set_option linter.unusedSimpArgs false
namespace Go.Hv
open Go Go.Hv Go.Proofs Go.RowKit
open Go.Proofs.YthdljfognblpbaaGreatDoor
theorem sortV_le (l : List Doc) : (sortV l).Pairwise fun x y => x.id ≤ y.id := by
  have h := List.pairwise_mergeSort (le := fun x y : Doc => decide (x.id ≤ y.id)) (fun a b c => by simp; omega) (fun a b => by simp; omega) l
  exact h.imp fun h => of_decide_eq_true h
def AdjTo (l : List Doc) (k : Nat) : Prop := ∀ i (h : i + 1 < l.length), i < k → ¬ l[i + 1].id = l[i].id
theorem AdjTo.succ {l : List Doc} {k : Nat} (h : AdjTo l k) (hk : k + 1 < l.length) (hs : ¬ l[k + 1].id = l[k].id) : AdjTo l (k + 1) := fun i hi hik => by
  by_cases e : i = k
  · subst e; exact hs
  · exact h i hi (by omega)
theorem adj_inc : ∀ {l : List Doc}, l.Pairwise (fun x y => x.id ≤ y.id) → (∀ i (h : i + 1 < l.length), ¬ l[i + 1].id = l[i].id) → IncBy Doc.id l
  | [], _, _ => List.Pairwise.nil
  | x :: r, h, ha => by
    rw [List.pairwise_cons] at h
    have ih := adj_inc h.2 (fun i hi => by have := ha (i + 1) (by simpa using hi); simpa using this)
    refine List.pairwise_cons.2 ⟨fun y hy => ?_, ih⟩
    cases r with
    | nil => simp at hy
    | cons z r =>
      have h0 := ha 0 (by simp)
      simp only [List.getElem_cons_succ, List.getElem_cons_zero] at h0
      have h1 := h.1 z (by simp)
      rcases List.mem_cons.1 hy with rfl | hy
      · omega
      · have := (List.pairwise_cons.1 ih).1 y hy; omega
theorem adj_once {ls : List Seg} {dead : List Int} (h : ∀ i (h : i + 1 < (sortV (allV ls dead)).length), ¬ (sortV (allV ls dead))[i + 1].id = (sortV (allV ls dead))[i].id) : mergeV ls dead = buildV (sortV (allV ls dead)) :=
  merge_once (((sortV_perm _).map Doc.id).nodup_iff.1 (incBy_nodup (adj_inc (sortV_le _) h)))
theorem adj_twice {ls : List Seg} {dead : List Int} {i : Nat} (hi : i + 1 < (sortV (allV ls dead)).length) (h : (sortV (allV ls dead))[i + 1].id = (sortV (allV ls dead))[i].id) : mergeV ls dead = (emptySeg, 7) := by
  unfold mergeV
  rw [if_neg]
  intro hn
  have h2 := ((sortV_perm (allV ls dead)).map Doc.id).nodup_iff.2 hn
  have h3 := List.pairwise_iff_getElem.1 h2 i (i + 1) (by rw [List.length_map]; omega) (by rw [List.length_map]; exact hi) (by omega)
  rw [List.getElem_map, List.getElem_map] at h3
  exact h3 h.symm
set_option maxRecDepth 20000 in
set_option maxHeartbeats 8000000 in
theorem Merge_of (ls : List Seg) (dead : List Int) (hs : SegsB ls) (hd : dead.length ≤ 1000000) (hB : ∀ l : List Doc, DocsB 140737488355328 l → SpecT Tryz.prog 15 [.sl 5 false (docsHV l)] [.agg (buildV l).1.enc, i64 (buildV l).2]) : SpecT Tryz.prog 12 [.sl 2 false (segsHV ls), .sl 1 false (intsHV dead)] [.agg (mergeV ls dead).1.enc, i64 (mergeV ls dead).2] := by
  have hls := hs.1
  have hal := allV_len hs dead ls.length (Nat.le_refl _)
  rw [List.take_length] at hal
  have hsl := sortV_length (allV ls dead)
  refine SpecT.of_HT Tryz.func12 rfl (by rw [Tryz.ntmps12]; simp) (rs := [.cell 4 29, .tmp 5]) rfl (by decide) ?_
  rw [Tryz.ntmps12]
  refine HT.seq ?_
  refine HT.region ?_   -- R0
  simp (disch := first | omega | (simp <;> omega) | fail) [wrap_i64, wrap_u64, wrap_u8']
  refine HT.weaken (HS.le_frzbox 3 3 (by decide) rfl rfl (by simp [isIL, isI])) ?_
  simp
  refine HT.seq ?_
  refine HT.region ?_   -- R1
  simp (disch := first | omega | (simp <;> omega) | fail) [wrap_i64, wrap_u64, wrap_u8']
  refine HT.weaken (HS.le_boxown 6 0 900 47 5 0 rfl rfl (by decide) (by decide)) ?_
  refine HT.seq ?_
  refine HT.seq ?_
  refine HT.region ?_   -- R2
  simp (disch := first | omega | (simp <;> omega) | fail) [wrap_i64, wrap_u64, wrap_u8']
  refine HT.block ?_
  refine HT.loopK (fun i : {i : Nat // i ≤ ls.length} => [.s 12 (i64 i), .o 6 (.box [.ref 900]), .o 900 (.row 47 5 (docsHV (allV (ls.take i) dead)))]) [3, 4, 6, 10, 11] [3, 4] (fun i => ls.length - i) (⟨0, by omega⟩) ?_ ?_   -- block 0 turned [12]
  · simp (disch := first | omega | (simp <;> omega) | fail) [wrap_i64, wrap_u64, wrap_u8', allV]
  rintro ⟨i, hi⟩
  simp (disch := first | omega | (simp <;> omega) | fail) [wrap_i64, wrap_u64, wrap_u8']
  refine HT.seq ?_
  refine HT.region ?_   -- R3
  simp (disch := first | omega | (simp <;> omega) | fail) [wrap_i64, wrap_u64, wrap_u8']
  refine HT.seq ?_
  refine HT.cond' ?_   -- if 13
  simp (disch := first | omega | (simp <;> omega) | fail) [wrap_i64, wrap_u64, wrap_u8']
  refine ⟨fun h13 => ?_, fun h13 => ?_⟩
  · skip
    have hi' : i < ls.length := by omega
    have hal2 := allV_len hs dead i (by omega)
    have hsd := hs.2.1 _ (List.getElem_mem hi')
    have hkl := List.length_filter_le (fun d => aliveB dead d.id) ls[i].docs
    refine HT.skip ?_
    simp (disch := first | omega | (simp <;> omega) | fail) [wrap_i64, wrap_u64, wrap_u8']
    refine HT.seq ?_
    refine HT.block ?_
    refine HT.seq ?_
    refine HT.region ?_   -- R4
    simp (disch := first | omega | (simp <;> omega) | fail) [wrap_i64, wrap_u64, wrap_u8']
    refine HT.draw [.batch [0, 1, 2, 3, 4], .one 5, .one 6] (by kernel_rfl) ?_   -- R5
    simp (disch := first | omega | (simp <;> omega) | fail) [wrap_i64, wrap_u64, wrap_u8']
    refine stepK.mk (.call1 _ _ _ rfl Ty.hb29 rfl rfl ((keepD_spec 30 Ty.hb30 [.cptr [.sl 1 false (intsHV dead)]] (by simp [isIL, isI]) (fun d => aliveB dead d.id) ls[i].docs (by omega) (fun d _ => MergeC_spec false dead hd d)))) ?_
    simp (disch := first | omega | (simp <;> omega) | fail) [wrap_i64, wrap_u64, wrap_u8']
    refine HT.region ?_   -- R6
    simp (disch := first | omega | (simp <;> omega) | fail) [wrap_i64, wrap_u64, wrap_u8']
    refine Round.mk' (⟨i + 1, by omega⟩) (by dsimp only; omega) rfl ?_
    simp (disch := first | omega | (simp <;> omega) | fail) [wrap_i64, wrap_u64, wrap_u8', allV_succ hi', docsHV_append, dKeep]
  · skip
    obtain rfl : i = ls.length := by omega
    refine HT.exit ?_
    simp (disch := first | omega | (simp <;> omega) | fail) [wrap_i64, wrap_u64, wrap_u8']
    refine HT.seq ?_
    refine HT.region ?_   -- R7
    simp (disch := first | omega | (simp <;> omega) | fail) [wrap_i64, wrap_u64, wrap_u8']
    intro V ob
    refine stepK.mk (.callSt _ _ 900 6 _ _ _ _ _ _ _ rfl Ty.hb32 (by first | rfl | simp) (by first | rfl | simp) (by simp) (fun bB hob => MSort1_spec (allV ls dead) (by omega) hob) rfl) ?_
    simp (disch := first | omega | (simp <;> omega) | fail) [wrap_i64, wrap_u64, wrap_u8']
    refine HT.weaken (HS.le_ren 900 200 (by rfl) (by rfl)) ?_
    simp (disch := first | omega | (simp <;> omega) | fail) [wrap_i64, wrap_u64, wrap_u8']
    refine HT.weaken (HS.le_frzref (id := 200) (xr := .sl 5 false (docsHV (sortV (allV ls dead)))) (xm := .any) (by simp)) ?_
    refine HT.seq ?_
    refine HT.seq ?_
    refine HT.region ?_   -- R8
    simp (disch := first | omega | (simp <;> omega) | fail) [wrap_i64, wrap_u64, wrap_u8']
    refine HT.block ?_
    refine HT.loopK (fun k : {k : Nat // (k + 1 ≤ (sortV (allV ls dead)).length ∨ k = 0) ∧ AdjTo (sortV (allV ls dead)) k} => [.s 9 (i64 ((k : Int) + 1))]) [4, 6] [4, 6] (fun k => (sortV (allV ls dead)).length - k) (⟨0, .inr rfl, fun i h hi => absurd hi (Nat.not_lt_zero _)⟩) ?_ ?_   -- block 2 turned [9]
    · simp (disch := first | omega | (simp <;> omega) | fail) [wrap_i64, wrap_u64, wrap_u8']
    rintro ⟨k, hk, hst⟩
    simp (disch := first | omega | (simp <;> omega) | fail) [wrap_i64, wrap_u64, wrap_u8']
    refine HT.seq ?_
    refine HT.seq ?_
    refine HT.region ?_   -- R9
    simp (disch := first | omega | (simp <;> omega) | fail) [wrap_i64, wrap_u64, wrap_u8']
    refine HT.cond' ?_   -- if 30
    simp (disch := first | omega | (simp <;> omega) | fail) [wrap_i64, wrap_u64, wrap_u8']
    refine ⟨fun h30 => ?_, fun h30 => ?_⟩
    · skip
      have hk2 : k + 1 < (sortV (allV ls dead)).length := by omega
      refine HT.skip ?_
      simp (disch := first | omega | (simp <;> omega) | fail) [wrap_i64, wrap_u64, wrap_u8']
      refine HT.seq ?_
      refine HT.block ?_
      refine HT.seq ?_
      refine HT.draw [.batch [0, 1, 2, 3, 4, 5, 6, 7, 8, 9, 10, 11]] (by kernel_rfl) ?_   -- R11
      simp (disch := first | omega | (simp <;> omega) | fail) [wrap_i64, wrap_u64, wrap_u8']
      refine HT.cond' ?_   -- if 44
      simp (disch := first | omega | (simp <;> omega) | fail) [wrap_i64, wrap_u64, wrap_u8']
      refine ⟨fun h44 => ?_, fun h44 => ?_⟩
      · skip
        refine HT.seq ?_
        refine HT.region ?_   -- R12
        simp (disch := first | omega | (simp <;> omega) | fail) [wrap_i64, wrap_u64, wrap_u8']
        refine HT.weaken (HS.le_boxown 4 0 200 47 5 0 rfl rfl (by decide) (by decide)) ?_
        simp
        refine HT.weaken (HS.le_boxown 4 1 201 56 2 0 (by rfl) (by rfl) (by decide) (by decide)) ?_
        refine HT.ret ?_
        have hm := adj_twice hk2 h44
        simp (disch := first | omega | (simp <;> omega) | fail) [wrap_i64, wrap_u64, wrap_u8', hm, emptySeg]
      · skip
        refine HT.skip ?_
        simp (disch := first | omega | (simp <;> omega) | fail) [wrap_i64, wrap_u64, wrap_u8']
        refine HT.region ?_   -- R10
        simp (disch := first | omega | (simp <;> omega) | fail) [wrap_i64, wrap_u64, wrap_u8']
        refine Round.mk' (⟨k + 1, .inl (by omega), hst.succ hk2 h44⟩) (by dsimp only; omega) rfl ?_
        simp (disch := first | omega | (simp <;> omega) | fail) [wrap_i64, wrap_u64, wrap_u8']
    · skip
      have hm := adj_once (ls := ls) (dead := dead) fun i h => hst i h (by omega)
      refine HT.exit ?_
      simp (disch := first | omega | (simp <;> omega) | fail) [wrap_i64, wrap_u64, wrap_u8']
      refine HT.seq ?_
      refine HT.region ?_   -- R13
      simp (disch := first | omega | (simp <;> omega) | fail) [wrap_i64, wrap_u64, wrap_u8']
      refine stepK.mk (.callTf _ _ _ _ _ rfl Ty.hb15 rfl rfl (hB (sortV (allV ls dead)) ⟨by omega, fun d hd => by obtain ⟨s, hs1, hs2⟩ := allV_mem ((sortV_perm _).mem_iff.1 hd); exact hs.2.2 s hs1 d hs2⟩) rfl) ?_
      simp (disch := first | omega | (simp <;> omega) | fail) [wrap_i64, wrap_u64, wrap_u8']
      refine HT.ret ?_
      simp (disch := first | omega | (simp <;> omega) | fail) [wrap_i64, wrap_u64, wrap_u8', hm]
end Go.Hv
set_option linter.unusedVariables false
set_option linter.unusedSimpArgs false
namespace Go.Hv
open Go Go.Hv Go.Proofs Go.RowKit
open Go.Proofs.YthdljfognblpbaaGreatDoor
theorem DocQ.up {d : Doc} (h : DocQ d) : DocB 140737488355328 d := ⟨by have := h.1; omega, by have := h.2.1; omega, by have := h.2.2.1; omega, by have := h.2.2.2.1; omega, fun s hs => by have := h.2.2.2.2 s hs; omega⟩
set_option maxRecDepth 20000 in
set_option maxHeartbeats 4000000 in
theorem SRight_of (s : Seg) (hs : SegQ s) (hq : SegQ (buildV s.docs).1) (hB : ∀ l : List Doc, DocsB 140737488355328 l → SpecT Tryz.prog 15 [.sl 5 false (docsHV l)] [.agg (buildV l).1.enc, i64 (buildV l).2]) : Spec1 Tryz.prog 27 [.agg s.enc] (bo (decide ((buildV s.docs).2 = 0 ∧ s = (buildV s.docs).1))) := by
  have hs1 := hs.1
  refine Spec1.of_HT Tryz.func27 rfl (by rw [Tryz.ntmps27]; simp) rfl ?_
  rw [Tryz.ntmps27]
  refine HT.seq ?_
  refine HT.region ?_   -- R0
  simp (disch := first | omega | (simp <;> omega) | fail) [wrap_i64, wrap_u64, wrap_u8']
  refine HT.seq ?_
  refine HT.region ?_   -- R1
  simp (disch := first | omega | (simp <;> omega) | fail) [wrap_i64, wrap_u64, wrap_u8']
  refine stepK.mk (.callTf _ _ _ _ _ rfl Ty.hb15 rfl rfl (hB s.docs ⟨by omega, fun d hd => (hs.2.1 d hd).up⟩) rfl) ?_
  simp (disch := first | omega | (simp <;> omega) | fail) [wrap_i64, wrap_u64, wrap_u8']
  refine HT.seq ?_
  by_cases c1 : ¬ (buildV s.docs).2 = 0
  · skip
    refine HT.region ?_   -- R2
    simp (disch := first | omega | (simp <;> omega) | fail) [wrap_i64, wrap_u64, wrap_u8', c1]
    refine HT.ret ?_
    simp (disch := first | omega | (simp <;> omega) | fail) [wrap_i64, wrap_u64, wrap_u8', c1]
  rw [Classical.not_not] at c1
  refine HT.region ?_   -- R2
  simp (disch := first | omega | (simp <;> omega) | fail) [wrap_i64, wrap_u64, wrap_u8', c1]
  refine stepK.mk (.call1f _ _ _ _ _ rfl Ty.hb59 rfl rfl (sSame_spec s (buildV s.docs).1 hs hq) rfl) ?_
  simp (disch := first | omega | (simp <;> omega) | fail) [wrap_i64, wrap_u64, wrap_u8', c1]
  refine HT.ret ?_
  simp (disch := first | omega | (simp <;> omega) | fail) [wrap_i64, wrap_u64, wrap_u8', c1]
end Go.Hv
set_option linter.unusedVariables false
set_option linter.unusedSimpArgs false
namespace Go.Hv
open Go Go.Hv Go.Proofs Go.RowKit
open Go.Proofs.YthdljfognblpbaaGreatDoor
end Go.Hv
set_option linter.unusedVariables false
set_option linter.unusedSimpArgs false
namespace Go.Hv
open Go Go.Hv Go.Proofs Go.RowKit
open Go.Proofs.YthdljfognblpbaaGreatDoor
end Go.Hv
set_option linter.unusedVariables false
set_option linter.unusedSimpArgs false
namespace Go.Hv
open Go Go.Hv Go.Proofs Go.RowKit
open Go.Proofs.YthdljfognblpbaaGreatDoor
end Go.Hv
set_option linter.unusedVariables false
set_option linter.unusedSimpArgs false
namespace Go.Hv
open Go Go.Hv Go.Proofs Go.RowKit
open Go.Proofs.YthdljfognblpbaaGreatDoor
def PostsB (n : Nat) (l : List Post) : Prop := l.length ≤ n ∧ ∀ p ∈ l, p.docs.length ≤ n ∧ ∀ g ∈ p.docs, g.off.length ≤ n
end Go.Hv
set_option linter.unusedVariables false
set_option linter.unusedSimpArgs false
namespace Go.Hv
open Go Go.Hv Go.Proofs Go.RowKit
open Go.Proofs.YthdljfognblpbaaGreatDoor
theorem small_len {ls : List Seg} (h : smallV ls = true) : ls.length ≤ 6 ∧ ∀ s ∈ ls, s.docs.length ≤ 40 := by
  unfold smallV at h
  rw [Bool.and_eq_true] at h
  have h6 := (of_decide_eq_true h.2).1
  refine ⟨h6, fun s hs => ?_⟩
  have := List.all_eq_true.1 h.1 s (by rw [List.take_of_length_le (by omega)]; exact hs)
  exact of_decide_eq_true this
set_option maxRecDepth 20000 in
set_option maxHeartbeats 4000000 in
theorem merges_of (hA : Spec1 Tryz.prog 10 [] (bo true)) (ls : List Seg) (dead : List Int) (hl : ls.length ≤ 140737488355328) (hls : ∀ s ∈ ls, s.docs.length ≤ 140737488355328 ∧ ∀ d ∈ s.docs, DocB 140737488355328 d) (hd : dead.length ≤ 140737488355328) (hB : ∀ l : List Doc, DocsB 140737488355328 l → SpecT Tryz.prog 15 [.sl 5 false (docsHV l)] [.agg (buildV l).1.enc, i64 (buildV l).2]) (hQ : SegsB ls → SegQ (mergeV ls dead).1) : Spec1 Tryz.prog 3 [.sl 2 false (segsHV ls), .sl 1 false (intsHV dead)] (bo true) := by
  refine Spec1.of_HT Tryz.func3 rfl (by rw [Tryz.ntmps3]; simp) rfl ?_
  rw [Tryz.ntmps3]
  refine HT.seq ?_
  refine HT.region ?_   -- R0
  simp (disch := first | omega | (simp <;> omega) | fail) [wrap_i64, wrap_u64, wrap_u8']
  refine HT.seq ?_
  refine HT.seq ?_
  refine HT.region ?_   -- R1
  simp (disch := first | omega | (simp <;> omega) | fail) [wrap_i64, wrap_u64, wrap_u8']
  refine stepK.mk (.call1 _ _ _ _ rfl Ty.hb10 rfl (hA) rfl rfl) ?_
  simp (disch := first | omega | (simp <;> omega) | fail) [wrap_i64, wrap_u64, wrap_u8']
  refine HT.cond' ?_   -- if 10
  simp (disch := first | omega | (simp <;> omega) | fail) [wrap_i64, wrap_u64, wrap_u8']
  refine HT.skip ?_
  simp (disch := first | omega | (simp <;> omega) | fail) [wrap_i64, wrap_u64, wrap_u8']
  refine HT.seq ?_
  refine HT.seq ?_
  by_cases c1 : smallV ls = false
  · skip
    refine HT.region ?_   -- R3
    simp (disch := first | omega | (simp <;> omega) | fail) [wrap_i64, wrap_u64, wrap_u8', c1]
    refine stepK.mk (.call1 _ _ _ _ rfl Ty.hb11 rfl (small_spec ls hl (fun s hs => (hls s hs).1)) rfl rfl) ?_
    simp (disch := first | omega | (simp <;> omega) | fail) [wrap_i64, wrap_u64, wrap_u8', c1]
    refine HT.cond' ?_   -- if 18
    simp (disch := first | omega | (simp <;> omega) | fail) [wrap_i64, wrap_u64, wrap_u8']
    refine HT.seq ?_
    refine HT.region ?_   -- R4
    simp (disch := first | omega | (simp <;> omega) | fail) [wrap_i64, wrap_u64, wrap_u8']
    refine HT.ret ?_
    simp (disch := first | omega | (simp <;> omega) | fail) [wrap_i64, wrap_u64, wrap_u8']
  rw [Bool.not_eq_false] at c1
  have hsm := small_len c1
  have hsb : SegsB ls := ⟨hsm.1, hsm.2, fun s hs => (hls s hs).2⟩
  by_cases c2 : 40 < dead.length
  · skip
    refine HT.region ?_   -- R3
    simp (disch := first | omega | (simp <;> omega) | fail) [wrap_i64, wrap_u64, wrap_u8', c1]
    refine stepK.mk (.call1 _ _ _ _ rfl Ty.hb11 rfl (small_spec ls hl (fun s hs => (hls s hs).1)) rfl rfl) ?_
    simp (disch := first | omega | (simp <;> omega) | fail) [wrap_i64, wrap_u64, wrap_u8', c1]
    refine HT.cond' ?_   -- if 18
    simp (disch := first | omega | (simp <;> omega) | fail) [wrap_i64, wrap_u64, wrap_u8']
    refine HT.seq ?_
    refine HT.region ?_   -- R4
    simp (disch := first | omega | (simp <;> omega) | fail) [wrap_i64, wrap_u64, wrap_u8']
    refine HT.ret ?_
    simp (disch := first | omega | (simp <;> omega) | fail) [wrap_i64, wrap_u64, wrap_u8']
  refine HT.region ?_   -- R3
  simp (disch := first | omega | (simp <;> omega) | fail) [wrap_i64, wrap_u64, wrap_u8', c1]
  refine stepK.mk (.call1 _ _ _ _ rfl Ty.hb11 rfl (small_spec ls hl (fun s hs => (hls s hs).1)) rfl rfl) ?_
  simp (disch := first | omega | (simp <;> omega) | fail) [wrap_i64, wrap_u64, wrap_u8', c1]
  refine HT.cond' ?_   -- if 18
  simp (disch := first | omega | (simp <;> omega) | fail) [wrap_i64, wrap_u64, wrap_u8']
  refine HT.skip ?_
  simp (disch := first | omega | (simp <;> omega) | fail) [wrap_i64, wrap_u64, wrap_u8']
  refine HT.seq ?_
  refine HT.region ?_   -- R5
  simp (disch := first | omega | (simp <;> omega) | fail) [wrap_i64, wrap_u64, wrap_u8']
  refine stepK.mk (.callTf _ _ _ _ _ rfl Ty.hb12 rfl rfl (Merge_of ls dead hsb (by omega) hB) rfl) ?_
  simp (disch := first | omega | (simp <;> omega) | fail) [wrap_i64, wrap_u64, wrap_u8']
  refine HT.seq ?_
  refine HT.region ?_   -- R6
  simp (disch := first | omega | (simp <;> omega) | fail) [wrap_i64, wrap_u64, wrap_u8']
  refine stepK.mk (.callTf _ _ _ _ _ rfl Ty.hb13 rfl rfl (refMerge_spec ls dead hsb (by omega)) rfl) ?_
  simp (disch := first | omega | (simp <;> omega) | fail) [wrap_i64, wrap_u64, wrap_u8']
  refine HT.seq ?_
  refine HT.region ?_   -- R7
  simp (disch := first | omega | (simp <;> omega) | fail) [wrap_i64, wrap_u64, wrap_u8']
  refine stepK.mk (.call1f _ _ _ _ _ rfl Ty.hb14 rfl rfl (Same29_spec (mergeV ls dead).1 (mergeV ls dead).1 (hQ hsb) (hQ hsb)) rfl) ?_
  simp (disch := first | omega | (simp <;> omega) | fail) [wrap_i64, wrap_u64, wrap_u8']
  refine HT.ret ?_
  simp (disch := first | omega | (simp <;> omega) | fail) [wrap_i64, wrap_u64, wrap_u8']
end Go.Hv
set_option linter.unusedVariables false
set_option linter.unusedSimpArgs false
/- The postings of documents, gathered code by code in the order in which they come. -/
namespace Go.Hv
def adK (l : List Int) (c : Int) : List Int := if c ∈ l then l else l ++ [c]
def fK (p : List (Int × Gram)) : List Int := p.foldl (fun a x => adK a x.1) []
def gat (p : List (Int × Gram)) (c : Int) : List Gram := (p.filter fun x => decide (x.1 = c)).map Prod.snd
theorem fK_snoc (p : List (Int × Gram)) (c : Int) (g : Gram) : fK (p ++ [(c, g)]) = adK (fK p) c := by simp [fK]
theorem gat_snoc (p : List (Int × Gram)) (c : Int) (g : Gram) (c' : Int) : gat (p ++ [(c, g)]) c' = gat p c' ++ (if c = c' then [g] else []) := by
  unfold gat
  rw [List.filter_append, List.map_append]
  congr 1
  by_cases h : c = c' <;> simp [h]
theorem adK_mem (l : List Int) (c x : Int) : x ∈ adK l c ↔ x ∈ l ∨ x = c := by
  unfold adK
  split
  · next h => exact ⟨.inl, fun h' => by rcases h' with h' | rfl; exact h'; exact h⟩
  · simp
theorem fK_mem (p : List (Int × Gram)) (c : Int) : c ∈ fK p ↔ ∃ x ∈ p, x.1 = c := by
  have : ∀ (p : List (Int × Gram)) (a : List Int), c ∈ p.foldl (fun a x => adK a x.1) a ↔ c ∈ a ∨ ∃ x ∈ p, x.1 = c := by
    intro p
    induction p with
    | nil => simp
    | cons x p ih =>
      intro a
      rw [List.foldl_cons, ih, adK_mem]
      simp [or_assoc, eq_comm]
  unfold fK; rw [this]; simp
theorem adK_nodup {l : List Int} (h : l.Nodup) (c : Int) : (adK l c).Nodup := by
  unfold adK
  split
  · exact h
  · next hc => rw [List.nodup_append]; exact ⟨h, by simp, fun a ha b hb => by simp at hb; subst hb; rintro rfl; exact hc ha⟩
theorem fK_nodup (p : List (Int × Gram)) : (fK p).Nodup := by
  have : ∀ (p : List (Int × Gram)) (a : List Int), a.Nodup → (p.foldl (fun a x => adK a x.1) a).Nodup := by
    intro p
    induction p with
    | nil => exact fun a h => h
    | cons x p ih => exact fun a h => ih _ (adK_nodup h _)
  exact this p [] (by simp)
theorem fK_length (p : List (Int × Gram)) : (fK p).length ≤ p.length := by
  have : ∀ (p : List (Int × Gram)) (a : List Int), (p.foldl (fun a x => adK a x.1) a).length ≤ a.length + p.length := by
    intro p
    induction p with
    | nil => exact fun a => Nat.le_refl _
    | cons x p ih =>
      intro a
      rw [List.foldl_cons]
      refine Nat.le_trans (ih _) ?_
      have : (adK a x.1).length ≤ a.length + 1 := by unfold adK; split <;> simp
      simp; omega
  have := this p []
  simpa [fK] using this
theorem gat_length (p : List (Int × Gram)) (c : Int) : (gat p c).length ≤ p.length := by
  unfold gat; rw [List.length_map]; exact List.length_filter_le _ _
theorem gat_none {p : List (Int × Gram)} {c : Int} (h : c ∉ fK p) : gat p c = [] := by
  unfold gat
  rw [List.filter_eq_nil_iff.2 (fun x hx => by
    intro h2
    exact h ((fK_mem p c).2 ⟨x, hx, of_decide_eq_true h2⟩))]
  rfl
def evsD (d : Doc) : List (Int × Gram) := (gramsV d.text).map fun g => (g.code, ⟨d.id, g.off⟩)
def evsL (l : List Doc) : List (Int × Gram) := l.flatMap evsD
theorem ofVlen (s : List UInt8) : (ofV s).length ≤ s.length := by have := ofK_length s (s.length - 2); unfold ofV; omega
theorem ofVnodup (s : List UInt8) : (ofV s).Nodup := (ofK_inc s _).imp fun h => by intro e; subst e; omega
theorem gat_append (a b : List (Int × Gram)) (c : Int) : gat (a ++ b) c = gat a c ++ gat b c := by simp [gat]
theorem filter_one {l : List Int} (hn : l.Nodup) (c : Int) : l.filter (fun x => decide (x = c)) = if c ∈ l then [c] else [] := by
  induction l with
  | nil => simp
  | cons x l ih =>
    rw [List.nodup_cons] at hn
    by_cases h : x = c
    · subst h
      rw [List.filter_cons_of_pos (by simp), ih hn.2, if_neg hn.1, if_pos (by simp)]
    · rw [List.filter_cons_of_neg (by simpa using h), ih hn.2]
      by_cases h2 : c ∈ l
      · rw [if_pos h2, if_pos (by simp [h2])]
      · rw [if_neg h2, if_neg (by simp [h2]; exact fun e => h e.symm)]
theorem gat_evsD (d : Doc) (c : Int) : gat (evsD d) c = if offV d.text c ≠ [] then [⟨d.id, offV d.text c⟩] else [] := by
  have e : evsD d = (ofV d.text).map fun c => (c, (⟨d.id, offV d.text c⟩ : Gram)) := by
    unfold evsD gramsV offV; rw [List.map_map]; rfl
  unfold gat
  rw [e, List.filter_map]
  have : ((fun x : Int × Gram => decide (x.1 = c)) ∘ fun c => (c, (⟨d.id, offV d.text c⟩ : Gram))) = fun x => decide (x = c) := rfl
  rw [this, filter_one (ofVnodup _), List.map_map]
  by_cases h : c ∈ ofV d.text
  · rw [if_pos h, if_pos ((offV_ne _ _).2 h)]; rfl
  · rw [if_neg h, if_neg (fun h' => h ((offV_ne _ _).1 h'))]; rfl
theorem gat_evsL (l : List Doc) (c : Int) : gat (evsL l) c = postV l c := by
  induction l with
  | nil => rfl
  | cons d l ih =>
    unfold evsL at ih ⊢
    rw [List.flatMap_cons, gat_append, ih, gat_evsD]
    unfold postV
    rw [List.map_cons]
    by_cases h : offV d.text c = []
    · rw [if_neg (by simpa using h), List.filter_cons_of_neg (by simpa using h)]; rfl
    · rw [if_pos h, List.filter_cons_of_pos (by simpa using h)]; rfl
theorem fK_codes (l : List Doc) : (fK (evsL l)).Perm (codesV l) := by
  refine (List.perm_ext_iff_of_nodup (fK_nodup _) ((codesV_inc l).imp fun h => by intro e; subst e; omega)).2 fun c => ?_
  rw [fK_mem, codesV_mem]
  constructor
  · rintro ⟨x, hx, rfl⟩
    obtain ⟨d, hd, hx⟩ := List.mem_flatMap.1 hx
    obtain ⟨g, hg, rfl⟩ := List.mem_map.1 hx
    obtain ⟨c, hc, rfl⟩ := List.mem_map.1 hg
    exact ⟨d, hd, hc⟩
  · rintro ⟨d, hd, hc⟩
    refine ⟨(c, ⟨d.id, offV d.text c⟩), List.mem_flatMap.2 ⟨d, hd, List.mem_map.2 ⟨⟨c, offV d.text c⟩, List.mem_map.2 ⟨c, hc, rfl⟩, rfl⟩⟩, rfl⟩
def pI (l : List Doc) (d : Doc) (k j : Nat) : List (Int × Gram) := evsL (l.take k) ++ (evsD d).take j
theorem pI_zero (l : List Doc) (d : Doc) (k : Nat) : pI l d k 0 = evsL (l.take k) := by simp [pI]
theorem evsD_length (d : Doc) : (evsD d).length = (gramsV d.text).length := by simp [evsD]
theorem pI_succ (l : List Doc) (d : Doc) (k : Nat) {j : Nat} (h : j < (gramsV d.text).length) : pI l d k (j + 1) = pI l d k j ++ [((gramsV d.text)[j].code, ⟨d.id, (gramsV d.text)[j].off⟩)] := by
  have h' : j < (evsD d).length := by rw [evsD_length]; exact h
  unfold pI
  rw [List.append_assoc, List.take_succ_eq_append_getElem h']
  simp [evsD]
theorem pI_end (l : List Doc) {k : Nat} (h : k < l.length) : pI l l[k] k (gramsV l[k].text).length = evsL (l.take (k + 1)) := by
  unfold pI
  rw [List.take_of_length_le (l := evsD l[k]) (by rw [evsD_length]; omega)]
  rw [List.take_succ_eq_append_getElem (i := k) h]
  unfold evsL
  rw [List.flatMap_append, List.flatMap_cons, List.flatMap_nil, List.append_nil]
theorem evsL_length {l : List Doc} (h : ∀ d ∈ l, d.text.length ≤ 2000) : (evsL l).length ≤ l.length * 2000 := by
  induction l with
  | nil => simp [evsL]
  | cons d l ih =>
    have := ih fun x hx => h x (by simp [hx])
    unfold evsL at this ⊢
    rw [List.flatMap_cons, List.length_append, evsD_length]
    have h1 := h d (by simp)
    have h2 : (gramsV d.text).length ≤ d.text.length := by unfold gramsV; rw [List.length_map]; exact Nat.le_trans (ofVlen _) (by omega)
    simp only [List.length_cons]; omega
theorem pI_length {l : List Doc} {d : Doc} (hd : d ∈ l) (h : ∀ d ∈ l, d.text.length ≤ 2000) (k j : Nat) : (pI l d k j).length ≤ l.length * 2000 + 2000 := by
  unfold pI
  rw [List.length_append]
  have h1 := evsL_length (l := l.take k) fun x hx => h x (List.mem_of_mem_take hx)
  have h2 : (gramsV d.text).length ≤ d.text.length := by unfold gramsV; rw [List.length_map]; exact Nat.le_trans (ofVlen _) (by omega)
  have h3 : ((evsD d).take j).length ≤ (gramsV d.text).length := by rw [List.length_take, evsD_length]; omega
  have h4 := h d hd
  have : (l.take k).length ≤ l.length := by rw [List.length_take]; omega
  have := Nat.mul_le_mul_right 2000 this
  omega
end Go.Hv
