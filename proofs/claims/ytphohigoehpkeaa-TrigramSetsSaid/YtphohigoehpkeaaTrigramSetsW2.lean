import Derived.Test.YtphohigoehpkeaaTrigramSetsW1
set_option linter.unusedVariables false
set_option linter.unusedSimpArgs false
namespace Go.Hv
open Go Go.Hv Go.Proofs
open Go.Proofs.Ytphohigoehpkeaa
theorem al1 : ofV [97, 98, 99, 97, 98] = [6382179, 6447969, 6512994] := by decide
theorem al2 : codeV [97, 66, 99] = 6382179 := by decide
theorem al3 : strV 6382179 = [97, 98, 99] := by decide
theorem al4 : strOK 6382179 = true := by decide
theorem al5 : strOK 16777216 = false := by decide
theorem al6 : atV (gramsV [120, 65, 66, 67, 97, 98, 99]) 6382179 = [1, 4] := by decide
theorem al7 : atV (gramsV [120, 65, 66, 67, 97, 98, 99]) 6447969 = [2] := by decide
theorem al8 : atV (gramsV [97, 97, 97, 97]) 6381921 = [0, 1] := by decide
set_option maxHeartbeats 1000000 in
theorem alive_spec  : Spec1 Try.prog 30 [] (bo true) := by
  refine Spec1.of_HT Try.func30 rfl (by rw [Try.ntmps30]; simp) rfl ?_
  rw [Try.ntmps30]
  refine HT.seq ?_
  refine HT.region ?_   -- R0
  simp (disch := first | omega | (simp <;> omega) | fail) [wrap_i64, wrap_u64, wrap_u8', al1, al2, al3, al4, al5, al6, al7, al8]
  refine HT.seq ?_
  refine HT.seq ?_
  refine HT.region ?_   -- R1
  simp (disch := first | omega | (simp <;> omega) | fail) [wrap_i64, wrap_u64, wrap_u8', al1, al2, al3, al4, al5, al6, al7, al8]
  refine stepK.mk (.call1f _ _ _ _ _ rfl Ty.hb29 rfl rfl (Of_spec [97, 98, 99, 97, 98] (by decide)) rfl) ?_
  simp (disch := first | omega | (simp <;> omega) | fail) [wrap_i64, wrap_u64, wrap_u8', al1, al2, al3, al4, al5, al6, al7, al8]
  refine stepK.mk (.call1f _ _ _ _ _ rfl Ty.hb35 rfl rfl (SameInts_spec _ _ [6382179, 6447969, 6512994] [6382179, 6447969, 6512994] (by decide)) rfl) ?_
  simp (disch := first | omega | (simp <;> omega) | fail) [wrap_i64, wrap_u64, wrap_u8', al1, al2, al3, al4, al5, al6, al7, al8]
  refine HT.cond' ?_   -- if 13
  simp (disch := first | omega | (simp <;> omega) | fail) [wrap_i64, wrap_u64, wrap_u8', al1, al2, al3, al4, al5, al6, al7, al8]
  refine HT.skip ?_
  simp (disch := first | omega | (simp <;> omega) | fail) [wrap_i64, wrap_u64, wrap_u8', al1, al2, al3, al4, al5, al6, al7, al8]
  refine HT.seq ?_
  refine HT.region ?_   -- R3
  simp (disch := first | omega | (simp <;> omega) | fail) [wrap_i64, wrap_u64, wrap_u8', al1, al2, al3, al4, al5, al6, al7, al8]
  refine stepK.mk (.call1f _ _ _ _ _ rfl Ty.hb38 rfl rfl (Grams_spec [120, 65, 66, 67, 97, 98, 99] (by decide)) rfl) ?_
  simp (disch := first | omega | (simp <;> omega) | fail) [wrap_i64, wrap_u64, wrap_u8', al1, al2, al3, al4, al5, al6, al7, al8]
  refine HT.seq ?_
  refine HT.region ?_   -- R4
  simp (disch := first | omega | (simp <;> omega) | fail) [wrap_i64, wrap_u64, wrap_u8', al1, al2, al3, al4, al5, al6, al7, al8]
  refine stepK.mk (.callT _ _ _ _ rfl Ty.hb31 rfl (Code_spec [97, 66, 99] (by decide)) rfl rfl) ?_
  simp (disch := first | omega | (simp <;> omega) | fail) [wrap_i64, wrap_u64, wrap_u8', al1, al2, al3, al4, al5, al6, al7, al8]
  refine HT.seq ?_
  refine HT.region ?_   -- R5
  simp (disch := first | omega | (simp <;> omega) | fail) [wrap_i64, wrap_u64, wrap_u8', al1, al2, al3, al4, al5, al6, al7, al8]
  refine stepK.mk (.callT _ _ _ _ rfl Ty.hb33 rfl (String_spec 6382179) rfl rfl) ?_
  simp (disch := first | omega | (simp <;> omega) | fail) [wrap_i64, wrap_u64, wrap_u8', al1, al2, al3, al4, al5, al6, al7, al8]
  refine HT.seq ?_
  refine HT.region ?_   -- R6
  simp (disch := first | omega | (simp <;> omega) | fail) [wrap_i64, wrap_u64, wrap_u8', al1, al2, al3, al4, al5, al6, al7, al8]
  refine stepK.mk (.callT _ _ _ _ rfl Ty.hb31 rfl (Code_spec [97, 98] (by decide)) rfl rfl) ?_
  simp (disch := first | omega | (simp <;> omega) | fail) [wrap_i64, wrap_u64, wrap_u8', al1, al2, al3, al4, al5, al6, al7, al8]
  refine HT.seq ?_
  refine HT.region ?_   -- R7
  simp (disch := first | omega | (simp <;> omega) | fail) [wrap_i64, wrap_u64, wrap_u8', al1, al2, al3, al4, al5, al6, al7, al8]
  refine stepK.mk (.callT _ _ _ _ rfl Ty.hb33 rfl (String_spec 16777216) rfl rfl) ?_
  simp (disch := first | omega | (simp <;> omega) | fail) [wrap_i64, wrap_u64, wrap_u8', al1, al2, al3, al4, al5, al6, al7, al8]
  refine HT.seq ?_
  refine HT.seq ?_
  refine HT.region ?_   -- R8
  simp (disch := first | omega | (simp <;> omega) | fail) [wrap_i64, wrap_u64, wrap_u8', al1, al2, al3, al4, al5, al6, al7, al8]
  refine HT.cond' ?_   -- if 50
  simp (disch := first | omega | (simp <;> omega) | fail) [wrap_i64, wrap_u64, wrap_u8', al1, al2, al3, al4, al5, al6, al7, al8]
  refine HT.skip ?_
  simp (disch := first | omega | (simp <;> omega) | fail) [wrap_i64, wrap_u64, wrap_u8', al1, al2, al3, al4, al5, al6, al7, al8]
  refine HT.seq ?_
  refine HT.region ?_   -- R10
  simp (disch := first | omega | (simp <;> omega) | fail) [wrap_i64, wrap_u64, wrap_u8', al1, al2, al3, al4, al5, al6, al7, al8]
  refine stepK.mk (.call1f _ _ _ _ _ rfl Ty.hb40 rfl rfl (At_spec _ (gramsV [120, 65, 66, 67, 97, 98, 99]) 6382179 (by decide)) rfl) ?_
  simp (disch := first | omega | (simp <;> omega) | fail) [wrap_i64, wrap_u64, wrap_u8', al1, al2, al3, al4, al5, al6, al7, al8]
  refine stepK.mk (.call1f _ _ _ _ _ rfl Ty.hb35 rfl rfl (SameInts_spec _ _ [1, 4] [1, 4] (by decide)) rfl) ?_
  simp (disch := first | omega | (simp <;> omega) | fail) [wrap_i64, wrap_u64, wrap_u8', al1, al2, al3, al4, al5, al6, al7, al8]
  refine stepK.mk (.call1f _ _ _ _ _ rfl Ty.hb40 rfl rfl (At_spec _ (gramsV [120, 65, 66, 67, 97, 98, 99]) 6447969 (by decide)) rfl) ?_
  simp (disch := first | omega | (simp <;> omega) | fail) [wrap_i64, wrap_u64, wrap_u8', al1, al2, al3, al4, al5, al6, al7, al8]
  refine stepK.mk (.call1f _ _ _ _ _ rfl Ty.hb35 rfl rfl (SameInts_spec _ _ [2] [2] (by decide)) rfl) ?_
  simp (disch := first | omega | (simp <;> omega) | fail) [wrap_i64, wrap_u64, wrap_u8', al1, al2, al3, al4, al5, al6, al7, al8]
  refine stepK.mk (.call1f _ _ _ _ _ rfl Ty.hb38 rfl rfl (Grams_spec [97, 97, 97, 97] (by decide)) rfl) ?_
  simp (disch := first | omega | (simp <;> omega) | fail) [wrap_i64, wrap_u64, wrap_u8', al1, al2, al3, al4, al5, al6, al7, al8]
  refine stepK.mk (.call1f _ _ _ _ _ rfl Ty.hb40 rfl rfl (At_spec _ (gramsV [97, 97, 97, 97]) 6381921 (by decide)) rfl) ?_
  simp (disch := first | omega | (simp <;> omega) | fail) [wrap_i64, wrap_u64, wrap_u8', al1, al2, al3, al4, al5, al6, al7, al8]
  refine stepK.mk (.call1f _ _ _ _ _ rfl Ty.hb35 rfl rfl (SameInts_spec _ _ [0, 1] [0, 1] (by decide)) rfl) ?_
  simp (disch := first | omega | (simp <;> omega) | fail) [wrap_i64, wrap_u64, wrap_u8', al1, al2, al3, al4, al5, al6, al7, al8]
  refine HT.ret ?_
  simp (disch := first | omega | (simp <;> omega) | fail) [wrap_i64, wrap_u64, wrap_u8', al1, al2, al3, al4, al5, al6, al7, al8]
end Go.Hv
set_option linter.unusedVariables false
set_option linter.unusedSimpArgs false
namespace Go.Hv
open Go Go.Hv Go.Proofs
open Go.Proofs.Ytphohigoehpkeaa
theorem gramsV_off {s : List UInt8} : ∀ x ∈ gramsV s, x.off.length ≤ s.length - 2 := fun x hx => by
  obtain ⟨c, _, rfl⟩ := List.mem_map.1 hx
  exact offK_length s _ c
theorem gramsV_length (s : List UInt8) : (gramsV s).length = (ofV s).length := by simp [gramsV]
theorem atV_length {l : List Gram} {n : Nat} (c : Int) (ho : ∀ x ∈ l, x.off.length ≤ n) : (atV l c).length ≤ n := by
  unfold atV
  split
  · next g hg => exact ho _ (List.mem_of_find?_eq_some hg)
  · simp
theorem ne_succ {l : List Int} {c : Int} {k : Nat} (hg : ∀ i, i < k → l[i]? ≠ some c) (hk : k < l.length) (h : ¬ l[k] = c) : ∀ i, i < k + 1 → l[i]? ≠ some c := fun i hi => by
  rcases Nat.lt_or_ge i k with h1 | h1
  · exact hg i h1
  · obtain rfl : i = k := by omega
    rw [List.getElem?_eq_getElem hk]
    intro h'
    exact h (Option.some.inj h')
theorem codes_spec (s : List UInt8) (n : Int) (hs : s.length ≤ 140737488355328) : Spec1 Try.prog 9 [.str s, i64 n] (bo true) := by
  refine Spec1.of_HT Try.func9 rfl (by rw [Try.ntmps9]; simp) rfl ?_
  rw [Try.ntmps9]
  refine HT.seq ?_
  refine HT.region ?_   -- R0
  simp (disch := first | omega | (simp <;> omega) | fail) [wrap_i64, wrap_u64, wrap_u8']
  refine HT.seq ?_
  refine HT.seq ?_
  refine HT.region ?_   -- R1
  simp (disch := first | omega | (simp <;> omega) | fail) [wrap_i64, wrap_u64, wrap_u8']
  refine stepK.mk (.call1 _ _ _ _ rfl Ty.hb30 rfl (alive_spec) rfl rfl) ?_
  simp (disch := first | omega | (simp <;> omega) | fail) [wrap_i64, wrap_u64, wrap_u8']
  refine HT.cond' ?_   -- if 12
  simp (disch := first | omega | (simp <;> omega) | fail) [wrap_i64, wrap_u64, wrap_u8']
  refine HT.skip ?_
  simp (disch := first | omega | (simp <;> omega) | fail) [wrap_i64, wrap_u64, wrap_u8']
  refine HT.seq ?_
  refine HT.region ?_   -- R3
  simp (disch := first | omega | (simp <;> omega) | fail) [wrap_i64, wrap_u64, wrap_u8']
  refine stepK.mk (.callT _ _ _ _ rfl Ty.hb31 rfl (Code_spec s hs) rfl rfl) ?_
  simp (disch := first | omega | (simp <;> omega) | fail) [wrap_i64, wrap_u64, wrap_u8']
  refine HT.seq ?_
  refine HT.region ?_   -- R4
  simp (disch := first | omega | (simp <;> omega) | fail) [wrap_i64, wrap_u64, wrap_u8']
  refine stepK.mk (.callT _ _ _ _ rfl Ty.hb32 rfl (refCode_spec s hs) rfl rfl) ?_
  simp (disch := first | omega | (simp <;> omega) | fail) [wrap_i64, wrap_u64, wrap_u8']
  refine HT.seq ?_
  refine HT.seq ?_
  refine HT.region ?_   -- R5
  simp (disch := first | omega | (simp <;> omega) | fail) [wrap_i64, wrap_u64, wrap_u8']
  refine HT.cond' ?_   -- if 30
  simp (disch := first | omega | (simp <;> omega) | fail) [wrap_i64, wrap_u64, wrap_u8']
  refine HT.skip ?_
  simp (disch := first | omega | (simp <;> omega) | fail) [wrap_i64, wrap_u64, wrap_u8']
  refine HT.seq ?_
  refine HT.region ?_   -- R7
  simp (disch := first | omega | (simp <;> omega) | fail) [wrap_i64, wrap_u64, wrap_u8']
  refine stepK.mk (.callT _ _ _ _ rfl Ty.hb33 rfl (String_spec n) rfl rfl) ?_
  simp (disch := first | omega | (simp <;> omega) | fail) [wrap_i64, wrap_u64, wrap_u8']
  refine HT.seq ?_
  refine HT.region ?_   -- R8
  simp (disch := first | omega | (simp <;> omega) | fail) [wrap_i64, wrap_u64, wrap_u8']
  refine stepK.mk (.callT _ _ _ _ rfl Ty.hb34 rfl (refString_spec n) rfl rfl) ?_
  simp (disch := first | omega | (simp <;> omega) | fail) [wrap_i64, wrap_u64, wrap_u8']
  refine HT.seq ?_
  refine HT.region ?_   -- R9
  simp (disch := first | omega | (simp <;> omega) | fail) [wrap_i64, wrap_u64, wrap_u8']
  refine HT.ret ?_
  simp (disch := first | omega | (simp <;> omega) | fail) [wrap_i64, wrap_u64, wrap_u8']
theorem sets_spec (s : List UInt8) (hs0 : s.length ≤ 140737488355328) : Spec1 Try.prog 10 [.str s] (bo true) := by
  have hol := ofV_length s
  have hgl := gramsV_length s
  refine Spec1.of_HT Try.func10 rfl (by rw [Try.ntmps10]; simp) rfl ?_
  rw [Try.ntmps10]
  refine HT.seq ?_
  refine HT.region ?_   -- R0
  simp (disch := first | omega | (simp <;> omega) | fail) [wrap_i64, wrap_u64, wrap_u8']
  refine HT.seq ?_
  refine HT.seq ?_
  refine HT.region ?_   -- R1
  simp (disch := first | omega | (simp <;> omega) | fail) [wrap_i64, wrap_u64, wrap_u8']
  refine stepK.mk (.call1 _ _ _ _ rfl Ty.hb30 rfl (alive_spec) rfl rfl) ?_
  simp (disch := first | omega | (simp <;> omega) | fail) [wrap_i64, wrap_u64, wrap_u8']
  refine HT.cond' ?_   -- if 4
  simp (disch := first | omega | (simp <;> omega) | fail) [wrap_i64, wrap_u64, wrap_u8']
  refine HT.skip ?_
  simp (disch := first | omega | (simp <;> omega) | fail) [wrap_i64, wrap_u64, wrap_u8']
  refine HT.seq ?_
  refine HT.seq ?_
  refine HT.region ?_   -- R3
  simp (disch := first | omega | (simp <;> omega) | fail) [wrap_i64, wrap_u64, wrap_u8']
  refine HT.cond' ?_   -- if 7
  simp (disch := first | omega | (simp <;> omega) | fail) [wrap_i64, wrap_u64, wrap_u8']
  refine ⟨fun h7 => ?_, fun h7 => ?_⟩
  · skip
    refine HT.seq ?_
    refine HT.region ?_   -- R4
    simp (disch := first | omega | (simp <;> omega) | fail) [wrap_i64, wrap_u64, wrap_u8']
    refine HT.ret ?_
    simp (disch := first | omega | (simp <;> omega) | fail) [wrap_i64, wrap_u64, wrap_u8']
  · skip
    have hs : s.length ≤ 900000 := by omega
    refine HT.skip ?_
    simp (disch := first | omega | (simp <;> omega) | fail) [wrap_i64, wrap_u64, wrap_u8']
    refine HT.seq ?_
    refine HT.region ?_   -- R5
    simp (disch := first | omega | (simp <;> omega) | fail) [wrap_i64, wrap_u64, wrap_u8']
    refine stepK.mk (.call1f _ _ _ _ _ rfl Ty.hb29 rfl rfl (Of_spec s hs) rfl) ?_
    simp (disch := first | omega | (simp <;> omega) | fail) [wrap_i64, wrap_u64, wrap_u8']
    refine stepK.mk (.call1f _ _ _ _ _ rfl Ty.hb36 rfl rfl (refOf_spec s hs) rfl) ?_
    simp (disch := first | omega | (simp <;> omega) | fail) [wrap_i64, wrap_u64, wrap_u8']
    refine stepK.mk (.call1f _ _ _ _ _ rfl Ty.hb35 rfl rfl (SameInts_spec _ _ (ofV s) (ofV s) (by omega)) rfl) ?_
    simp (disch := first | omega | (simp <;> omega) | fail) [wrap_i64, wrap_u64, wrap_u8']
    refine stepK.mk (.call1f _ _ _ _ _ rfl Ty.hb38 rfl rfl (Grams_spec s hs) rfl) ?_
    simp (disch := first | omega | (simp <;> omega) | fail) [wrap_i64, wrap_u64, wrap_u8']
    refine stepK.mk (.call1f _ _ _ _ _ rfl Ty.hb39 rfl rfl (refGrams_spec s hs) rfl) ?_
    simp (disch := first | omega | (simp <;> omega) | fail) [wrap_i64, wrap_u64, wrap_u8']
    refine stepK.mk (.call1f _ _ _ _ _ rfl Ty.hb37 rfl rfl (SameGrams_spec _ _ (gramsV s) (gramsV s) (by omega) (fun x hx => by have := gramsV_off x hx; omega)) rfl) ?_
    simp (disch := first | omega | (simp <;> omega) | fail) [wrap_i64, wrap_u64, wrap_u8']
    refine HT.ret ?_
    simp (disch := first | omega | (simp <;> omega) | fail) [wrap_i64, wrap_u64, wrap_u8']
theorem looks_spec (f : Bool) (l : List Gram) (c : Int) (hl : l.length ≤ 140737488355328) (ho : ∀ x ∈ l, x.off.length ≤ 140737488355328) : Spec1 Try.prog 11 [.sl 2 f (gramsHV l), i64 c] (bo true) := by
  have hb := atV_length c ho
  refine Spec1.of_HT Try.func11 rfl (by rw [Try.ntmps11]; simp) rfl ?_
  rw [Try.ntmps11]
  refine HT.seq ?_
  refine HT.region ?_   -- R0
  simp (disch := first | omega | (simp <;> omega) | fail) [wrap_i64, wrap_u64, wrap_u8']
  refine HT.seq ?_
  refine HT.seq ?_
  refine HT.region ?_   -- R1
  simp (disch := first | omega | (simp <;> omega) | fail) [wrap_i64, wrap_u64, wrap_u8']
  refine stepK.mk (.call1 _ _ _ _ rfl Ty.hb30 rfl (alive_spec) rfl rfl) ?_
  simp (disch := first | omega | (simp <;> omega) | fail) [wrap_i64, wrap_u64, wrap_u8']
  refine HT.cond' ?_   -- if 6
  simp (disch := first | omega | (simp <;> omega) | fail) [wrap_i64, wrap_u64, wrap_u8']
  refine HT.skip ?_
  simp (disch := first | omega | (simp <;> omega) | fail) [wrap_i64, wrap_u64, wrap_u8']
  refine HT.seq ?_
  refine HT.region ?_   -- R3
  simp (disch := first | omega | (simp <;> omega) | fail) [wrap_i64, wrap_u64, wrap_u8']
  refine stepK.mk (.call1f _ _ _ _ _ rfl Ty.hb40 rfl rfl (At_spec f l c hl) rfl) ?_
  simp (disch := first | omega | (simp <;> omega) | fail) [wrap_i64, wrap_u64, wrap_u8']
  refine stepK.mk (.call1f _ _ _ _ _ rfl Ty.hb41 rfl rfl (refAt_spec f l c hl) rfl) ?_
  simp (disch := first | omega | (simp <;> omega) | fail) [wrap_i64, wrap_u64, wrap_u8']
  refine stepK.mk (.call1f _ _ _ _ _ rfl Ty.hb35 rfl rfl (SameInts_spec _ _ (atV l c) (atV l c) hb) rfl) ?_
  simp (disch := first | omega | (simp <;> omega) | fail) [wrap_i64, wrap_u64, wrap_u8']
  refine HT.ret ?_
  simp (disch := first | omega | (simp <;> omega) | fail) [wrap_i64, wrap_u64, wrap_u8']
theorem folded_spec (c : UInt8) : Spec1 Try.prog 72 [u8 c] (u8 (foldB c)) := by
  refine Spec1.of_HT Try.func72 rfl (by rw [Try.ntmps72]; simp) rfl ?_
  rw [Try.ntmps72]
  refine HT.seq ?_
  refine HT.region ?_   -- R0
  simp (disch := first | omega | (simp <;> omega) | fail) [wrap_i64, wrap_u64, wrap_u8']
  refine HT.seq ?_
  refine HT.seq ?_
  by_cases c1 : (c.toNat : Int) < 65
  · skip
    refine HT.region ?_   -- R1
    simp (disch := first | omega | (simp <;> omega) | fail) [wrap_i64, wrap_u64, wrap_u8']
    refine HT.cond' ?_   -- if 8
    simp (disch := first | omega | (simp <;> omega) | fail) [wrap_i64, wrap_u64, wrap_u8']
    refine HT.skip ?_
    simp (disch := first | omega | (simp <;> omega) | fail) [wrap_i64, wrap_u64, wrap_u8']
    refine HT.seq ?_
    refine HT.region ?_   -- R3
    simp (disch := first | omega | (simp <;> omega) | fail) [wrap_i64, wrap_u64, wrap_u8']
    refine HT.ret ?_
    first | (simp (disch := first | omega | (simp <;> omega) | fail) [wrap_i64, wrap_u64, wrap_u8', foldB_lo, foldB_hi]; done) | (simp (disch := first | omega | (simp <;> omega) | fail) [wrap_i64, wrap_u64, wrap_u8', foldB_mid] <;> omega)
  by_cases c2 : 90 < (c.toNat : Int)
  · skip
    refine HT.region ?_   -- R1
    simp (disch := first | omega | (simp <;> omega) | fail) [wrap_i64, wrap_u64, wrap_u8']
    refine HT.cond' ?_   -- if 8
    simp (disch := first | omega | (simp <;> omega) | fail) [wrap_i64, wrap_u64, wrap_u8']
    refine HT.skip ?_
    simp (disch := first | omega | (simp <;> omega) | fail) [wrap_i64, wrap_u64, wrap_u8']
    refine HT.seq ?_
    refine HT.region ?_   -- R3
    simp (disch := first | omega | (simp <;> omega) | fail) [wrap_i64, wrap_u64, wrap_u8']
    refine HT.ret ?_
    first | (simp (disch := first | omega | (simp <;> omega) | fail) [wrap_i64, wrap_u64, wrap_u8', foldB_lo, foldB_hi]; done) | (simp (disch := first | omega | (simp <;> omega) | fail) [wrap_i64, wrap_u64, wrap_u8', foldB_mid] <;> omega)
  refine HT.region ?_   -- R1
  simp (disch := first | omega | (simp <;> omega) | fail) [wrap_i64, wrap_u64, wrap_u8']
  refine HT.cond' ?_   -- if 8
  simp (disch := first | omega | (simp <;> omega) | fail) [wrap_i64, wrap_u64, wrap_u8']
  refine HT.seq ?_
  refine HT.region ?_   -- R2
  simp (disch := first | omega | (simp <;> omega) | fail) [wrap_i64, wrap_u64, wrap_u8']
  refine HT.ret ?_
  first | (simp (disch := first | omega | (simp <;> omega) | fail) [wrap_i64, wrap_u64, wrap_u8', foldB_lo, foldB_hi]; done) | (simp (disch := first | omega | (simp <;> omega) | fail) [wrap_i64, wrap_u64, wrap_u8', foldB_mid] <;> omega)
theorem mem_take_none {l : List Int} {c : Int} {k : Nat} (hk : ∀ i, i < k → l[i]? ≠ some c) (h : k = l.length) : c ∉ l := fun hm => by
  obtain ⟨i, hi⟩ := List.mem_iff_getElem?.1 hm
  exact hk i (by rw [h]; exact getElem?_lt hi) hi
theorem has_spec (f : Bool) (l : List Int) (c : Int) (hl : l.length ≤ 140737488355328) : Spec1 Try.prog 73 [.sl 1 f (intsHV l), i64 c] (bo (decide (c ∈ l))) := by
  refine Spec1.of_HT Try.func73 rfl (by rw [Try.ntmps73]; simp) rfl ?_
  rw [Try.ntmps73]
  refine HT.seq ?_
  refine HT.region ?_   -- R0
  simp (disch := first | omega | (simp <;> omega) | fail) [wrap_i64, wrap_u64, wrap_u8']
  refine HT.seq ?_
  refine HT.seq ?_
  refine HT.region ?_   -- R1
  simp (disch := first | omega | (simp <;> omega) | fail) [wrap_i64, wrap_u64, wrap_u8']
  refine HT.block ?_
  refine HT.loopK (fun k : {k : Nat // k ≤ l.length ∧ ∀ i, i < k → l[i]? ≠ some c} => [.s 5 (i64 k)]) [0, 1] [] (fun k => l.length - k) (⟨0, by simp⟩) ?_ ?_   -- block 0 turned [5]
  · simp (disch := first | omega | (simp <;> omega) | fail) [wrap_i64, wrap_u64, wrap_u8']
  rintro ⟨k, hk, hg⟩
  simp (disch := first | omega | (simp <;> omega) | fail) [wrap_i64, wrap_u64, wrap_u8']
  refine HT.seq ?_
  refine HT.seq ?_
  refine HT.region ?_   -- R2
  simp (disch := first | omega | (simp <;> omega) | fail) [wrap_i64, wrap_u64, wrap_u8']
  refine HT.cond' ?_   -- if 9
  simp (disch := first | omega | (simp <;> omega) | fail) [wrap_i64, wrap_u64, wrap_u8']
  refine ⟨fun h9 => ?_, fun h9 => ?_⟩
  · skip
    have hk' : k < l.length := by omega
    refine HT.skip ?_
    simp (disch := first | omega | (simp <;> omega) | fail) [wrap_i64, wrap_u64, wrap_u8']
    refine HT.seq ?_
    refine HT.block ?_
    refine HT.seq ?_
    refine HT.region ?_   -- R4
    simp (disch := first | omega | (simp <;> omega) | fail) [wrap_i64, wrap_u64, wrap_u8']
    refine HT.cond' ?_   -- if 17
    simp (disch := first | omega | (simp <;> omega) | fail) [wrap_i64, wrap_u64, wrap_u8']
    refine ⟨fun h17 => ?_, fun h17 => ?_⟩
    · skip
      refine HT.seq ?_
      refine HT.region ?_   -- R5
      simp (disch := first | omega | (simp <;> omega) | fail) [wrap_i64, wrap_u64, wrap_u8']
      refine HT.ret ?_
      have : c ∈ l := h17 ▸ List.getElem_mem hk'
      simp (disch := first | omega | (simp <;> omega) | fail) [wrap_i64, wrap_u64, wrap_u8', this]
    · skip
      refine HT.skip ?_
      simp (disch := first | omega | (simp <;> omega) | fail) [wrap_i64, wrap_u64, wrap_u8']
      refine HT.region ?_   -- R3
      simp (disch := first | omega | (simp <;> omega) | fail) [wrap_i64, wrap_u64, wrap_u8']
      refine Round.mk' (⟨k + 1, by omega, ne_succ hg hk' h17⟩) (by dsimp only; omega) rfl ?_
      simp (disch := first | omega | (simp <;> omega) | fail) [wrap_i64, wrap_u64, wrap_u8']
  · skip
    obtain rfl : k = l.length := by omega
    refine HT.exit ?_
    simp (disch := first | omega | (simp <;> omega) | fail) [wrap_i64, wrap_u64, wrap_u8']
    refine HT.seq ?_
    refine HT.region ?_   -- R6
    simp (disch := first | omega | (simp <;> omega) | fail) [wrap_i64, wrap_u64, wrap_u8']
    refine HT.ret ?_
    simp (disch := first | omega | (simp <;> omega) | fail) [wrap_i64, wrap_u64, wrap_u8', mem_take_none hg rfl]
end Go.Hv
