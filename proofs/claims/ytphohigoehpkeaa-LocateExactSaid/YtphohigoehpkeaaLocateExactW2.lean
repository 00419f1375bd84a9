import Derived.Test.YtphohigoehpkeaaLocateExactW1
set_option linter.unusedVariables false
set_option linter.unusedSimpArgs false
namespace Go.Hv
open Go Go.Hv Go.Proofs
open Go.Proofs.Ytphohigoehpkeaa
theorem al1 : ofV [97, 98, 99, 97, 98] = [6382179, 6447969, 6512994] := by decide
theorem al2 : codeV [97, 66, 99] = 6382179 := by decide
theorem al3 : strV 6382179 = [97, 98, 99] := by decide
theorem al4 : strOK 6382179 = true := by decide
theorem al5 : strOK 16777216 = false := by decide
theorem al6 : atV (gramsV [120, 65, 66, 67, 97, 98, 99]) 6382179 = [1, 4] := by decide
theorem al7 : atV (gramsV [120, 65, 66, 67, 97, 98, 99]) 6447969 = [2] := by decide
theorem al8 : atV (gramsV [97, 97, 97, 97]) 6381921 = [0, 1] := by decide
set_option maxHeartbeats 1000000 in
theorem alive_spec  : Spec1 Try.prog 30 [] (bo true) := by
  refine Spec1.of_HT Try.func30 rfl (by rw [Try.ntmps30]; simp) rfl ?_
  rw [Try.ntmps30]
  refine HT.seq ?_
  refine HT.region ?_   -- R0
  simp (disch := first | omega | (simp <;> omega) | fail) [wrap_i64, wrap_u64, wrap_u8', al1, al2, al3, al4, al5, al6, al7, al8]
  refine HT.seq ?_
  refine HT.seq ?_
  refine HT.region ?_   -- R1
  simp (disch := first | omega | (simp <;> omega) | fail) [wrap_i64, wrap_u64, wrap_u8', al1, al2, al3, al4, al5, al6, al7, al8]
  refine stepK.mk (.call1f _ _ _ _ _ rfl Ty.hb29 rfl rfl (Of_spec [97, 98, 99, 97, 98] (by decide)) rfl) ?_
  simp (disch := first | omega | (simp <;> omega) | fail) [wrap_i64, wrap_u64, wrap_u8', al1, al2, al3, al4, al5, al6, al7, al8]
  refine stepK.mk (.call1f _ _ _ _ _ rfl Ty.hb35 rfl rfl (SameInts_spec _ _ [6382179, 6447969, 6512994] [6382179, 6447969, 6512994] (by decide)) rfl) ?_
  simp (disch := first | omega | (simp <;> omega) | fail) [wrap_i64, wrap_u64, wrap_u8', al1, al2, al3, al4, al5, al6, al7, al8]
  refine HT.cond' ?_   -- if 13
  simp (disch := first | omega | (simp <;> omega) | fail) [wrap_i64, wrap_u64, wrap_u8', al1, al2, al3, al4, al5, al6, al7, al8]
  refine HT.skip ?_
  simp (disch := first | omega | (simp <;> omega) | fail) [wrap_i64, wrap_u64, wrap_u8', al1, al2, al3, al4, al5, al6, al7, al8]
  refine HT.seq ?_
  refine HT.region ?_   -- R3
  simp (disch := first | omega | (simp <;> omega) | fail) [wrap_i64, wrap_u64, wrap_u8', al1, al2, al3, al4, al5, al6, al7, al8]
  refine stepK.mk (.call1f _ _ _ _ _ rfl Ty.hb38 rfl rfl (Grams_spec [120, 65, 66, 67, 97, 98, 99] (by decide)) rfl) ?_
  simp (disch := first | omega | (simp <;> omega) | fail) [wrap_i64, wrap_u64, wrap_u8', al1, al2, al3, al4, al5, al6, al7, al8]
  refine HT.seq ?_
  refine HT.region ?_   -- R4
  simp (disch := first | omega | (simp <;> omega) | fail) [wrap_i64, wrap_u64, wrap_u8', al1, al2, al3, al4, al5, al6, al7, al8]
  refine stepK.mk (.callT _ _ _ _ rfl Ty.hb31 rfl (Code_spec [97, 66, 99] (by decide)) rfl rfl) ?_
  simp (disch := first | omega | (simp <;> omega) | fail) [wrap_i64, wrap_u64, wrap_u8', al1, al2, al3, al4, al5, al6, al7, al8]
  refine HT.seq ?_
  refine HT.region ?_   -- R5
  simp (disch := first | omega | (simp <;> omega) | fail) [wrap_i64, wrap_u64, wrap_u8', al1, al2, al3, al4, al5, al6, al7, al8]
  refine stepK.mk (.callT _ _ _ _ rfl Ty.hb33 rfl (String_spec 6382179) rfl rfl) ?_
  simp (disch := first | omega | (simp <;> omega) | fail) [wrap_i64, wrap_u64, wrap_u8', al1, al2, al3, al4, al5, al6, al7, al8]
  refine HT.seq ?_
  refine HT.region ?_   -- R6
  simp (disch := first | omega | (simp <;> omega) | fail) [wrap_i64, wrap_u64, wrap_u8', al1, al2, al3, al4, al5, al6, al7, al8]
  refine stepK.mk (.callT _ _ _ _ rfl Ty.hb31 rfl (Code_spec [97, 98] (by decide)) rfl rfl) ?_
  simp (disch := first | omega | (simp <;> omega) | fail) [wrap_i64, wrap_u64, wrap_u8', al1, al2, al3, al4, al5, al6, al7, al8]
  refine HT.seq ?_
  refine HT.region ?_   -- R7
  simp (disch := first | omega | (simp <;> omega) | fail) [wrap_i64, wrap_u64, wrap_u8', al1, al2, al3, al4, al5, al6, al7, al8]
  refine stepK.mk (.callT _ _ _ _ rfl Ty.hb33 rfl (String_spec 16777216) rfl rfl) ?_
  simp (disch := first | omega | (simp <;> omega) | fail) [wrap_i64, wrap_u64, wrap_u8', al1, al2, al3, al4, al5, al6, al7, al8]
  refine HT.seq ?_
  refine HT.seq ?_
  refine HT.region ?_   -- R8
  simp (disch := first | omega | (simp <;> omega) | fail) [wrap_i64, wrap_u64, wrap_u8', al1, al2, al3, al4, al5, al6, al7, al8]
  refine HT.cond' ?_   -- if 50
  simp (disch := first | omega | (simp <;> omega) | fail) [wrap_i64, wrap_u64, wrap_u8', al1, al2, al3, al4, al5, al6, al7, al8]
  refine HT.skip ?_
  simp (disch := first | omega | (simp <;> omega) | fail) [wrap_i64, wrap_u64, wrap_u8', al1, al2, al3, al4, al5, al6, al7, al8]
  refine HT.seq ?_
  refine HT.region ?_   -- R10
  simp (disch := first | omega | (simp <;> omega) | fail) [wrap_i64, wrap_u64, wrap_u8', al1, al2, al3, al4, al5, al6, al7, al8]
  refine stepK.mk (.call1f _ _ _ _ _ rfl Ty.hb40 rfl rfl (At_spec _ (gramsV [120, 65, 66, 67, 97, 98, 99]) 6382179 (by decide)) rfl) ?_
  simp (disch := first | omega | (simp <;> omega) | fail) [wrap_i64, wrap_u64, wrap_u8', al1, al2, al3, al4, al5, al6, al7, al8]
  refine stepK.mk (.call1f _ _ _ _ _ rfl Ty.hb35 rfl rfl (SameInts_spec _ _ [1, 4] [1, 4] (by decide)) rfl) ?_
  simp (disch := first | omega | (simp <;> omega) | fail) [wrap_i64, wrap_u64, wrap_u8', al1, al2, al3, al4, al5, al6, al7, al8]
  refine stepK.mk (.call1f _ _ _ _ _ rfl Ty.hb40 rfl rfl (At_spec _ (gramsV [120, 65, 66, 67, 97, 98, 99]) 6447969 (by decide)) rfl) ?_
  simp (disch := first | omega | (simp <;> omega) | fail) [wrap_i64, wrap_u64, wrap_u8', al1, al2, al3, al4, al5, al6, al7, al8]
  refine stepK.mk (.call1f _ _ _ _ _ rfl Ty.hb35 rfl rfl (SameInts_spec _ _ [2] [2] (by decide)) rfl) ?_
  simp (disch := first | omega | (simp <;> omega) | fail) [wrap_i64, wrap_u64, wrap_u8', al1, al2, al3, al4, al5, al6, al7, al8]
  refine stepK.mk (.call1f _ _ _ _ _ rfl Ty.hb38 rfl rfl (Grams_spec [97, 97, 97, 97] (by decide)) rfl) ?_
  simp (disch := first | omega | (simp <;> omega) | fail) [wrap_i64, wrap_u64, wrap_u8', al1, al2, al3, al4, al5, al6, al7, al8]
  refine stepK.mk (.call1f _ _ _ _ _ rfl Ty.hb40 rfl rfl (At_spec _ (gramsV [97, 97, 97, 97]) 6381921 (by decide)) rfl) ?_
  simp (disch := first | omega | (simp <;> omega) | fail) [wrap_i64, wrap_u64, wrap_u8', al1, al2, al3, al4, al5, al6, al7, al8]
  refine stepK.mk (.call1f _ _ _ _ _ rfl Ty.hb35 rfl rfl (SameInts_spec _ _ [0, 1] [0, 1] (by decide)) rfl) ?_
  simp (disch := first | omega | (simp <;> omega) | fail) [wrap_i64, wrap_u64, wrap_u8', al1, al2, al3, al4, al5, al6, al7, al8]
  refine HT.ret ?_
  simp (disch := first | omega | (simp <;> omega) | fail) [wrap_i64, wrap_u64, wrap_u8', al1, al2, al3, al4, al5, al6, al7, al8]
end Go.Hv
set_option linter.unusedVariables false
set_option linter.unusedSimpArgs false
namespace Go.Hv
open Go Go.Hv Go.Proofs
open Go.Proofs.Ytphohigoehpkeaa
theorem gramsV_off {s : List UInt8} : ∀ x ∈ gramsV s, x.off.length ≤ s.length - 2 := fun x hx => by
  obtain ⟨c, _, rfl⟩ := List.mem_map.1 hx
  exact offK_length s _ c
theorem gramsV_length (s : List UInt8) : (gramsV s).length = (ofV s).length := by simp [gramsV]
theorem atV_length {l : List Gram} {n : Nat} (c : Int) (ho : ∀ x ∈ l, x.off.length ≤ n) : (atV l c).length ≤ n := by
  unfold atV
  split
  · next g hg => exact ho _ (List.mem_of_find?_eq_some hg)
  · simp
theorem ne_succ {l : List Int} {c : Int} {k : Nat} (hg : ∀ i, i < k → l[i]? ≠ some c) (hk : k < l.length) (h : ¬ l[k] = c) : ∀ i, i < k + 1 → l[i]? ≠ some c := fun i hi => by
  rcases Nat.lt_or_ge i k with h1 | h1
  · exact hg i h1
  · obtain rfl : i = k := by omega
    rw [List.getElem?_eq_getElem hk]
    intro h'
    exact h (Option.some.inj h')
theorem codes_spec (s : List UInt8) (n : Int) (hs : s.length ≤ 140737488355328) : Spec1 Try.prog 9 [.str s, i64 n] (bo true) := by
  refine Spec1.of_HT Try.func9 rfl (by rw [Try.ntmps9]; simp) rfl ?_
  rw [Try.ntmps9]
  refine HT.seq ?_
  refine HT.region ?_   -- R0
  simp (disch := first | omega | (simp <;> omega) | fail) [wrap_i64, wrap_u64, wrap_u8']
  refine HT.seq ?_
  refine HT.seq ?_
  refine HT.region ?_   -- R1
  simp (disch := first | omega | (simp <;> omega) | fail) [wrap_i64, wrap_u64, wrap_u8']
  refine stepK.mk (.call1 _ _ _ _ rfl Ty.hb30 rfl (alive_spec) rfl rfl) ?_
  simp (disch := first | omega | (simp <;> omega) | fail) [wrap_i64, wrap_u64, wrap_u8']
  refine HT.cond' ?_   -- if 12
  simp (disch := first | omega | (simp <;> omega) | fail) [wrap_i64, wrap_u64, wrap_u8']
  refine HT.skip ?_
  simp (disch := first | omega | (simp <;> omega) | fail) [wrap_i64, wrap_u64, wrap_u8']
  refine HT.seq ?_
  refine HT.region ?_   -- R3
  simp (disch := first | omega | (simp <;> omega) | fail) [wrap_i64, wrap_u64, wrap_u8']
  refine stepK.mk (.callT _ _ _ _ rfl Ty.hb31 rfl (Code_spec s hs) rfl rfl) ?_
  simp (disch := first | omega | (simp <;> omega) | fail) [wrap_i64, wrap_u64, wrap_u8']
  refine HT.seq ?_
  refine HT.region ?_   -- R4
  simp (disch := first | omega | (simp <;> omega) | fail) [wrap_i64, wrap_u64, wrap_u8']
  refine stepK.mk (.callT _ _ _ _ rfl Ty.hb32 rfl (refCode_spec s hs) rfl rfl) ?_
  simp (disch := first | omega | (simp <;> omega) | fail) [wrap_i64, wrap_u64, wrap_u8']
  refine HT.seq ?_
  refine HT.seq ?_
  refine HT.region ?_   -- R5
  simp (disch := first | omega | (simp <;> omega) | fail) [wrap_i64, wrap_u64, wrap_u8']
  refine HT.cond' ?_   -- if 30
  simp (disch := first | omega | (simp <;> omega) | fail) [wrap_i64, wrap_u64, wrap_u8']
  refine HT.skip ?_
  simp (disch := first | omega | (simp <;> omega) | fail) [wrap_i64, wrap_u64, wrap_u8']
  refine HT.seq ?_
  refine HT.region ?_   -- R7
  simp (disch := first | omega | (simp <;> omega) | fail) [wrap_i64, wrap_u64, wrap_u8']
  refine stepK.mk (.callT _ _ _ _ rfl Ty.hb33 rfl (String_spec n) rfl rfl) ?_
  simp (disch := first | omega | (simp <;> omega) | fail) [wrap_i64, wrap_u64, wrap_u8']
  refine HT.seq ?_
  refine HT.region ?_   -- R8
  simp (disch := first | omega | (simp <;> omega) | fail) [wrap_i64, wrap_u64, wrap_u8']
  refine stepK.mk (.callT _ _ _ _ rfl Ty.hb34 rfl (refString_spec n) rfl rfl) ?_
  simp (disch := first | omega | (simp <;> omega) | fail) [wrap_i64, wrap_u64, wrap_u8']
  refine HT.seq ?_
  refine HT.region ?_   -- R9
  simp (disch := first | omega | (simp <;> omega) | fail) [wrap_i64, wrap_u64, wrap_u8']
  refine HT.ret ?_
  simp (disch := first | omega | (simp <;> omega) | fail) [wrap_i64, wrap_u64, wrap_u8']
theorem sets_spec (s : List UInt8) (hs0 : s.length ≤ 140737488355328) : Spec1 Try.prog 10 [.str s] (bo true) := by
  have hol := ofV_length s
  have hgl := gramsV_length s
  refine Spec1.of_HT Try.func10 rfl (by rw [Try.ntmps10]; simp) rfl ?_
  rw [Try.ntmps10]
  refine HT.seq ?_
  refine HT.region ?_   -- R0
  simp (disch := first | omega | (simp <;> omega) | fail) [wrap_i64, wrap_u64, wrap_u8']
  refine HT.seq ?_
  refine HT.seq ?_
  refine HT.region ?_   -- R1
  simp (disch := first | omega | (simp <;> omega) | fail) [wrap_i64, wrap_u64, wrap_u8']
  refine stepK.mk (.call1 _ _ _ _ rfl Ty.hb30 rfl (alive_spec) rfl rfl) ?_
  simp (disch := first | omega | (simp <;> omega) | fail) [wrap_i64, wrap_u64, wrap_u8']
  refine HT.cond' ?_   -- if 4
  simp (disch := first | omega | (simp <;> omega) | fail) [wrap_i64, wrap_u64, wrap_u8']
  refine HT.skip ?_
  simp (disch := first | omega | (simp <;> omega) | fail) [wrap_i64, wrap_u64, wrap_u8']
  refine HT.seq ?_
  refine HT.seq ?_
  refine HT.region ?_   -- R3
  simp (disch := first | omega | (simp <;> omega) | fail) [wrap_i64, wrap_u64, wrap_u8']
  refine HT.cond' ?_   -- if 7
  simp (disch := first | omega | (simp <;> omega) | fail) [wrap_i64, wrap_u64, wrap_u8']
  refine ⟨fun h7 => ?_, fun h7 => ?_⟩
  · skip
    refine HT.seq ?_
    refine HT.region ?_   -- R4
    simp (disch := first | omega | (simp <;> omega) | fail) [wrap_i64, wrap_u64, wrap_u8']
    refine HT.ret ?_
    simp (disch := first | omega | (simp <;> omega) | fail) [wrap_i64, wrap_u64, wrap_u8']
  · skip
    have hs : s.length ≤ 900000 := by omega
    refine HT.skip ?_
    simp (disch := first | omega | (simp <;> omega) | fail) [wrap_i64, wrap_u64, wrap_u8']
    refine HT.seq ?_
    refine HT.region ?_   -- R5
    simp (disch := first | omega | (simp <;> omega) | fail) [wrap_i64, wrap_u64, wrap_u8']
    refine stepK.mk (.call1f _ _ _ _ _ rfl Ty.hb29 rfl rfl (Of_spec s hs) rfl) ?_
    simp (disch := first | omega | (simp <;> omega) | fail) [wrap_i64, wrap_u64, wrap_u8']
    refine stepK.mk (.call1f _ _ _ _ _ rfl Ty.hb36 rfl rfl (refOf_spec s hs) rfl) ?_
    simp (disch := first | omega | (simp <;> omega) | fail) [wrap_i64, wrap_u64, wrap_u8']
    refine stepK.mk (.call1f _ _ _ _ _ rfl Ty.hb35 rfl rfl (SameInts_spec _ _ (ofV s) (ofV s) (by omega)) rfl) ?_
    simp (disch := first | omega | (simp <;> omega) | fail) [wrap_i64, wrap_u64, wrap_u8']
    refine stepK.mk (.call1f _ _ _ _ _ rfl Ty.hb38 rfl rfl (Grams_spec s hs) rfl) ?_
    simp (disch := first | omega | (simp <;> omega) | fail) [wrap_i64, wrap_u64, wrap_u8']
    refine stepK.mk (.call1f _ _ _ _ _ rfl Ty.hb39 rfl rfl (refGrams_spec s hs) rfl) ?_
    simp (disch := first | omega | (simp <;> omega) | fail) [wrap_i64, wrap_u64, wrap_u8']
    refine stepK.mk (.call1f _ _ _ _ _ rfl Ty.hb37 rfl rfl (SameGrams_spec _ _ (gramsV s) (gramsV s) (by omega) (fun x hx => by have := gramsV_off x hx; omega)) rfl) ?_
    simp (disch := first | omega | (simp <;> omega) | fail) [wrap_i64, wrap_u64, wrap_u8']
    refine HT.ret ?_
    simp (disch := first | omega | (simp <;> omega) | fail) [wrap_i64, wrap_u64, wrap_u8']
theorem looks_spec (f : Bool) (l : List Gram) (c : Int) (hl : l.length ≤ 140737488355328) (ho : ∀ x ∈ l, x.off.length ≤ 140737488355328) : Spec1 Try.prog 11 [.sl 2 f (gramsHV l), i64 c] (bo true) := by
  have hb := atV_length c ho
  refine Spec1.of_HT Try.func11 rfl (by rw [Try.ntmps11]; simp) rfl ?_
  rw [Try.ntmps11]
  refine HT.seq ?_
  refine HT.region ?_   -- R0
  simp (disch := first | omega | (simp <;> omega) | fail) [wrap_i64, wrap_u64, wrap_u8']
  refine HT.seq ?_
  refine HT.seq ?_
  refine HT.region ?_   -- R1
  simp (disch := first | omega | (simp <;> omega) | fail) [wrap_i64, wrap_u64, wrap_u8']
  refine stepK.mk (.call1 _ _ _ _ rfl Ty.hb30 rfl (alive_spec) rfl rfl) ?_
  simp (disch := first | omega | (simp <;> omega) | fail) [wrap_i64, wrap_u64, wrap_u8']
  refine HT.cond' ?_   -- if 6
  simp (disch := first | omega | (simp <;> omega) | fail) [wrap_i64, wrap_u64, wrap_u8']
  refine HT.skip ?_
  simp (disch := first | omega | (simp <;> omega) | fail) [wrap_i64, wrap_u64, wrap_u8']
  refine HT.seq ?_
  refine HT.region ?_   -- R3
  simp (disch := first | omega | (simp <;> omega) | fail) [wrap_i64, wrap_u64, wrap_u8']
  refine stepK.mk (.call1f _ _ _ _ _ rfl Ty.hb40 rfl rfl (At_spec f l c hl) rfl) ?_
  simp (disch := first | omega | (simp <;> omega) | fail) [wrap_i64, wrap_u64, wrap_u8']
  refine stepK.mk (.call1f _ _ _ _ _ rfl Ty.hb41 rfl rfl (refAt_spec f l c hl) rfl) ?_
  simp (disch := first | omega | (simp <;> omega) | fail) [wrap_i64, wrap_u64, wrap_u8']
  refine stepK.mk (.call1f _ _ _ _ _ rfl Ty.hb35 rfl rfl (SameInts_spec _ _ (atV l c) (atV l c) hb) rfl) ?_
  simp (disch := first | omega | (simp <;> omega) | fail) [wrap_i64, wrap_u64, wrap_u8']
  refine HT.ret ?_
  simp (disch := first | omega | (simp <;> omega) | fail) [wrap_i64, wrap_u64, wrap_u8']
theorem folded_spec (c : UInt8) : Spec1 Try.prog 72 [u8 c] (u8 (foldB c)) := by
  refine Spec1.of_HT Try.func72 rfl (by rw [Try.ntmps72]; simp) rfl ?_
  rw [Try.ntmps72]
  refine HT.seq ?_
  refine HT.region ?_   -- R0
  simp (disch := first | omega | (simp <;> omega) | fail) [wrap_i64, wrap_u64, wrap_u8']
  refine HT.seq ?_
  refine HT.seq ?_
  by_cases c1 : (c.toNat : Int) < 65
  · skip
    refine HT.region ?_   -- R1
    simp (disch := first | omega | (simp <;> omega) | fail) [wrap_i64, wrap_u64, wrap_u8']
    refine HT.cond' ?_   -- if 8
    simp (disch := first | omega | (simp <;> omega) | fail) [wrap_i64, wrap_u64, wrap_u8']
    refine HT.skip ?_
    simp (disch := first | omega | (simp <;> omega) | fail) [wrap_i64, wrap_u64, wrap_u8']
    refine HT.seq ?_
    refine HT.region ?_   -- R3
    simp (disch := first | omega | (simp <;> omega) | fail) [wrap_i64, wrap_u64, wrap_u8']
    refine HT.ret ?_
    first | (simp (disch := first | omega | (simp <;> omega) | fail) [wrap_i64, wrap_u64, wrap_u8', foldB_lo, foldB_hi]; done) | (simp (disch := first | omega | (simp <;> omega) | fail) [wrap_i64, wrap_u64, wrap_u8', foldB_mid] <;> omega)
  by_cases c2 : 90 < (c.toNat : Int)
  · skip
    refine HT.region ?_   -- R1
    simp (disch := first | omega | (simp <;> omega) | fail) [wrap_i64, wrap_u64, wrap_u8']
    refine HT.cond' ?_   -- if 8
    simp (disch := first | omega | (simp <;> omega) | fail) [wrap_i64, wrap_u64, wrap_u8']
    refine HT.skip ?_
    simp (disch := first | omega | (simp <;> omega) | fail) [wrap_i64, wrap_u64, wrap_u8']
    refine HT.seq ?_
    refine HT.region ?_   -- R3
    simp (disch := first | omega | (simp <;> omega) | fail) [wrap_i64, wrap_u64, wrap_u8']
    refine HT.ret ?_
    first | (simp (disch := first | omega | (simp <;> omega) | fail) [wrap_i64, wrap_u64, wrap_u8', foldB_lo, foldB_hi]; done) | (simp (disch := first | omega | (simp <;> omega) | fail) [wrap_i64, wrap_u64, wrap_u8', foldB_mid] <;> omega)
  refine HT.region ?_   -- R1
  simp (disch := first | omega | (simp <;> omega) | fail) [wrap_i64, wrap_u64, wrap_u8']
  refine HT.cond' ?_   -- if 8
  simp (disch := first | omega | (simp <;> omega) | fail) [wrap_i64, wrap_u64, wrap_u8']
  refine HT.seq ?_
  refine HT.region ?_   -- R2
  simp (disch := first | omega | (simp <;> omega) | fail) [wrap_i64, wrap_u64, wrap_u8']
  refine HT.ret ?_
  first | (simp (disch := first | omega | (simp <;> omega) | fail) [wrap_i64, wrap_u64, wrap_u8', foldB_lo, foldB_hi]; done) | (simp (disch := first | omega | (simp <;> omega) | fail) [wrap_i64, wrap_u64, wrap_u8', foldB_mid] <;> omega)
theorem mem_take_none {l : List Int} {c : Int} {k : Nat} (hk : ∀ i, i < k → l[i]? ≠ some c) (h : k = l.length) : c ∉ l := fun hm => by
  obtain ⟨i, hi⟩ := List.mem_iff_getElem?.1 hm
  exact hk i (by rw [h]; exact getElem?_lt hi) hi
theorem has_spec (f : Bool) (l : List Int) (c : Int) (hl : l.length ≤ 140737488355328) : Spec1 Try.prog 73 [.sl 1 f (intsHV l), i64 c] (bo (decide (c ∈ l))) := by
  refine Spec1.of_HT Try.func73 rfl (by rw [Try.ntmps73]; simp) rfl ?_
  rw [Try.ntmps73]
  refine HT.seq ?_
  refine HT.region ?_   -- R0
  simp (disch := first | omega | (simp <;> omega) | fail) [wrap_i64, wrap_u64, wrap_u8']
  refine HT.seq ?_
  refine HT.seq ?_
  refine HT.region ?_   -- R1
  simp (disch := first | omega | (simp <;> omega) | fail) [wrap_i64, wrap_u64, wrap_u8']
  refine HT.block ?_
  refine HT.loopK (fun k : {k : Nat // k ≤ l.length ∧ ∀ i, i < k → l[i]? ≠ some c} => [.s 5 (i64 k)]) [0, 1] [] (fun k => l.length - k) (⟨0, by simp⟩) ?_ ?_   -- block 0 turned [5]
  · simp (disch := first | omega | (simp <;> omega) | fail) [wrap_i64, wrap_u64, wrap_u8']
  rintro ⟨k, hk, hg⟩
  simp (disch := first | omega | (simp <;> omega) | fail) [wrap_i64, wrap_u64, wrap_u8']
  refine HT.seq ?_
  refine HT.seq ?_
  refine HT.region ?_   -- R2
  simp (disch := first | omega | (simp <;> omega) | fail) [wrap_i64, wrap_u64, wrap_u8']
  refine HT.cond' ?_   -- if 9
  simp (disch := first | omega | (simp <;> omega) | fail) [wrap_i64, wrap_u64, wrap_u8']
  refine ⟨fun h9 => ?_, fun h9 => ?_⟩
  · skip
    have hk' : k < l.length := by omega
    refine HT.skip ?_
    simp (disch := first | omega | (simp <;> omega) | fail) [wrap_i64, wrap_u64, wrap_u8']
    refine HT.seq ?_
    refine HT.block ?_
    refine HT.seq ?_
    refine HT.region ?_   -- R4
    simp (disch := first | omega | (simp <;> omega) | fail) [wrap_i64, wrap_u64, wrap_u8']
    refine HT.cond' ?_   -- if 17
    simp (disch := first | omega | (simp <;> omega) | fail) [wrap_i64, wrap_u64, wrap_u8']
    refine ⟨fun h17 => ?_, fun h17 => ?_⟩
    · skip
      refine HT.seq ?_
      refine HT.region ?_   -- R5
      simp (disch := first | omega | (simp <;> omega) | fail) [wrap_i64, wrap_u64, wrap_u8']
      refine HT.ret ?_
      have : c ∈ l := h17 ▸ List.getElem_mem hk'
      simp (disch := first | omega | (simp <;> omega) | fail) [wrap_i64, wrap_u64, wrap_u8', this]
    · skip
      refine HT.skip ?_
      simp (disch := first | omega | (simp <;> omega) | fail) [wrap_i64, wrap_u64, wrap_u8']
      refine HT.region ?_   -- R3
      simp (disch := first | omega | (simp <;> omega) | fail) [wrap_i64, wrap_u64, wrap_u8']
      refine Round.mk' (⟨k + 1, by omega, ne_succ hg hk' h17⟩) (by dsimp only; omega) rfl ?_
      simp (disch := first | omega | (simp <;> omega) | fail) [wrap_i64, wrap_u64, wrap_u8']
  · skip
    obtain rfl : k = l.length := by omega
    refine HT.exit ?_
    simp (disch := first | omega | (simp <;> omega) | fail) [wrap_i64, wrap_u64, wrap_u8']
    refine HT.seq ?_
    refine HT.region ?_   -- R6
    simp (disch := first | omega | (simp <;> omega) | fail) [wrap_i64, wrap_u64, wrap_u8']
    refine HT.ret ?_
    simp (disch := first | omega | (simp <;> omega) | fail) [wrap_i64, wrap_u64, wrap_u8', mem_take_none hg rfl]
end Go.Hv
set_option linter.unusedVariables false
set_option linter.unusedSimpArgs false
namespace Go.Hv
open Go Go.Hv Go.Proofs
open Go.Proofs.Ytphohigoehpkeaa
def beg (s : List UInt8) (i : Nat) (x y z : UInt8) : Bool := decide (foldB (s.getD i 0) = x ∧ foldB (s.getD (i + 1) 0) = y ∧ foldB (s.getD (i + 2) 0) = z)
theorem beg_eq {s : List UInt8} {i : Nat} (h : i + 2 < s.length) (x y z : UInt8) : beg s i x y z = decide (foldB s[i] = x ∧ foldB s[i + 1] = y ∧ foldB s[i + 2] = z) := by
  unfold beg
  rw [List.getD_eq_getElem?_getD, List.getD_eq_getElem?_getD, List.getD_eq_getElem?_getD, List.getElem?_eq_getElem (by omega), List.getElem?_eq_getElem (by omega), List.getElem?_eq_getElem h]
  rfl
theorem u8_inj (a b : UInt8) : ((a.toNat : Int) = (b.toNat : Int)) = (a = b) := by
  rw [eq_iff_iff, Int.natCast_inj, UInt8.toNat_inj]
set_option maxHeartbeats 4000000 in
set_option maxRecDepth 20000 in
theorem begins_spec (s : List UInt8) (i : Nat) (x y z : UInt8) (h : i + 2 < s.length) (hs : s.length ≤ 140737488355328) : Spec1 Try.prog 42 [.str s, i64 i, .str [x, y, z]] (bo (beg s i x y z)) := by
  have hi3 : (i : Int) ≤ (s.length : Int) - 3 := by omega
  have hi1 : i < s.length := by omega
  have hi2 : i + 1 < s.length := by omega
  refine Spec1.of_HT Try.func42 rfl (by rw [Try.ntmps42]; simp) rfl ?_
  rw [Try.ntmps42]
  refine HT.seq ?_
  refine HT.region ?_   -- R0
  simp (disch := first | omega | (simp <;> omega) | fail) [wrap_i64, wrap_u64, wrap_u8', hi3, hi1, hi2, h, u8_inj]
  refine HT.seq ?_
  by_cases c1 : ¬ foldB s[i] = x
  · skip
    refine HT.draw [.batch [0, 1, 2, 3, 4, 5, 6, 7, 8, 9, 10, 11, 12, 13, 14, 15, 16, 17, 18, 19, 20, 21, 22, 23, 24, 25, 26, 27, 28, 29, 30, 31, 32, 33, 34, 35, 36, 37, 38]] (by kernel_rfl) ?_   -- R1
    simp -dsimp (disch := first | omega | (simp <;> omega) | fail) [wrap_i64, wrap_u64, wrap_u8', hi3, hi1, hi2, h, u8_inj, c1]
    refine stepK.mk (.call1 _ _ _ rfl Ty.hb72 rfl rfl (folded_spec _)) ?_
    simp -dsimp (disch := first | omega | (simp <;> omega) | fail) [wrap_i64, wrap_u64, wrap_u8', hi3, hi1, hi2, h, u8_inj, c1]
    refine HT.ret ?_
    first | (simp (disch := first | omega | (simp <;> omega) | fail) [wrap_i64, wrap_u64, wrap_u8', hi3, hi1, hi2, h, u8_inj, beg_eq h, c1, c2]; done) | simp (disch := first | omega | (simp <;> omega) | fail) [wrap_i64, wrap_u64, wrap_u8', hi3, hi1, hi2, h, u8_inj, beg_eq h, c1]
  rw [Classical.not_not] at c1
  by_cases c2 : ¬ foldB s[i + 1] = y
  · skip
    refine HT.draw [.batch [0, 1, 2, 3, 4, 5, 6, 7, 8, 9, 10, 11, 12, 13, 14, 15, 16, 17, 18, 19, 20, 21, 22, 23, 24, 25, 26, 27, 28, 29, 30, 31, 32, 33, 34, 35, 36, 37, 38]] (by kernel_rfl) ?_   -- R1
    simp -dsimp (disch := first | omega | (simp <;> omega) | fail) [wrap_i64, wrap_u64, wrap_u8', hi3, hi1, hi2, h, u8_inj, c1, c2]
    refine stepK.mk (.call1 _ _ _ rfl Ty.hb72 rfl rfl (folded_spec _)) ?_
    simp -dsimp (disch := first | omega | (simp <;> omega) | fail) [wrap_i64, wrap_u64, wrap_u8', hi3, hi1, hi2, h, u8_inj, c1, c2]
    refine stepK.mk (.call1 _ _ _ rfl Ty.hb72 rfl rfl (folded_spec _)) ?_
    simp -dsimp (disch := first | omega | (simp <;> omega) | fail) [wrap_i64, wrap_u64, wrap_u8', hi3, hi1, hi2, h, u8_inj, c1, c2]
    refine HT.ret ?_
    first | (simp (disch := first | omega | (simp <;> omega) | fail) [wrap_i64, wrap_u64, wrap_u8', hi3, hi1, hi2, h, u8_inj, beg_eq h, c1, c2]; done) | simp (disch := first | omega | (simp <;> omega) | fail) [wrap_i64, wrap_u64, wrap_u8', hi3, hi1, hi2, h, u8_inj, beg_eq h, c1]
  rw [Classical.not_not] at c2
  refine HT.draw [.batch [0, 1, 2, 3, 4, 5, 6, 7, 8, 9, 10, 11, 12, 13, 14, 15, 16, 17, 18, 19, 20, 21, 22, 23, 24, 25, 26, 27, 28, 29, 30, 31, 32, 33, 34, 35, 36, 37, 38]] (by kernel_rfl) ?_   -- R1
  simp -dsimp (disch := first | omega | (simp <;> omega) | fail) [wrap_i64, wrap_u64, wrap_u8', hi3, hi1, hi2, h, u8_inj, c1, c2]
  refine stepK.mk (.call1 _ _ _ rfl Ty.hb72 rfl rfl (folded_spec _)) ?_
  simp -dsimp (disch := first | omega | (simp <;> omega) | fail) [wrap_i64, wrap_u64, wrap_u8', hi3, hi1, hi2, h, u8_inj, c1, c2]
  refine stepK.mk (.call1 _ _ _ rfl Ty.hb72 rfl rfl (folded_spec _)) ?_
  simp -dsimp (disch := first | omega | (simp <;> omega) | fail) [wrap_i64, wrap_u64, wrap_u8', hi3, hi1, hi2, h, u8_inj, c1, c2]
  refine stepK.mk (.call1 _ _ _ rfl Ty.hb72 rfl rfl (folded_spec _)) ?_
  simp -dsimp (disch := first | omega | (simp <;> omega) | fail) [wrap_i64, wrap_u64, wrap_u8', hi3, hi1, hi2, h, u8_inj, c1, c2]
  refine HT.ret ?_
  first | (simp (disch := first | omega | (simp <;> omega) | fail) [wrap_i64, wrap_u64, wrap_u8', hi3, hi1, hi2, h, u8_inj, beg_eq h, c1, c2]; done) | simp (disch := first | omega | (simp <;> omega) | fail) [wrap_i64, wrap_u64, wrap_u8', hi3, hi1, hi2, h, u8_inj, beg_eq h, c1]
theorem all_succ {a b : List Int} {k : Nat} (hg : ∀ i x, i < k → a[i]? = some x → x ∈ b) (hk : k < a.length) (h : a[k] ∈ b) : ∀ i x, i < k + 1 → a[i]? = some x → x ∈ b := fun i x hi hx => by
  rcases Nat.lt_or_ge i k with h1 | h1
  · exact hg i x h1 hx
  · obtain rfl : i = k := by omega
    rw [List.getElem?_eq_getElem hk] at hx
    cases hx; exact h
theorem all_of {a b : List Int} {k : Nat} (hg : ∀ i x, i < k → a[i]? = some x → x ∈ b) (h : k = a.length) : ∀ x ∈ a, x ∈ b := fun x hx => by
  obtain ⟨i, hi⟩ := List.mem_iff_getElem?.1 hx
  exact hg i x (by rw [h]; exact getElem?_lt hi) hi
theorem within_spec (f g : Bool) (a b : List Int) (ha : a.length ≤ 140737488355328) (hb : b.length ≤ 140737488355328) : Spec1 Try.prog 43 [.sl 1 f (intsHV a), .sl 1 g (intsHV b)] (bo (decide (∀ x ∈ a, x ∈ b))) := by
  refine Spec1.of_HT Try.func43 rfl (by rw [Try.ntmps43]; simp) rfl ?_
  rw [Try.ntmps43]
  refine HT.seq ?_
  refine HT.region ?_   -- R0
  simp (disch := first | omega | (simp <;> omega) | fail) [wrap_i64, wrap_u64, wrap_u8']
  refine HT.seq ?_
  refine HT.seq ?_
  refine HT.region ?_   -- R1
  simp (disch := first | omega | (simp <;> omega) | fail) [wrap_i64, wrap_u64, wrap_u8']
  refine HT.block ?_
  refine HT.loopK (fun k : {k : Nat // k ≤ a.length ∧ ∀ i x, i < k → a[i]? = some x → x ∈ b} => [.s 5 (i64 k)]) [0, 1] [] (fun k => a.length - k) (⟨0, by simp⟩) ?_ ?_   -- block 0 turned [5]
  · simp (disch := first | omega | (simp <;> omega) | fail) [wrap_i64, wrap_u64, wrap_u8']
  rintro ⟨k, hk, hg⟩
  simp (disch := first | omega | (simp <;> omega) | fail) [wrap_i64, wrap_u64, wrap_u8']
  refine HT.seq ?_
  refine HT.seq ?_
  refine HT.region ?_   -- R2
  simp (disch := first | omega | (simp <;> omega) | fail) [wrap_i64, wrap_u64, wrap_u8']
  refine HT.cond' ?_   -- if 9
  simp (disch := first | omega | (simp <;> omega) | fail) [wrap_i64, wrap_u64, wrap_u8']
  refine ⟨fun h9 => ?_, fun h9 => ?_⟩
  · skip
    have hk' : k < a.length := by omega
    refine HT.skip ?_
    simp (disch := first | omega | (simp <;> omega) | fail) [wrap_i64, wrap_u64, wrap_u8']
    refine HT.seq ?_
    refine HT.block ?_
    refine HT.seq ?_
    refine HT.region ?_   -- R4
    simp (disch := first | omega | (simp <;> omega) | fail) [wrap_i64, wrap_u64, wrap_u8']
    refine stepK.mk (.call1f _ _ _ _ _ rfl Ty.hb73 rfl rfl (has_spec g b a[k] hb) rfl) ?_
    simp (disch := first | omega | (simp <;> omega) | fail) [wrap_i64, wrap_u64, wrap_u8']
    refine HT.cond' ?_   -- if 18
    simp (disch := first | omega | (simp <;> omega) | fail) [wrap_i64, wrap_u64, wrap_u8']
    refine ⟨fun h18 => ?_, fun h18 => ?_⟩
    · skip
      refine HT.seq ?_
      refine HT.region ?_   -- R5
      simp (disch := first | omega | (simp <;> omega) | fail) [wrap_i64, wrap_u64, wrap_u8']
      refine HT.ret ?_
      have : ¬ ∀ x ∈ a, x ∈ b := fun h' => h18 (h' _ (List.getElem_mem hk'))
      simp (disch := first | omega | (simp <;> omega) | fail) [wrap_i64, wrap_u64, wrap_u8', this]
    · skip
      refine HT.skip ?_
      simp (disch := first | omega | (simp <;> omega) | fail) [wrap_i64, wrap_u64, wrap_u8']
      refine HT.region ?_   -- R3
      simp (disch := first | omega | (simp <;> omega) | fail) [wrap_i64, wrap_u64, wrap_u8']
      refine Round.mk' (⟨k + 1, by omega, all_succ hg hk' h18⟩) (by dsimp only; omega) rfl ?_
      simp (disch := first | omega | (simp <;> omega) | fail) [wrap_i64, wrap_u64, wrap_u8']
  · skip
    obtain rfl : k = a.length := by omega
    refine HT.exit ?_
    simp (disch := first | omega | (simp <;> omega) | fail) [wrap_i64, wrap_u64, wrap_u8']
    refine HT.seq ?_
    refine HT.region ?_   -- R6
    simp (disch := first | omega | (simp <;> omega) | fail) [wrap_i64, wrap_u64, wrap_u8']
    refine HT.ret ?_
    have := all_of hg rfl
    simp (disch := first | omega | (simp <;> omega) | fail) [wrap_i64, wrap_u64, wrap_u8', this]
def outs (l a b : List Int) : List Int := l.filter fun x => decide (¬ x ∈ a ∧ ¬ x ∈ b)
theorem outs_take {l a b : List Int} {k : Nat} (hk : k < l.length) : (outs (l.take (k + 1)) a b).length = (outs (l.take k) a b).length + if ¬ l[k] ∈ a ∧ ¬ l[k] ∈ b then 1 else 0 := by
  unfold outs
  rw [List.take_succ_eq_append_getElem hk, List.filter_append, List.length_append]
  congr 1
  by_cases h : ¬ l[k] ∈ a ∧ ¬ l[k] ∈ b
  · simp [h]
  · rw [if_neg h]; simp only [List.filter_cons, h, decide_false]; rfl
theorem outs_len (l a b : List Int) (k : Nat) : (outs (l.take k) a b).length ≤ l.length := by
  unfold outs
  have h1 := List.length_filter_le (fun x => decide (¬ x ∈ a ∧ ¬ x ∈ b)) (l.take k)
  have h2 : (l.take k).length ≤ l.length := by rw [List.length_take]; omega
  omega
theorem others_spec (f g h : Bool) (l a b : List Int) (hl : l.length ≤ 140737488355328) (ha : a.length ≤ 140737488355328) (hb : b.length ≤ 140737488355328) : Spec1 Try.prog 44 [.sl 1 f (intsHV l), .sl 1 g (intsHV a), .sl 1 h (intsHV b)] (i64 (outs l a b).length) := by
  refine Spec1.of_HT Try.func44 rfl (by rw [Try.ntmps44]; simp) rfl ?_
  rw [Try.ntmps44]
  refine HT.seq ?_
  refine HT.region ?_   -- R0
  simp (disch := first | omega | (simp <;> omega) | fail) [wrap_i64, wrap_u64, wrap_u8']
  refine HT.seq ?_
  refine HT.region ?_   -- R1
  simp (disch := first | omega | (simp <;> omega) | fail) [wrap_i64, wrap_u64, wrap_u8']
  refine HT.seq ?_
  refine HT.seq ?_
  refine HT.region ?_   -- R2
  simp (disch := first | omega | (simp <;> omega) | fail) [wrap_i64, wrap_u64, wrap_u8']
  refine HT.block ?_
  refine HT.loopK (fun k : {k : Nat // k ≤ l.length} => [.s 8 (i64 k), .s 7 (i64 (outs (l.take k) a b).length)]) [0, 1, 2] [] (fun k => l.length - k) (⟨0, by simp⟩) ?_ ?_   -- block 0 turned [7, 8, 23, 24, 25, 26, 27, 28, 29]
  · simp (disch := first | omega | (simp <;> omega) | fail) [wrap_i64, wrap_u64, wrap_u8', outs]
  rintro ⟨k, hk⟩
  simp (disch := first | omega | (simp <;> omega) | fail) [wrap_i64, wrap_u64, wrap_u8']
  refine HT.seq ?_
  refine HT.seq ?_
  refine HT.region ?_   -- R3
  simp (disch := first | omega | (simp <;> omega) | fail) [wrap_i64, wrap_u64, wrap_u8']
  refine HT.cond' ?_   -- if 12
  simp (disch := first | omega | (simp <;> omega) | fail) [wrap_i64, wrap_u64, wrap_u8']
  refine ⟨fun h12 => ?_, fun h12 => ?_⟩
  · skip
    have hk' : k < l.length := by omega
    have hol := outs_len l a b k
    refine HT.skip ?_
    simp (disch := first | omega | (simp <;> omega) | fail) [wrap_i64, wrap_u64, wrap_u8']
    refine HT.seq ?_
    refine HT.block ?_
    refine HT.seq ?_
    by_cases c1 : l[k] ∈ a
    · skip
      refine HT.region ?_   -- R5
      simp (disch := first | omega | (simp <;> omega) | fail) [wrap_i64, wrap_u64, wrap_u8']
      refine stepK.mk (.call1f _ _ _ _ _ rfl Ty.hb73 rfl rfl (has_spec g a l[k] ha) rfl) ?_
      simp (disch := first | omega | (simp <;> omega) | fail) [wrap_i64, wrap_u64, wrap_u8']
      refine HT.cond' ?_   -- if 30
      simp (disch := first | omega | (simp <;> omega) | fail) [wrap_i64, wrap_u64, wrap_u8']
      refine HT.skip ?_
      simp (disch := first | omega | (simp <;> omega) | fail) [wrap_i64, wrap_u64, wrap_u8']
      refine HT.region ?_   -- R4
      simp (disch := first | omega | (simp <;> omega) | fail) [wrap_i64, wrap_u64, wrap_u8']
      refine Round.mk' (⟨k + 1, by omega⟩) (by dsimp only; omega) rfl ?_
      simp (disch := first | omega | (simp <;> omega) | fail) [wrap_i64, wrap_u64, wrap_u8', outs_take hk', c1]
    by_cases c2 : l[k] ∈ b
    · skip
      refine HT.region ?_   -- R5
      simp (disch := first | omega | (simp <;> omega) | fail) [wrap_i64, wrap_u64, wrap_u8']
      refine stepK.mk (.call1f _ _ _ _ _ rfl Ty.hb73 rfl rfl (has_spec g a l[k] ha) rfl) ?_
      simp (disch := first | omega | (simp <;> omega) | fail) [wrap_i64, wrap_u64, wrap_u8']
      refine stepK.mk (.call1f _ _ _ _ _ rfl Ty.hb73 rfl rfl (has_spec h b l[k] hb) rfl) ?_
      simp (disch := first | omega | (simp <;> omega) | fail) [wrap_i64, wrap_u64, wrap_u8']
      refine HT.cond' ?_   -- if 30
      simp (disch := first | omega | (simp <;> omega) | fail) [wrap_i64, wrap_u64, wrap_u8']
      refine HT.skip ?_
      simp (disch := first | omega | (simp <;> omega) | fail) [wrap_i64, wrap_u64, wrap_u8']
      refine HT.region ?_   -- R4
      simp (disch := first | omega | (simp <;> omega) | fail) [wrap_i64, wrap_u64, wrap_u8']
      refine Round.mk' (⟨k + 1, by omega⟩) (by dsimp only; omega) rfl ?_
      simp (disch := first | omega | (simp <;> omega) | fail) [wrap_i64, wrap_u64, wrap_u8', outs_take hk', c1]
    refine HT.region ?_   -- R5
    simp (disch := first | omega | (simp <;> omega) | fail) [wrap_i64, wrap_u64, wrap_u8']
    refine stepK.mk (.call1f _ _ _ _ _ rfl Ty.hb73 rfl rfl (has_spec g a l[k] ha) rfl) ?_
    simp (disch := first | omega | (simp <;> omega) | fail) [wrap_i64, wrap_u64, wrap_u8']
    refine stepK.mk (.call1f _ _ _ _ _ rfl Ty.hb73 rfl rfl (has_spec h b l[k] hb) rfl) ?_
    simp (disch := first | omega | (simp <;> omega) | fail) [wrap_i64, wrap_u64, wrap_u8']
    refine HT.cond' ?_   -- if 30
    simp (disch := first | omega | (simp <;> omega) | fail) [wrap_i64, wrap_u64, wrap_u8']
    refine HT.region ?_   -- R6
    simp (disch := first | omega | (simp <;> omega) | fail) [wrap_i64, wrap_u64, wrap_u8']
    refine HT.region ?_   -- R4
    simp (disch := first | omega | (simp <;> omega) | fail) [wrap_i64, wrap_u64, wrap_u8']
    refine Round.mk' (⟨k + 1, by omega⟩) (by dsimp only; omega) rfl ?_
    simp (disch := first | omega | (simp <;> omega) | fail) [wrap_i64, wrap_u64, wrap_u8', outs_take hk', c1]
  · skip
    obtain rfl : k = l.length := by omega
    refine HT.exit ?_
    simp (disch := first | omega | (simp <;> omega) | fail) [wrap_i64, wrap_u64, wrap_u8']
    refine HT.seq ?_
    refine HT.region ?_   -- R7
    simp (disch := first | omega | (simp <;> omega) | fail) [wrap_i64, wrap_u64, wrap_u8']
    refine HT.ret ?_
    simp (disch := first | omega | (simp <;> omega) | fail) [wrap_i64, wrap_u64, wrap_u8', List.take_length]
end Go.Hv
set_option linter.unusedVariables false
set_option linter.unusedSimpArgs false
namespace Go.Hv
open Go Go.Hv Go.Proofs
open Go.Proofs.Ytphohigoehpkeaa
theorem ofV_mem (s : List UInt8) (c : Int) : c ∈ ofV s ↔ ∃ i, i < s.length - 2 ∧ codeAt s i = c := ofK_mem s _ c
theorem ofV_range {s : List UInt8} {c : Int} (h : c ∈ ofV s) : 0 ≤ c ∧ c < 16777216 := by
  obtain ⟨i, _, rfl⟩ := (ofV_mem s c).1 h
  exact code3_lt _ _ _
theorem toNat_ofNat' {n : Int} (h : 0 ≤ n) (h2 : n < 256) : ((UInt8.ofNat n.toNat).toNat : Int) = n := by
  rw [UInt8.toNat_ofNat', Nat.mod_eq_of_lt (by omega)]; omega
theorem code_bytes3 {n : Int} (h : 0 ≤ n ∧ n < 16777216) : code3 (UInt8.ofNat (n / 65536 % 256).toNat) (UInt8.ofNat (n / 256 % 256).toNat) (UInt8.ofNat (n % 256).toNat) = n := by
  unfold code3
  rw [toNat_ofNat' (by omega) (by omega), toNat_ofNat' (by omega) (by omega), toNat_ofNat' (by omega) (by omega)]
  omega
theorem beg_bytes {s : List UInt8} {i : Nat} {n : Int} (hn : 0 ≤ n ∧ n < 16777216) : beg s i (UInt8.ofNat (n / 65536 % 256).toNat) (UInt8.ofNat (n / 256 % 256).toNat) (UInt8.ofNat (n % 256).toNat) = decide (codeAt s i = n) := by
  unfold beg codeAt
  rw [decide_eq_decide]
  constructor
  · rintro ⟨h1, h2, h3⟩
    rw [h1, h2, h3, code_bytes3 hn]
  · intro h
    exact code3_inj (h.trans (code_bytes3 hn).symm)
theorem begins3_spec (s : List UInt8) (i : Nat) (n : Int) (hn : 0 ≤ n ∧ n < 16777216) (h : i + 2 < s.length) (hs : s.length ≤ 140737488355328) : Spec1 Try.prog 42 [.str s, i64 i, .str (bytes3 n)] (bo (decide (codeAt s i = n))) := by
  have := begins_spec s i (UInt8.ofNat (n / 65536 % 256).toNat) (UInt8.ofNat (n / 256 % 256).toNat) (UInt8.ofNat (n % 256).toNat) h hs
  rw [beg_bytes hn] at this
  exact this
theorem bytes3_length (n : Int) : (bytes3 n).length = 3 := rfl
theorem str_yes {n : Int} (h : 0 ≤ n ∧ n < 16777216) : strV n = bytes3 n ∧ strOK n = true := ⟨if_pos h, decide_eq_true h⟩
theorem str_no {n : Int} (h : ¬ (0 ≤ n ∧ n < 16777216)) : strV n = [] ∧ strOK n = false := ⟨if_neg h, decide_eq_false h⟩
theorem take_mem {l : List Int} {k : Nat} (hk : k < l.length) (n : Int) : (n ∈ l.take (k + 1)) ↔ n ∈ l.take k ∨ l[k] = n := by
  rw [List.take_succ_eq_append_getElem hk]; rw [List.mem_append, List.mem_singleton, eq_comm (a := n)]
def seen (s : List UInt8) (n : Int) (j : Nat) : Bool := (List.range j).any fun i => decide (codeAt s i = n)
theorem seen_succ (s : List UInt8) (n : Int) (j : Nat) : seen s n (j + 1) = (seen s n j || decide (codeAt s j = n)) := by
  unfold seen; rw [List.range_succ, List.any_append]; simp
theorem seen_all (s : List UInt8) (n : Int) : seen s n (s.length - 2) = decide (n ∈ ofV s) := by
  rw [Bool.eq_iff_iff, decide_eq_true_iff, ofV_mem]
  simp [seen]
theorem inc_at {l : List Int} (h : Inc l) {k : Nat} (hk : k + 1 < l.length) : l[k] < l[k + 1] := List.pairwise_iff_getElem.1 h k (k + 1) (by omega) hk (by omega)
theorem inc_bef {l : List Int} (h : Inc l) {k : Nat} (hk : k < l.length) (h0 : ¬ k = 0) : l[k - 1] < l[k] := List.pairwise_iff_getElem.1 h (k - 1) k (by omega) hk (by omega)
set_option maxHeartbeats 4000000 in
theorem occurs_spec (s : List UInt8) (n : Int) (hs0 : s.length ≤ 140737488355328) : Spec1 Try.prog 12 [.str s, i64 n] (bo true) := by
  have hol := ofV_length s
  have hinc := ofK_inc s (s.length - 2)
  change Inc (ofV s) at hinc
  refine Spec1.of_HT Try.func12 rfl (by rw [Try.ntmps12]; simp) rfl ?_
  rw [Try.ntmps12]
  refine HT.seq ?_
  refine HT.region ?_   -- R0
  simp (disch := first | omega | (simp <;> omega) | fail) [wrap_i64, wrap_u64, wrap_u8', bytes3_length]
  refine HT.seq ?_
  refine HT.seq ?_
  refine HT.region ?_   -- R1
  simp (disch := first | omega | (simp <;> omega) | fail) [wrap_i64, wrap_u64, wrap_u8', bytes3_length]
  refine stepK.mk (.call1 _ _ _ _ rfl Ty.hb30 rfl (alive_spec) rfl rfl) ?_
  simp (disch := first | omega | (simp <;> omega) | fail) [wrap_i64, wrap_u64, wrap_u8', bytes3_length]
  refine HT.cond' ?_   -- if 13
  simp (disch := first | omega | (simp <;> omega) | fail) [wrap_i64, wrap_u64, wrap_u8', bytes3_length]
  refine HT.skip ?_
  simp (disch := first | omega | (simp <;> omega) | fail) [wrap_i64, wrap_u64, wrap_u8', bytes3_length]
  refine HT.seq ?_
  refine HT.seq ?_
  refine HT.region ?_   -- R3
  simp (disch := first | omega | (simp <;> omega) | fail) [wrap_i64, wrap_u64, wrap_u8', bytes3_length]
  refine HT.cond' ?_   -- if 16
  simp (disch := first | omega | (simp <;> omega) | fail) [wrap_i64, wrap_u64, wrap_u8', bytes3_length]
  refine ⟨fun h16 => ?_, fun h16 => ?_⟩
  · skip
    refine HT.seq ?_
    refine HT.region ?_   -- R4
    simp (disch := first | omega | (simp <;> omega) | fail) [wrap_i64, wrap_u64, wrap_u8', bytes3_length]
    refine HT.ret ?_
    first | (simp (disch := first | omega | (simp <;> omega) | fail) [wrap_i64, wrap_u64, wrap_u8', bytes3_length, seen_all]; done) | (simp (disch := first | omega | (simp <;> omega) | fail) [wrap_i64, wrap_u64, wrap_u8', bytes3_length, show ¬ n ∈ ofV s from fun h => c3 (ofV_range h)])
  · skip
    have hs : s.length ≤ 900000 := by omega
    refine HT.skip ?_
    simp (disch := first | omega | (simp <;> omega) | fail) [wrap_i64, wrap_u64, wrap_u8', bytes3_length]
    refine HT.seq ?_
    refine HT.region ?_   -- R5
    simp (disch := first | omega | (simp <;> omega) | fail) [wrap_i64, wrap_u64, wrap_u8', bytes3_length]
    refine stepK.mk (.call1f _ _ _ _ _ rfl Ty.hb29 rfl rfl (Of_spec s hs) rfl) ?_
    simp (disch := first | omega | (simp <;> omega) | fail) [wrap_i64, wrap_u64, wrap_u8', bytes3_length]
    refine HT.seq ?_
    refine HT.region ?_   -- R6
    simp (disch := first | omega | (simp <;> omega) | fail) [wrap_i64, wrap_u64, wrap_u8', bytes3_length]
    refine HT.seq ?_
    refine HT.seq ?_
    refine HT.region ?_   -- R7
    simp (disch := first | omega | (simp <;> omega) | fail) [wrap_i64, wrap_u64, wrap_u8', bytes3_length]
    refine HT.block ?_
    refine HT.loopK (fun k : {k : Nat // k ≤ (ofV s).length} => [.s 7 (i64 k), .s 6 (bo (decide (n ∈ (ofV s).take k)))]) [0, 1, 5, 55, 56, 57, 68, 69, 70, 71] [] (fun k => (ofV s).length - k) (⟨0, by omega⟩) ?_ ?_   -- block 0 turned [6, 7, 27, 28, 29, 30, 31, 32, 37, 38, 39, 40, 41, 42, 43, 44, 45, 46]
    · simp (disch := first | omega | (simp <;> omega) | fail) [wrap_i64, wrap_u64, wrap_u8', bytes3_length]
    rintro ⟨k, hk⟩
    simp (disch := first | omega | (simp <;> omega) | fail) [wrap_i64, wrap_u64, wrap_u8', bytes3_length]
    refine HT.seq ?_
    refine HT.seq ?_
    refine HT.region ?_   -- R8
    simp (disch := first | omega | (simp <;> omega) | fail) [wrap_i64, wrap_u64, wrap_u8', bytes3_length]
    refine HT.cond' ?_   -- if 22
    simp (disch := first | omega | (simp <;> omega) | fail) [wrap_i64, wrap_u64, wrap_u8', bytes3_length]
    refine ⟨fun h22 => ?_, fun h22 => ?_⟩
    · skip
      have hk' : k < (ofV s).length := by omega
      refine HT.skip ?_
      simp (disch := first | omega | (simp <;> omega) | fail) [wrap_i64, wrap_u64, wrap_u8', bytes3_length]
      refine HT.seq ?_
      refine HT.block ?_
      refine HT.seq ?_
      by_cases c1 : n ∈ (ofV s).take k
      · skip
        refine HT.region ?_   -- R10
        simp (disch := first | omega | (simp <;> omega) | fail) [wrap_i64, wrap_u64, wrap_u8', bytes3_length, c1]
        refine HT.seq ?_
        by_cases c2 : k = 0
        · skip
          refine HT.draw [.batch [0, 1, 2, 3, 4, 5, 6, 7, 8, 9, 10, 11, 12, 13]] (by kernel_rfl) ?_   -- R11
          simp (disch := first | omega | (simp <;> omega) | fail) [wrap_i64, wrap_u64, wrap_u8', bytes3_length]
          refine HT.cond' ?_   -- if 47
          simp (disch := first | omega | (simp <;> omega) | fail) [wrap_i64, wrap_u64, wrap_u8', bytes3_length]
          refine HT.skip ?_
          simp (disch := first | omega | (simp <;> omega) | fail) [wrap_i64, wrap_u64, wrap_u8', bytes3_length]
          refine HT.region ?_   -- R9
          simp (disch := first | omega | (simp <;> omega) | fail) [wrap_i64, wrap_u64, wrap_u8', bytes3_length]
          refine Round.mk' (⟨k + 1, by omega⟩) (by dsimp only; omega) rfl ?_
          simp (disch := first | omega | (simp <;> omega) | fail) [wrap_i64, wrap_u64, wrap_u8', bytes3_length, take_mem hk', c1]
        have hlt := inc_bef hinc hk' c2
        have hk1 : (k : Int) - 1 = ((k - 1 : Nat) : Int) := by omega
        refine HT.draw [.batch [0, 1, 2, 3, 4, 5, 6, 7, 8, 9, 10, 11, 12, 13]] (by kernel_rfl) ?_   -- R11
        simp (disch := first | omega | (simp <;> omega) | fail) [wrap_i64, wrap_u64, wrap_u8', bytes3_length, hk1]
        refine HT.cond' ?_   -- if 47
        simp (disch := first | omega | (simp <;> omega) | fail) [wrap_i64, wrap_u64, wrap_u8', bytes3_length]
        refine HT.skip ?_
        simp (disch := first | omega | (simp <;> omega) | fail) [wrap_i64, wrap_u64, wrap_u8', bytes3_length]
        refine HT.region ?_   -- R9
        simp (disch := first | omega | (simp <;> omega) | fail) [wrap_i64, wrap_u64, wrap_u8', bytes3_length]
        refine Round.mk' (⟨k + 1, by omega⟩) (by dsimp only; omega) rfl ?_
        simp (disch := first | omega | (simp <;> omega) | fail) [wrap_i64, wrap_u64, wrap_u8', bytes3_length, take_mem hk', c1]
      refine HT.region ?_   -- R10
      simp (disch := first | omega | (simp <;> omega) | fail) [wrap_i64, wrap_u64, wrap_u8', bytes3_length, c1]
      refine HT.seq ?_
      by_cases c2 : k = 0
      · skip
        refine HT.draw [.batch [0, 1, 2, 3, 4, 5, 6, 7, 8, 9, 10, 11, 12, 13]] (by kernel_rfl) ?_   -- R11
        simp (disch := first | omega | (simp <;> omega) | fail) [wrap_i64, wrap_u64, wrap_u8', bytes3_length]
        refine HT.cond' ?_   -- if 47
        simp (disch := first | omega | (simp <;> omega) | fail) [wrap_i64, wrap_u64, wrap_u8', bytes3_length]
        refine HT.skip ?_
        simp (disch := first | omega | (simp <;> omega) | fail) [wrap_i64, wrap_u64, wrap_u8', bytes3_length]
        refine HT.region ?_   -- R9
        simp (disch := first | omega | (simp <;> omega) | fail) [wrap_i64, wrap_u64, wrap_u8', bytes3_length]
        refine Round.mk' (⟨k + 1, by omega⟩) (by dsimp only; omega) rfl ?_
        simp (disch := first | omega | (simp <;> omega) | fail) [wrap_i64, wrap_u64, wrap_u8', bytes3_length, take_mem hk', c1]
      have hlt := inc_bef hinc hk' c2
      have hk1 : (k : Int) - 1 = ((k - 1 : Nat) : Int) := by omega
      refine HT.draw [.batch [0, 1, 2, 3, 4, 5, 6, 7, 8, 9, 10, 11, 12, 13]] (by kernel_rfl) ?_   -- R11
      simp (disch := first | omega | (simp <;> omega) | fail) [wrap_i64, wrap_u64, wrap_u8', bytes3_length, hk1]
      refine HT.cond' ?_   -- if 47
      simp (disch := first | omega | (simp <;> omega) | fail) [wrap_i64, wrap_u64, wrap_u8', bytes3_length]
      refine HT.skip ?_
      simp (disch := first | omega | (simp <;> omega) | fail) [wrap_i64, wrap_u64, wrap_u8', bytes3_length]
      refine HT.region ?_   -- R9
      simp (disch := first | omega | (simp <;> omega) | fail) [wrap_i64, wrap_u64, wrap_u8', bytes3_length]
      refine Round.mk' (⟨k + 1, by omega⟩) (by dsimp only; omega) rfl ?_
      simp (disch := first | omega | (simp <;> omega) | fail) [wrap_i64, wrap_u64, wrap_u8', bytes3_length, take_mem hk', c1]
    · skip
      obtain rfl : k = (ofV s).length := by omega
      rw [List.take_length]
      refine HT.exit ?_
      simp (disch := first | omega | (simp <;> omega) | fail) [wrap_i64, wrap_u64, wrap_u8', bytes3_length]
      refine HT.seq ?_
      by_cases c3 : ¬ (0 ≤ n ∧ n < 16777216)
      · skip
        refine HT.region ?_   -- R13
        simp (disch := first | omega | (simp <;> omega) | fail) [wrap_i64, wrap_u64, wrap_u8', bytes3_length, (str_no c3).1, (str_no c3).2]
        refine stepK.mk (.callT _ _ _ _ rfl Ty.hb33 rfl (String_spec n) rfl rfl) ?_
        simp (disch := first | omega | (simp <;> omega) | fail) [wrap_i64, wrap_u64, wrap_u8', bytes3_length, (str_no c3).1, (str_no c3).2]
        refine HT.seq ?_
        refine HT.region ?_   -- R14
        simp (disch := first | omega | (simp <;> omega) | fail) [wrap_i64, wrap_u64, wrap_u8', bytes3_length]
        refine HT.seq ?_
        refine HT.seq ?_
        refine HT.region ?_   -- R15
        simp (disch := first | omega | (simp <;> omega) | fail) [wrap_i64, wrap_u64, wrap_u8', bytes3_length]
        refine HT.cond' ?_   -- if 58
        simp (disch := first | omega | (simp <;> omega) | fail) [wrap_i64, wrap_u64, wrap_u8', bytes3_length]
        refine HT.skip ?_
        simp (disch := first | omega | (simp <;> omega) | fail) [wrap_i64, wrap_u64, wrap_u8', bytes3_length]
        refine HT.seq ?_
        refine HT.region ?_   -- R20
        simp (disch := first | omega | (simp <;> omega) | fail) [wrap_i64, wrap_u64, wrap_u8', bytes3_length]
        refine HT.ret ?_
        first | (simp (disch := first | omega | (simp <;> omega) | fail) [wrap_i64, wrap_u64, wrap_u8', bytes3_length, seen_all]; done) | (simp (disch := first | omega | (simp <;> omega) | fail) [wrap_i64, wrap_u64, wrap_u8', bytes3_length, show ¬ n ∈ ofV s from fun h => c3 (ofV_range h)])
      rw [Classical.not_not] at c3
      refine HT.region ?_   -- R13
      simp (disch := first | omega | (simp <;> omega) | fail) [wrap_i64, wrap_u64, wrap_u8', bytes3_length, (str_yes c3).1, (str_yes c3).2, bytes3_length]
      refine stepK.mk (.callT _ _ _ _ rfl Ty.hb33 rfl (String_spec n) rfl rfl) ?_
      simp (disch := first | omega | (simp <;> omega) | fail) [wrap_i64, wrap_u64, wrap_u8', bytes3_length, (str_yes c3).1, (str_yes c3).2, bytes3_length]
      refine HT.seq ?_
      refine HT.region ?_   -- R14
      simp (disch := first | omega | (simp <;> omega) | fail) [wrap_i64, wrap_u64, wrap_u8', bytes3_length]
      refine HT.seq ?_
      refine HT.seq ?_
      refine HT.region ?_   -- R15
      simp (disch := first | omega | (simp <;> omega) | fail) [wrap_i64, wrap_u64, wrap_u8', bytes3_length]
      refine HT.cond' ?_   -- if 58
      simp (disch := first | omega | (simp <;> omega) | fail) [wrap_i64, wrap_u64, wrap_u8', bytes3_length]
      refine HT.seq ?_
      refine HT.region ?_   -- R16
      simp (disch := first | omega | (simp <;> omega) | fail) [wrap_i64, wrap_u64, wrap_u8', bytes3_length]
      refine HT.block ?_
      refine HT.loopK (fun j : {j : Nat // j ≤ s.length - 2} => [.s 11 (i64 j), .s 10 (bo (seen s n j))]) [0, 6, 8] [] (fun j => s.length - j) (⟨0, by omega⟩) ?_ ?_   -- block 2 turned [10, 11, 68, 69, 70, 71]
      · simp (disch := first | omega | (simp <;> omega) | fail) [wrap_i64, wrap_u64, wrap_u8', bytes3_length, seen]
      rintro ⟨j, hj⟩
      simp (disch := first | omega | (simp <;> omega) | fail) [wrap_i64, wrap_u64, wrap_u8', bytes3_length]
      refine HT.seq ?_
      refine HT.seq ?_
      refine HT.region ?_   -- R17
      simp (disch := first | omega | (simp <;> omega) | fail) [wrap_i64, wrap_u64, wrap_u8', bytes3_length]
      refine HT.cond' ?_   -- if 63
      simp (disch := first | omega | (simp <;> omega) | fail) [wrap_i64, wrap_u64, wrap_u8', bytes3_length]
      refine ⟨fun h63 => ?_, fun h63 => ?_⟩
      · skip
        have hj' : j + 2 < s.length := by omega
        refine HT.skip ?_
        simp (disch := first | omega | (simp <;> omega) | fail) [wrap_i64, wrap_u64, wrap_u8', bytes3_length]
        refine HT.seq ?_
        refine HT.block ?_
        by_cases c4 : seen s n j = true
        · skip
          refine HT.region ?_   -- R19
          simp (disch := first | omega | (simp <;> omega) | fail) [wrap_i64, wrap_u64, wrap_u8', bytes3_length, c4]
          refine HT.region ?_   -- R18
          simp (disch := first | omega | (simp <;> omega) | fail) [wrap_i64, wrap_u64, wrap_u8', bytes3_length]
          refine Round.mk' (⟨j + 1, by omega⟩) (by dsimp only; omega) rfl ?_
          simp (disch := first | omega | (simp <;> omega) | fail) [wrap_i64, wrap_u64, wrap_u8', bytes3_length, seen_succ, c4]
        refine HT.region ?_   -- R19
        simp (disch := first | omega | (simp <;> omega) | fail) [wrap_i64, wrap_u64, wrap_u8', bytes3_length, c4]
        refine stepK.mk (.call1 _ _ _ _ rfl Ty.hb42 rfl (begins3_spec s j n c3 hj' (by omega)) rfl rfl) ?_
        simp (disch := first | omega | (simp <;> omega) | fail) [wrap_i64, wrap_u64, wrap_u8', bytes3_length, c4]
        refine HT.region ?_   -- R18
        simp (disch := first | omega | (simp <;> omega) | fail) [wrap_i64, wrap_u64, wrap_u8', bytes3_length]
        refine Round.mk' (⟨j + 1, by omega⟩) (by dsimp only; omega) rfl ?_
        simp (disch := first | omega | (simp <;> omega) | fail) [wrap_i64, wrap_u64, wrap_u8', bytes3_length, seen_succ, c4]
      · skip
        obtain rfl : j = s.length - 2 := by omega
        refine HT.exit ?_
        simp (disch := first | omega | (simp <;> omega) | fail) [wrap_i64, wrap_u64, wrap_u8', bytes3_length]
        refine HT.seq ?_
        refine HT.region ?_   -- R20
        simp (disch := first | omega | (simp <;> omega) | fail) [wrap_i64, wrap_u64, wrap_u8', bytes3_length]
        refine HT.ret ?_
        first | (simp (disch := first | omega | (simp <;> omega) | fail) [wrap_i64, wrap_u64, wrap_u8', bytes3_length, seen_all]; done) | (simp (disch := first | omega | (simp <;> omega) | fail) [wrap_i64, wrap_u64, wrap_u8', bytes3_length, show ¬ n ∈ ofV s from fun h => c3 (ofV_range h)])
end Go.Hv
set_option linter.unusedVariables false
set_option linter.unusedSimpArgs false
namespace Go.Hv
open Go Go.Hv Go.Proofs
open Go.Proofs.Ytphohigoehpkeaa
def cnt (l : List Gram) (k : Nat) : Nat := ((l.take k).map fun g => g.off.length).sum
theorem cnt_succ {l : List Gram} {k : Nat} (hk : k < l.length) : cnt l (k + 1) = cnt l k + l[k].off.length := by
  unfold cnt; rw [List.take_succ_eq_append_getElem hk, List.map_append, List.sum_append]; simp only [List.map_cons, List.map_nil, List.sum_cons, List.sum_nil, Nat.add_zero]
theorem part_count (f : Nat → Int) (xs : List Nat) : ∀ (ks : List Int), ks.Nodup → (ks.map fun c => (xs.filter fun i => decide (f i = c)).length).sum = (xs.filter fun i => decide (f i ∈ ks)).length := by
  intro ks
  induction ks with
  | nil => intro _; rw [List.filter_eq_nil_iff.2 (fun _ _ => by simp)]; rfl
  | cons c ks ih =>
    intro hn
    rw [List.nodup_cons] at hn
    rw [List.map_cons, List.sum_cons, ih hn.2]
    clear ih
    induction xs with
    | nil => rfl
    | cons x xs ih =>
      have e : ∀ (p : Nat → Bool), ((x :: xs).filter p).length = (if p x = true then 1 else 0) + (xs.filter p).length := fun p => by
        rw [List.filter_cons]
        split
        · simp; omega
        · simp
      rw [e, e, e]
      by_cases h1 : f x = c
      · have h2 : ¬ f x ∈ ks := by rw [h1]; exact hn.1
        have h3 : f x ∈ c :: ks := by rw [h1]; simp
        rw [if_pos (decide_eq_true h1), if_neg (by simpa using h2), if_pos (decide_eq_true h3)]
        omega
      · by_cases h2 : f x ∈ ks
        · have h3 : f x ∈ c :: ks := List.mem_cons_of_mem _ h2
          rw [if_neg (by simpa using h1), if_pos (decide_eq_true h2), if_pos (decide_eq_true h3)]
          omega
        · have h3 : ¬ f x ∈ c :: ks := by simp [h1, h2]
          rw [if_neg (by simpa using h1), if_neg (by simpa using h2), if_neg (by simpa using h3)]
          omega
theorem filter_all {α : Type} (p : α → Bool) : ∀ (l : List α), (∀ x ∈ l, p x = true) → l.filter p = l := fun l h => List.filter_eq_self.2 h
theorem cnt_all (s : List UInt8) : cnt (gramsV s) (gramsV s).length = s.length - 2 := by
  unfold cnt
  rw [List.take_length]
  have h := part_count (codeAt s) (List.range (s.length - 2)) (ofV s) (ofK_nodup s _)
  rw [filter_all _ _ (fun i hi => by
    rw [decide_eq_true_iff]
    exact (ofV_mem s _).2 ⟨i, by simpa using hi, rfl⟩), List.length_range] at h
  rw [← h]
  congr 1
  simp [gramsV, offK]
theorem cnt_le (s : List UInt8) {k : Nat} (hk : k ≤ (gramsV s).length) : cnt (gramsV s) k ≤ s.length - 2 := by
  rw [← cnt_all s]
  unfold cnt
  rw [List.take_length]
  have := List.take_append_drop k (gramsV s)
  conv => rhs; rw [← this]
  rw [List.map_append, List.sum_append]; omega
theorem offK_inc (s : List UInt8) (m : Nat) (c : Int) : Inc (offK s m c) := by
  unfold offK Inc
  rw [List.pairwise_map]
  exact (List.pairwise_lt_range.filter _).imp fun h => by omega
theorem offK_mem {s : List UInt8} {m : Nat} {c x : Int} (h : x ∈ offK s m c) : ∃ i : Nat, i < m ∧ codeAt s i = c ∧ x = (i : Int) := by
  unfold offK at h
  obtain ⟨i, hi, rfl⟩ := List.mem_map.1 h
  rw [List.mem_filter] at hi
  exact ⟨i, by simpa using hi.1, by simpa using hi.2, rfl⟩
/-- What one of the grams is. -/
theorem gram_at (s : List UInt8) {k : Nat} (hk : k < (gramsV s).length) : (0 ≤ (gramsV s)[k].code ∧ (gramsV s)[k].code < 16777216) ∧ Inc (gramsV s)[k].off ∧ (gramsV s)[k].off ≠ [] ∧ (gramsV s)[k].off.length ≤ s.length - 2 ∧
    ∀ x ∈ (gramsV s)[k].off, ∃ i : Nat, i < s.length - 2 ∧ codeAt s i = (gramsV s)[k].code ∧ x = (i : Int) := by
  have hm := List.getElem_mem hk
  generalize (gramsV s)[k] = g at hm
  obtain ⟨c, hc, rfl⟩ := List.mem_map.1 hm
  refine ⟨ofV_range hc, offK_inc _ _ _, ?_, offK_length _ _ _, fun x hx => offK_mem hx⟩
  obtain ⟨i, hi, he⟩ := (ofV_mem s c).1 hc
  have : (i : Int) ∈ offK s (s.length - 2) c := by
    unfold offK
    exact List.mem_map.2 ⟨i, List.mem_filter.2 ⟨by simpa using hi, by simpa using he⟩, rfl⟩
  intro h0
  change offK s (s.length - 2) c = [] at h0
  rw [h0] at this
  cases this
set_option maxHeartbeats 4000000 in
set_option maxRecDepth 20000 in
theorem offsets_spec (s : List UInt8) (hs0 : s.length ≤ 140737488355328) : Spec1 Try.prog 13 [.str s] (bo true) := by
  have hol := ofV_length s
  have hgl := gramsV_length s
  have hca := cnt_all s
  refine Spec1.of_HT Try.func13 rfl (by rw [Try.ntmps13]; simp) rfl ?_
  rw [Try.ntmps13]
  refine HT.seq ?_
  refine HT.region ?_   -- R0
  simp (disch := first | omega | (simp <;> omega) | fail) [wrap_i64, wrap_u64, wrap_u8', bytes3_length]
  refine HT.seq ?_
  refine HT.seq ?_
  refine HT.region ?_   -- R1
  simp (disch := first | omega | (simp <;> omega) | fail) [wrap_i64, wrap_u64, wrap_u8', bytes3_length]
  refine stepK.mk (.call1 _ _ _ _ rfl Ty.hb30 rfl (alive_spec) rfl rfl) ?_
  simp (disch := first | omega | (simp <;> omega) | fail) [wrap_i64, wrap_u64, wrap_u8', bytes3_length]
  refine HT.cond' ?_   -- if 10
  simp (disch := first | omega | (simp <;> omega) | fail) [wrap_i64, wrap_u64, wrap_u8', bytes3_length]
  refine HT.skip ?_
  simp (disch := first | omega | (simp <;> omega) | fail) [wrap_i64, wrap_u64, wrap_u8', bytes3_length]
  refine HT.seq ?_
  refine HT.seq ?_
  refine HT.region ?_   -- R3
  simp (disch := first | omega | (simp <;> omega) | fail) [wrap_i64, wrap_u64, wrap_u8', bytes3_length]
  refine HT.cond' ?_   -- if 13
  simp (disch := first | omega | (simp <;> omega) | fail) [wrap_i64, wrap_u64, wrap_u8', bytes3_length]
  refine ⟨fun h13 => ?_, fun h13 => ?_⟩
  · skip
    refine HT.seq ?_
    refine HT.region ?_   -- R4
    simp (disch := first | omega | (simp <;> omega) | fail) [wrap_i64, wrap_u64, wrap_u8', bytes3_length]
    refine HT.ret ?_
    simp (disch := first | omega | (simp <;> omega) | fail) [wrap_i64, wrap_u64, wrap_u8', bytes3_length, hca]
  · skip
    have hs : s.length ≤ 900000 := by omega
    refine HT.skip ?_
    simp (disch := first | omega | (simp <;> omega) | fail) [wrap_i64, wrap_u64, wrap_u8', bytes3_length]
    refine HT.seq ?_
    refine HT.region ?_   -- R5
    simp (disch := first | omega | (simp <;> omega) | fail) [wrap_i64, wrap_u64, wrap_u8', bytes3_length]
    refine stepK.mk (.call1f _ _ _ _ _ rfl Ty.hb38 rfl rfl (Grams_spec s hs) rfl) ?_
    simp (disch := first | omega | (simp <;> omega) | fail) [wrap_i64, wrap_u64, wrap_u8', bytes3_length]
    refine HT.seq ?_
    refine HT.region ?_   -- R6
    simp (disch := first | omega | (simp <;> omega) | fail) [wrap_i64, wrap_u64, wrap_u8', bytes3_length]
    refine HT.seq ?_
    refine HT.seq ?_
    refine HT.region ?_   -- R7
    simp (disch := first | omega | (simp <;> omega) | fail) [wrap_i64, wrap_u64, wrap_u8', bytes3_length]
    refine HT.block ?_
    refine HT.loopK (fun k : {k : Nat // k ≤ (gramsV s).length} => [.s 5 (i64 k), .s 4 (i64 (cnt (gramsV s) k))]) [0, 3] [] (fun k => (gramsV s).length - k) (⟨0, by omega⟩) ?_ ?_   -- block 0 turned [4, 5, 34, 35, 36, 39, 40, 41, 42, 43, 44, 45, 70, 71, 72, 73, 74, 75, 76, 77, 78, 79, 80, 81, 82, 83, 84, 85, 86, 87, 88, 89, 90, 91]
    · simp (disch := first | omega | (simp <;> omega) | fail) [wrap_i64, wrap_u64, wrap_u8', bytes3_length, cnt]
    rintro ⟨k, hk⟩
    simp (disch := first | omega | (simp <;> omega) | fail) [wrap_i64, wrap_u64, wrap_u8', bytes3_length]
    refine HT.seq ?_
    refine HT.seq ?_
    refine HT.region ?_   -- R8
    simp (disch := first | omega | (simp <;> omega) | fail) [wrap_i64, wrap_u64, wrap_u8', bytes3_length]
    refine HT.cond' ?_   -- if 19
    simp (disch := first | omega | (simp <;> omega) | fail) [wrap_i64, wrap_u64, wrap_u8', bytes3_length]
    refine ⟨fun h19 => ?_, fun h19 => ?_⟩
    · skip
      have hk' : k < (gramsV s).length := by omega
      obtain ⟨gr, gi, gn, gl, gm⟩ := gram_at s hk'
      have hck := cnt_le s (Nat.le_of_lt hk')
      have hck1 := cnt_le s (show k + 1 ≤ (gramsV s).length from hk')
      rw [cnt_succ hk'] at hck1
      refine HT.skip ?_
      simp (disch := first | omega | (simp <;> omega) | fail) [wrap_i64, wrap_u64, wrap_u8', bytes3_length]
      refine HT.seq ?_
      refine HT.block ?_
      refine HT.seq ?_
      refine HT.region ?_   -- R10
      simp (disch := first | omega | (simp <;> omega) | fail) [wrap_i64, wrap_u64, wrap_u8', bytes3_length, (str_yes gr).1, (str_yes gr).2]
      refine stepK.mk (.callT _ _ _ _ rfl Ty.hb33 rfl (String_spec (gramsV s)[k].code) rfl rfl) ?_
      simp (disch := first | omega | (simp <;> omega) | fail) [wrap_i64, wrap_u64, wrap_u8', bytes3_length, (str_yes gr).1, (str_yes gr).2]
      refine HT.seq ?_
      refine HT.seq ?_
      refine HT.region ?_   -- R11
      simp (disch := first | omega | (simp <;> omega) | fail) [wrap_i64, wrap_u64, wrap_u8', bytes3_length, gn]
      refine HT.cond' ?_   -- if 46
      simp (disch := first | omega | (simp <;> omega) | fail) [wrap_i64, wrap_u64, wrap_u8', bytes3_length]
      refine HT.skip ?_
      simp (disch := first | omega | (simp <;> omega) | fail) [wrap_i64, wrap_u64, wrap_u8', bytes3_length]
      refine HT.seq ?_
      refine HT.region ?_   -- R13
      simp (disch := first | omega | (simp <;> omega) | fail) [wrap_i64, wrap_u64, wrap_u8', bytes3_length]
      refine HT.block ?_
      refine HT.loopK (fun j : {j : Nat // j ≤ (gramsV s)[k].off.length} => [.s 8 (i64 j), .s 4 (i64 ((cnt (gramsV s) k + j : Nat)))]) [0, 3, 5, 6, 34, 35, 36, 39, 40, 41, 42, 43, 44, 45] [] (fun j => (gramsV s)[k].off.length - j) (⟨0, by omega⟩) ?_ ?_   -- block 2 turned [4, 8, 70, 71, 72, 73, 74, 75, 76, 77, 78, 79, 80, 81, 82, 83, 84, 85, 86, 87, 88, 89, 90, 91]
      · simp (disch := first | omega | (simp <;> omega) | fail) [wrap_i64, wrap_u64, wrap_u8', bytes3_length]
      rintro ⟨j, hj⟩
      simp (disch := first | omega | (simp <;> omega) | fail) [wrap_i64, wrap_u64, wrap_u8', bytes3_length]
      refine HT.seq ?_
      refine HT.seq ?_
      refine HT.region ?_   -- R14
      simp (disch := first | omega | (simp <;> omega) | fail) [wrap_i64, wrap_u64, wrap_u8', bytes3_length]
      refine HT.cond' ?_   -- if 54
      simp (disch := first | omega | (simp <;> omega) | fail) [wrap_i64, wrap_u64, wrap_u8', bytes3_length]
      refine ⟨fun h54 => ?_, fun h54 => ?_⟩
      · skip
        have hj' : j < (gramsV s)[k].off.length := by omega
        obtain ⟨i, hi, hcode, hoff⟩ := gm _ (List.getElem_mem hj')
        refine HT.skip ?_
        simp (disch := first | omega | (simp <;> omega) | fail) [wrap_i64, wrap_u64, wrap_u8', bytes3_length]
        refine HT.seq ?_
        refine HT.block ?_
        refine HT.seq ?_
        refine HT.seq ?_
        by_cases c2 : j = 0
        · skip
          refine HT.draw [.batch [0, 1, 2, 3, 4, 5, 6, 7, 8, 9, 10, 11, 12, 13, 14, 15, 16, 17, 18, 19, 20, 21, 22, 23, 24, 25, 26, 27, 28, 29, 30, 31, 32, 33, 34, 35]] (by kernel_rfl) ?_   -- R16
          simp -dsimp (disch := first | omega | (simp <;> omega) | fail) [wrap_i64, wrap_u64, wrap_u8', bytes3_length, hoff, hcode]
          refine stepK.mk (.call1 _ _ _ rfl Ty.hb42 rfl rfl (begins3_spec s i (gramsV s)[k].code gr (by omega) (by omega))) ?_
          simp -dsimp (disch := first | omega | (simp <;> omega) | fail) [wrap_i64, wrap_u64, wrap_u8', bytes3_length, hoff, hcode]
          refine HT.cond' ?_   -- if 92
          simp (disch := first | omega | (simp <;> omega) | fail) [wrap_i64, wrap_u64, wrap_u8', bytes3_length]
          refine HT.skip ?_
          simp (disch := first | omega | (simp <;> omega) | fail) [wrap_i64, wrap_u64, wrap_u8', bytes3_length]
          refine HT.region ?_   -- R18
          simp (disch := first | omega | (simp <;> omega) | fail) [wrap_i64, wrap_u64, wrap_u8', bytes3_length]
          refine HT.region ?_   -- R15
          simp (disch := first | omega | (simp <;> omega) | fail) [wrap_i64, wrap_u64, wrap_u8', bytes3_length]
          refine Round.mk' (⟨j + 1, by omega⟩) (by dsimp only; omega) rfl ?_
          simp (disch := first | omega | (simp <;> omega) | fail) [wrap_i64, wrap_u64, wrap_u8', bytes3_length, Int.add_assoc]
        have hlt := inc_bef gi hj' c2
        have hk1 : (j : Int) - 1 = ((j - 1 : Nat) : Int) := by omega
        refine HT.draw [.batch [0, 1, 2, 3, 4, 5, 6, 7, 8, 9, 10, 11, 12, 13, 14, 15, 16, 17, 18, 19, 20, 21, 22, 23, 24, 25, 26, 27, 28, 29, 30, 31, 32, 33, 34, 35]] (by kernel_rfl) ?_   -- R16
        simp -dsimp (disch := first | omega | (simp <;> omega) | fail) [wrap_i64, wrap_u64, wrap_u8', bytes3_length, hoff, hcode, hk1]
        refine stepK.mk (.call1 _ _ _ rfl Ty.hb42 rfl rfl (begins3_spec s i (gramsV s)[k].code gr (by omega) (by omega))) ?_
        simp -dsimp (disch := first | omega | (simp <;> omega) | fail) [wrap_i64, wrap_u64, wrap_u8', bytes3_length, hoff, hcode, hk1]
        refine HT.cond' ?_   -- if 92
        simp (disch := first | omega | (simp <;> omega) | fail) [wrap_i64, wrap_u64, wrap_u8', bytes3_length]
        refine HT.skip ?_
        simp (disch := first | omega | (simp <;> omega) | fail) [wrap_i64, wrap_u64, wrap_u8', bytes3_length]
        refine HT.region ?_   -- R18
        simp (disch := first | omega | (simp <;> omega) | fail) [wrap_i64, wrap_u64, wrap_u8', bytes3_length]
        refine HT.region ?_   -- R15
        simp (disch := first | omega | (simp <;> omega) | fail) [wrap_i64, wrap_u64, wrap_u8', bytes3_length]
        refine Round.mk' (⟨j + 1, by omega⟩) (by dsimp only; omega) rfl ?_
        simp (disch := first | omega | (simp <;> omega) | fail) [wrap_i64, wrap_u64, wrap_u8', bytes3_length, Int.add_assoc]
      · skip
        obtain rfl : j = (gramsV s)[k].off.length := by omega
        refine HT.exit ?_
        simp (disch := first | omega | (simp <;> omega) | fail) [wrap_i64, wrap_u64, wrap_u8', bytes3_length]
        refine HT.region ?_   -- R9
        simp (disch := first | omega | (simp <;> omega) | fail) [wrap_i64, wrap_u64, wrap_u8', bytes3_length]
        refine Round.mk' (⟨k + 1, by omega⟩) (by dsimp only; omega) rfl ?_
        simp (disch := first | omega | (simp <;> omega) | fail) [wrap_i64, wrap_u64, wrap_u8', bytes3_length, cnt_succ hk']
    · skip
      obtain rfl : k = (gramsV s).length := by omega
      refine HT.exit ?_
      simp (disch := first | omega | (simp <;> omega) | fail) [wrap_i64, wrap_u64, wrap_u8', bytes3_length]
      refine HT.seq ?_
      refine HT.region ?_   -- R19
      simp (disch := first | omega | (simp <;> omega) | fail) [wrap_i64, wrap_u64, wrap_u8', bytes3_length]
      refine HT.ret ?_
      simp (disch := first | omega | (simp <;> omega) | fail) [wrap_i64, wrap_u64, wrap_u8', bytes3_length, hca]
end Go.Hv
set_option linter.unusedVariables false
set_option linter.unusedSimpArgs false
namespace Go.Hv
open Go Go.Hv Go.Proofs
open Go.Proofs.Ytphohigoehpkeaa
def upB (c : UInt8) : UInt8 := if 97 ≤ c ∧ c ≤ 122 then c - 32 else c
def upS (s : List UInt8) : List UInt8 := s.map upB
@[simp] theorem upS_length (s : List UInt8) : (upS s).length = s.length := by simp [upS]
theorem fold_up (c : UInt8) : foldB (upB c) = foldB c := by
  have h : ∀ n : Fin 256, foldB (upB (UInt8.ofFin n)) = foldB (UInt8.ofFin n) := by decide +kernel
  exact h c.toFin
theorem codeAt_map {s : List UInt8} (i : Nat) : codeAt (upS s) i = codeAt s i := by
  have h : ∀ j, foldB ((upS s).getD j 0) = foldB (s.getD j 0) := fun j => by
    rw [List.getD_eq_getElem?_getD, List.getD_eq_getElem?_getD]
    unfold upS
    rw [List.getElem?_map]
    cases s[j]? with
    | none => rfl
    | some c => exact fold_up c
  unfold codeAt
  rw [h, h, h]
theorem codeAt_upS (s : List UInt8) : codeAt (upS s) = codeAt s := funext fun i => codeAt_map i
theorem ofV_up (s : List UInt8) : ofV (upS s) = ofV s := by unfold ofV ofK; rw [codeAt_upS, upS_length]
theorem gramsV_up (s : List UInt8) : gramsV (upS s) = gramsV s := by unfold gramsV offK; rw [codeAt_upS, upS_length, ofV_up]
theorem codeAt_left {a b : List UInt8} {i : Nat} (h : i + 2 < a.length) : codeAt (a ++ b) i = codeAt a i := by
  unfold codeAt
  simp only [List.getD_eq_getElem?_getD]
  rw [List.getElem?_append_left (by omega), List.getElem?_append_left (by omega), List.getElem?_append_left (by omega)]
theorem codeAt_right (a b : List UInt8) (i : Nat) : codeAt (a ++ b) (a.length + i) = codeAt b i := by
  unfold codeAt
  simp only [List.getD_eq_getElem?_getD]
  rw [List.getElem?_append_right (by omega), List.getElem?_append_right (by omega), List.getElem?_append_right (by omega)]
  rw [show a.length + i - a.length = i by omega, show a.length + i + 1 - a.length = i + 1 by omega, show a.length + i + 2 - a.length = i + 2 by omega]
theorem sub_left (a b : List UInt8) : ∀ x ∈ ofV a, x ∈ ofV (a ++ b) := fun x hx => by
  obtain ⟨i, hi, rfl⟩ := (ofV_mem _ _).1 hx
  exact (ofV_mem _ _).2 ⟨i, by rw [List.length_append]; omega, codeAt_left (by omega)⟩
theorem sub_right (a b : List UInt8) : ∀ x ∈ ofV b, x ∈ ofV (a ++ b) := fun x hx => by
  obtain ⟨i, hi, rfl⟩ := (ofV_mem _ _).1 hx
  exact (ofV_mem _ _).2 ⟨a.length + i, by rw [List.length_append]; omega, codeAt_right a b i⟩
theorem two_of {l : List Int} {x y : Int} (hn : l.Nodup) (h : ∀ z ∈ l, z = x ∨ z = y) : l.length ≤ 2 := by
  match l with
  | [] => simp
  | [_] => simp
  | [_, _] => simp
  | p :: q :: r :: t =>
    simp only [List.nodup_cons, List.mem_cons, not_or] at hn
    have h1 := h p (by simp); have h2 := h q (by simp); have h3 := h r (by simp)
    omega
theorem outs_two (a b : List UInt8) : (outs (ofV (a ++ b)) (ofV a) (ofV b)).length ≤ 2 := by
  refine two_of (x := codeAt (a ++ b) (a.length - 2)) (y := codeAt (a ++ b) (a.length - 1)) ((ofK_nodup _ _).filter _) fun z hz => ?_
  unfold outs at hz
  rw [List.mem_filter] at hz
  obtain ⟨h1, h2⟩ := hz
  obtain ⟨h2, h3⟩ := of_decide_eq_true h2
  obtain ⟨i, hi, rfl⟩ := (ofV_mem _ _).1 h1
  rw [List.length_append] at hi
  by_cases c1 : i + 2 < a.length
  · exact absurd ((ofV_mem _ _).2 ⟨i, by omega, (codeAt_left c1).symm⟩) h2
  by_cases c2 : a.length ≤ i
  · exact absurd ((ofV_mem _ _).2 ⟨i - a.length, by omega, by
      have := codeAt_right a b (i - a.length)
      rw [show a.length + (i - a.length) = i by omega] at this
      exact this.symm⟩) h3
  by_cases c3 : i = a.length - 2
  · exact .inl (by rw [c3])
  · exact .inr (by rw [show i = a.length - 1 by omega])
theorem upB_lo {c : UInt8} (h : (c.toNat : Int) < 97) : upB c = c := by
  unfold upB; rw [if_neg]; rintro ⟨h1, _⟩
  have := UInt8.le_iff_toNat_le.1 h1; simp at this; omega
theorem upB_hi {c : UInt8} (h : 122 < (c.toNat : Int)) : upB c = c := by
  unfold upB; rw [if_neg]; rintro ⟨_, h1⟩
  have := UInt8.le_iff_toNat_le.1 h1; simp at this; omega
theorem upB_mid {c : UInt8} (h : ¬ (c.toNat : Int) < 97) (h2 : ¬ 122 < (c.toNat : Int)) : ((upB c).toNat : Int) = c.toNat - 32 := by
  unfold upB
  rw [if_pos ⟨UInt8.le_iff_toNat_le.2 (by simp; omega), UInt8.le_iff_toNat_le.2 (by simp; omega)⟩]
  rw [UInt8.toNat_sub_of_le _ _ (UInt8.le_iff_toNat_le.2 (by simp; omega))]
  simp; omega
theorem upS_take {s : List UInt8} {k : Nat} (hk : k < s.length) : upS (s.take (k + 1)) = upS (s.take k) ++ [upB s[k]] := by
  unfold upS; rw [List.take_succ_eq_append_getElem hk, List.map_append]; rfl
theorem unb1 (c : UInt8) : unbytes [[HV.lit (Value.int IntKind.u8 (c.toNat : Int))]] = some [c] := by
  have := c.toNat_lt
  simp [unbytes]; omega
theorem outs_two' (a b : List UInt8) : ((outs (ofV (a ++ b)) (ofV a) (ofV b)).length : Int) ≤ 2 := by have := outs_two a b; omega
theorem within_l (a b : List UInt8) : (∀ x ∈ ofV a, x ∈ ofV (a ++ b)) = True := eq_true (sub_left a b)
theorem within_r (a b : List UInt8) : (∀ x ∈ ofV b, x ∈ ofV (a ++ b)) = True := eq_true (sub_right a b)
set_option maxHeartbeats 4000000 in
set_option maxRecDepth 20000 in
theorem folds_spec (a b : List UInt8) (ha0 : a.length ≤ 140737488355328) (hb0 : b.length ≤ 140737488355328) : Spec1 Try.prog 14 [.str a, .str b] (bo true) := by
  have hoa := ofV_length a
  have hob := ofV_length b
  have hoc := ofV_length (a ++ b)
  rw [List.length_append] at hoc
  have hga := gramsV_length a
  refine Spec1.of_HT Try.func14 rfl (by rw [Try.ntmps14]; simp) rfl ?_
  rw [Try.ntmps14]
  refine HT.seq ?_
  refine HT.region ?_   -- R0
  simp (disch := first | omega | (simp <;> omega) | fail) [wrap_i64, wrap_u64, wrap_u8']
  refine HT.seq ?_
  refine HT.seq ?_
  refine HT.region ?_   -- R1
  simp (disch := first | omega | (simp <;> omega) | fail) [wrap_i64, wrap_u64, wrap_u8']
  refine stepK.mk (.call1 _ _ _ _ rfl Ty.hb30 rfl (alive_spec) rfl rfl) ?_
  simp (disch := first | omega | (simp <;> omega) | fail) [wrap_i64, wrap_u64, wrap_u8']
  refine HT.cond' ?_   -- if 12
  simp (disch := first | omega | (simp <;> omega) | fail) [wrap_i64, wrap_u64, wrap_u8']
  refine HT.skip ?_
  simp (disch := first | omega | (simp <;> omega) | fail) [wrap_i64, wrap_u64, wrap_u8']
  refine HT.seq ?_
  refine HT.seq ?_
  by_cases ca : (a.length : Int) > 1000
  · skip
    refine HT.region ?_   -- R3
    simp (disch := first | omega | (simp <;> omega) | fail) [wrap_i64, wrap_u64, wrap_u8']
    refine HT.cond' ?_   -- if 20
    simp (disch := first | omega | (simp <;> omega) | fail) [wrap_i64, wrap_u64, wrap_u8']
    refine HT.seq ?_
    refine HT.region ?_   -- R4
    simp (disch := first | omega | (simp <;> omega) | fail) [wrap_i64, wrap_u64, wrap_u8']
    refine HT.ret ?_
    simp (disch := first | omega | (simp <;> omega) | fail) [wrap_i64, wrap_u64, wrap_u8']
  by_cases cb : (b.length : Int) > 1000
  · skip
    refine HT.region ?_   -- R3
    simp (disch := first | omega | (simp <;> omega) | fail) [wrap_i64, wrap_u64, wrap_u8']
    refine HT.cond' ?_   -- if 20
    simp (disch := first | omega | (simp <;> omega) | fail) [wrap_i64, wrap_u64, wrap_u8']
    refine HT.seq ?_
    refine HT.region ?_   -- R4
    simp (disch := first | omega | (simp <;> omega) | fail) [wrap_i64, wrap_u64, wrap_u8']
    refine HT.ret ?_
    simp (disch := first | omega | (simp <;> omega) | fail) [wrap_i64, wrap_u64, wrap_u8']
  have ha : a.length ≤ 1000 := by omega
  have hb : b.length ≤ 1000 := by omega
  refine HT.region ?_   -- R3
  simp (disch := first | omega | (simp <;> omega) | fail) [wrap_i64, wrap_u64, wrap_u8']
  refine HT.cond' ?_   -- if 20
  simp (disch := first | omega | (simp <;> omega) | fail) [wrap_i64, wrap_u64, wrap_u8']
  refine HT.skip ?_
  simp (disch := first | omega | (simp <;> omega) | fail) [wrap_i64, wrap_u64, wrap_u8']
  refine HT.seq ?_
  refine HT.region ?_   -- R5
  simp (disch := first | omega | (simp <;> omega) | fail) [wrap_i64, wrap_u64, wrap_u8']
  refine HT.seq ?_
  refine HT.seq ?_
  refine HT.region ?_   -- R6
  simp (disch := first | omega | (simp <;> omega) | fail) [wrap_i64, wrap_u64, wrap_u8']
  refine HT.block ?_
  refine HT.loopK (fun k : {k : Nat // k ≤ a.length} => [.s 6 (i64 k), .s 5 (.str (upS (a.take k)))]) [0, 1, 57, 58, 59, 60, 61, 62, 68, 69, 70, 73, 74, 75, 76, 77] [] (fun k => a.length - k) (⟨0, by omega⟩) ?_ ?_   -- block 0 turned [5, 6, 33, 34]
  · simp (disch := first | omega | (simp <;> omega) | fail) [wrap_i64, wrap_u64, wrap_u8', upS]
  rintro ⟨k, hk⟩
  simp (disch := first | omega | (simp <;> omega) | fail) [wrap_i64, wrap_u64, wrap_u8']
  refine HT.seq ?_
  refine HT.seq ?_
  refine HT.region ?_   -- R7
  simp (disch := first | omega | (simp <;> omega) | fail) [wrap_i64, wrap_u64, wrap_u8']
  refine HT.cond' ?_   -- if 24
  simp (disch := first | omega | (simp <;> omega) | fail) [wrap_i64, wrap_u64, wrap_u8']
  refine ⟨fun h24 => ?_, fun h24 => ?_⟩
  · skip
    have hk' : k < a.length := by omega
    refine HT.skip ?_
    simp (disch := first | omega | (simp <;> omega) | fail) [wrap_i64, wrap_u64, wrap_u8']
    refine HT.seq ?_
    refine HT.block ?_
    refine HT.seq ?_
    refine HT.region ?_   -- R9
    simp (disch := first | omega | (simp <;> omega) | fail) [wrap_i64, wrap_u64, wrap_u8']
    refine HT.seq ?_
    refine HT.seq ?_
    by_cases c1 : (a[k].toNat : Int) < 97
    · skip
      refine HT.region ?_   -- R10
      simp (disch := first | omega | (simp <;> omega) | fail) [wrap_i64, wrap_u64, wrap_u8']
      refine HT.cond' ?_   -- if 35
      simp (disch := first | omega | (simp <;> omega) | fail) [wrap_i64, wrap_u64, wrap_u8']
      refine HT.skip ?_
      simp (disch := first | omega | (simp <;> omega) | fail) [wrap_i64, wrap_u64, wrap_u8']
      refine HT.region ?_   -- R12
      simp (disch := first | omega | (simp <;> omega) | fail) [wrap_i64, wrap_u64, wrap_u8', unb1]
      refine HT.region ?_   -- R8
      simp (disch := first | omega | (simp <;> omega) | fail) [wrap_i64, wrap_u64, wrap_u8']
      refine Round.mk' (⟨k + 1, by omega⟩) (by dsimp only; omega) rfl ?_
      simp (disch := first | omega | (simp <;> omega) | fail) [wrap_i64, wrap_u64, wrap_u8', upS_take hk']
      all_goals first | rw [upB_lo c1] | rw [upB_hi c2] | rfl
    by_cases c2 : 122 < (a[k].toNat : Int)
    · skip
      refine HT.region ?_   -- R10
      simp (disch := first | omega | (simp <;> omega) | fail) [wrap_i64, wrap_u64, wrap_u8']
      refine HT.cond' ?_   -- if 35
      simp (disch := first | omega | (simp <;> omega) | fail) [wrap_i64, wrap_u64, wrap_u8']
      refine HT.skip ?_
      simp (disch := first | omega | (simp <;> omega) | fail) [wrap_i64, wrap_u64, wrap_u8']
      refine HT.region ?_   -- R12
      simp (disch := first | omega | (simp <;> omega) | fail) [wrap_i64, wrap_u64, wrap_u8', unb1]
      refine HT.region ?_   -- R8
      simp (disch := first | omega | (simp <;> omega) | fail) [wrap_i64, wrap_u64, wrap_u8']
      refine Round.mk' (⟨k + 1, by omega⟩) (by dsimp only; omega) rfl ?_
      simp (disch := first | omega | (simp <;> omega) | fail) [wrap_i64, wrap_u64, wrap_u8', upS_take hk']
      all_goals first | rw [upB_lo c1] | rw [upB_hi c2] | rfl
    have hmid := (upB_mid c1 c2).symm
    have hlt := a[k].toNat_lt
    refine HT.region ?_   -- R10
    simp (disch := first | omega | (simp <;> omega) | fail) [wrap_i64, wrap_u64, wrap_u8']
    refine HT.cond' ?_   -- if 35
    simp (disch := first | omega | (simp <;> omega) | fail) [wrap_i64, wrap_u64, wrap_u8']
    refine HT.region ?_   -- R11
    simp (disch := first | omega | (simp <;> omega) | fail) [wrap_i64, wrap_u64, wrap_u8']
    rw [hmid]
    refine HT.region ?_   -- R12
    simp (disch := first | omega | (simp <;> omega) | fail) [wrap_i64, wrap_u64, wrap_u8', unb1]
    refine HT.region ?_   -- R8
    simp (disch := first | omega | (simp <;> omega) | fail) [wrap_i64, wrap_u64, wrap_u8']
    refine Round.mk' (⟨k + 1, by omega⟩) (by dsimp only; omega) rfl ?_
    simp (disch := first | omega | (simp <;> omega) | fail) [wrap_i64, wrap_u64, wrap_u8', upS_take hk']
    all_goals first | rw [upB_lo c1] | rw [upB_hi c2] | rfl
  · skip
    obtain rfl : k = a.length := by omega
    rw [List.take_length]
    refine HT.exit ?_
    simp (disch := first | omega | (simp <;> omega) | fail) [wrap_i64, wrap_u64, wrap_u8']
    refine HT.seq ?_
    refine HT.region ?_   -- R13
    simp (disch := first | omega | (simp <;> omega) | fail) [wrap_i64, wrap_u64, wrap_u8']
    refine stepK.mk (.call1f _ _ _ _ _ rfl Ty.hb29 rfl rfl (Of_spec a (by omega)) rfl) ?_
    simp (disch := first | omega | (simp <;> omega) | fail) [wrap_i64, wrap_u64, wrap_u8']
    refine stepK.mk (.call1f _ _ _ _ _ rfl Ty.hb29 rfl rfl (Of_spec b (by omega)) rfl) ?_
    simp (disch := first | omega | (simp <;> omega) | fail) [wrap_i64, wrap_u64, wrap_u8']
    refine stepK.mk (.call1f _ _ _ _ _ rfl Ty.hb29 rfl rfl (Of_spec (a ++ b) (by simp; omega)) rfl) ?_
    simp (disch := first | omega | (simp <;> omega) | fail) [wrap_i64, wrap_u64, wrap_u8']
    refine HT.seq ?_
    refine HT.seq ?_
    refine HT.region ?_   -- R14
    simp (disch := first | omega | (simp <;> omega) | fail) [wrap_i64, wrap_u64, wrap_u8', ofV_up, gramsV_up]
    refine stepK.mk (.call1f _ _ _ _ _ rfl Ty.hb29 rfl rfl (Of_spec (upS a) (by simp; omega)) rfl) ?_
    simp (disch := first | omega | (simp <;> omega) | fail) [wrap_i64, wrap_u64, wrap_u8', ofV_up, gramsV_up]
    refine stepK.mk (.call1f _ _ _ _ _ rfl Ty.hb35 rfl rfl (SameInts_spec _ _ (ofV a) (ofV a) (by omega)) rfl) ?_
    simp (disch := first | omega | (simp <;> omega) | fail) [wrap_i64, wrap_u64, wrap_u8', ofV_up, gramsV_up]
    refine stepK.mk (.call1f _ _ _ _ _ rfl Ty.hb38 rfl rfl (Grams_spec (upS a) (by simp; omega)) rfl) ?_
    simp (disch := first | omega | (simp <;> omega) | fail) [wrap_i64, wrap_u64, wrap_u8', ofV_up, gramsV_up]
    refine stepK.mk (.call1f _ _ _ _ _ rfl Ty.hb38 rfl rfl (Grams_spec a (by omega)) rfl) ?_
    simp (disch := first | omega | (simp <;> omega) | fail) [wrap_i64, wrap_u64, wrap_u8', ofV_up, gramsV_up]
    refine stepK.mk (.call1f _ _ _ _ _ rfl Ty.hb37 rfl rfl (SameGrams_spec _ _ (gramsV a) (gramsV a) (by omega) (fun x hx => by have := gramsV_off x hx; omega)) rfl) ?_
    simp (disch := first | omega | (simp <;> omega) | fail) [wrap_i64, wrap_u64, wrap_u8', ofV_up, gramsV_up]
    refine HT.cond' ?_   -- if 63
    simp (disch := first | omega | (simp <;> omega) | fail) [wrap_i64, wrap_u64, wrap_u8']
    refine HT.skip ?_
    simp (disch := first | omega | (simp <;> omega) | fail) [wrap_i64, wrap_u64, wrap_u8']
    refine HT.seq ?_
    refine HT.region ?_   -- R16
    simp (disch := first | omega | (simp <;> omega) | fail) [wrap_i64, wrap_u64, wrap_u8', within_l a b, within_r a b, outs_two' a b]
    refine stepK.mk (.call1f _ _ _ _ _ rfl Ty.hb43 rfl rfl (within_spec _ _ (ofV a) (ofV (a ++ b)) (by omega) (by omega)) rfl) ?_
    simp (disch := first | omega | (simp <;> omega) | fail) [wrap_i64, wrap_u64, wrap_u8', within_l a b, within_r a b, outs_two' a b]
    refine stepK.mk (.call1f _ _ _ _ _ rfl Ty.hb43 rfl rfl (within_spec _ _ (ofV b) (ofV (a ++ b)) (by omega) (by omega)) rfl) ?_
    simp (disch := first | omega | (simp <;> omega) | fail) [wrap_i64, wrap_u64, wrap_u8', within_l a b, within_r a b, outs_two' a b]
    refine stepK.mk (.call1f _ _ _ _ _ rfl Ty.hb44 rfl rfl (others_spec _ _ _ (ofV (a ++ b)) (ofV a) (ofV b) (by omega) (by omega) (by omega)) rfl) ?_
    simp (disch := first | omega | (simp <;> omega) | fail) [wrap_i64, wrap_u64, wrap_u8', within_l a b, within_r a b, outs_two' a b]
    refine HT.ret ?_
    simp (disch := first | omega | (simp <;> omega) | fail) [wrap_i64, wrap_u64, wrap_u8']
end Go.Hv
set_option linter.unusedVariables false
set_option linter.unusedSectionVars false
set_option linter.unusedSimpArgs false
namespace Go.Hv
open Go Go.Hv
variable [GI]
/-! ### Numbers, strings and grams that are handed in -/
@[reducible] def intsSh : ShT := .sl 1 (.int .i64)
@[reducible] def gramsSh : ShT := .sl 2 (.st [.int .i64, intsSh])
theorem map_choiceF {α β : Type} {f : β → α} {p : β → Prop} : ∀ {es : List α}, (∀ x ∈ es, ∃ d, x = f d ∧ p d) → ∃ l : List β, es = l.map f ∧ ∀ d ∈ l, p d
  | [], _ => ⟨[], rfl, by simp⟩
  | x :: r, h => by
    obtain ⟨d, rfl, hd⟩ := h x (by simp)
    obtain ⟨l, rfl, hl⟩ := map_choiceF (es := r) (f := f) (p := p) (fun y hy => h y (by simp [hy]))
    exact ⟨d :: l, rfl, fun y hy => by rcases List.mem_cons.1 hy with rfl | hy; exact hd; exact hl y hy⟩
theorem rdF_int {B : Nat} {k : IntKind} {x : List HV} (h : RdF B (.int k) x) : ∃ n, x = [.lit (.int k n)] ∧ (Lit.int k n).wf = true := by
  cases h with | int k n hw => exact ⟨n, rfl, hw⟩
theorem rdF_str {B : Nat} {x : List HV} (h : RdF B .str x) : ∃ s, x = [.str s] ∧ s.length ≤ B := by
  cases h with | str l hl => exact ⟨l, rfl, hl⟩
theorem rdF_ints {B : Nat} {x : List HV} (h : RdF B intsSh x) : ∃ l, x = [.sl 1 false (intsHV l)] ∧ l.length ≤ B ∧ ∀ n ∈ l, (Lit.int .i64 n).wf = true := by
  cases h with
  | sl sz e es hl hz h =>
    obtain ⟨on, rfl, hon⟩ := map_choiceF (f := fun n => [HV.lit (.int .i64 n)]) (p := fun n => (Lit.int .i64 n).wf = true) (fun x hx => rdF_int (h x hx))
    exact ⟨on, rfl, by simpa using hl, hon⟩
def GramB (B : Nat) (g : Gram) : Prop := g.off.length ≤ B ∧ (Lit.int .i64 g.code).wf = true ∧ ∀ n ∈ g.off, (Lit.int .i64 n).wf = true
theorem rdF_gram {B : Nat} {x : List HV} (h : RdF B (.st [.int .i64, intsSh]) x) : ∃ g : Gram, x = g.enc ∧ GramB B g := by
  cases h with
  | st fs hs h =>
    cases h with
    | cons h1 h =>
    cases h with
    | cons h2 h =>
    cases h
    obtain ⟨n, rfl, hn⟩ := rdF_int h1
    obtain ⟨l, rfl, hl, hw⟩ := rdF_ints h2
    exact ⟨⟨n, l⟩, rfl, hl, hn, hw⟩
theorem rdF_grams {B : Nat} {x : List HV} (h : RdF B gramsSh x) : ∃ l : List Gram, x = [.sl 2 false (gramsHV l)] ∧ l.length ≤ B ∧ ∀ g ∈ l, GramB B g := by
  cases h with
  | sl sz e es hl hz h =>
    obtain ⟨l, rfl, hb⟩ := map_choiceF (f := Gram.enc) (p := GramB B) (fun x hx => rdF_gram (h x hx))
    exact ⟨l, rfl, by simpa using hl, hb⟩
theorem repsF_one {w : World} {dead : Nat → Prop} {c : HV} {v : Value} (h : Reps w dead [c] [v]) : IRep w dead c v := by
  cases h with | cons h1 _ => exact h1
theorem ints_of_trodW {H : Type} {enc : TypeId × Value → H} {P : Program} {w : World} {sp : Nat → Bool} {held : Bool} {t : TypeId} {a : Option Addr} {n c : Nat} {d : DataW H} {ps : List MemPlace} {B : Nat} (hk : shOKW P intsSh t = true)
    (h : DataW.Trod enc P w 0 sp held t (.slice a n c) d ps) (hB : ∀ n ∈ d.weights P t, n ≤ B) : ∃ l : List Int, IRep w (fun _ => False) (.sl 1 false (intsHV l)) (.slice a n c) ∧ l.length ≤ B := by
  obtain ⟨hs, h1, h2⟩ := arg_of_trodW intsSh hk h hB
  obtain ⟨l, rfl, hl, _⟩ := rdF_ints h1
  exact ⟨l, repsF_one h2, hl⟩
theorem grams_of_trodW {H : Type} {enc : TypeId × Value → H} {P : Program} {w : World} {sp : Nat → Bool} {held : Bool} {t : TypeId} {a : Option Addr} {n c : Nat} {d : DataW H} {ps : List MemPlace} {B : Nat} (hk : shOKW P gramsSh t = true)
    (h : DataW.Trod enc P w 0 sp held t (.slice a n c) d ps) (hB : ∀ n ∈ d.weights P t, n ≤ B) : ∃ l : List Gram, IRep w (fun _ => False) (.sl 2 false (gramsHV l)) (.slice a n c) ∧ l.length ≤ B ∧ ∀ g ∈ l, g.off.length ≤ B := by
  obtain ⟨hs, h1, h2⟩ := arg_of_trodW gramsSh hk h hB
  obtain ⟨l, rfl, hl, hg⟩ := rdF_grams h1
  exact ⟨l, repsF_one h2, hl, fun g hm => (hg g hm).1⟩
end Go.Hv
namespace Go.Hv
open Go Go.Hv Go.Proofs
open Go.Proofs.Ytphohigoehpkeaa
theorem looks_law (l : List Gram) (c : Int) (h : l.length ≤ 140737488355328 ∧ ∀ g ∈ l, g.off.length ≤ 140737488355328) : Spec1 Try.prog 11 [.sl 2 false (gramsHV l), i64 c] (bo true) := looks_spec false l c h.1 h.2
end Go.Hv
set_option linter.unusedVariables false
set_option linter.unusedSimpArgs false
namespace Go.Hv
open Go Go.Hv Go.Proofs
open Go.Proofs.Ytphohigoehpkeaa
def fd (b : Bool) (s : List UInt8) : List UInt8 := if b then foldS s else s
@[simp] theorem fd_length (b : Bool) (s : List UInt8) : (fd b s).length = s.length := by unfold fd; split <;> simp
def occ (s t : List UInt8) (i : Nat) : Bool := decide ((s.drop i).take t.length = t)
def findK (s t : List UInt8) (k : Nat) : List Int := ((List.range k).filter (occ s t)).map fun i : Nat => (i : Int)
theorem findK_succ (s t : List UInt8) (k : Nat) : findK s t (k + 1) = findK s t k ++ if occ s t k = true then [(k : Int)] else [] := by
  unfold findK; rw [List.range_succ, List.filter_append, List.map_append]
  by_cases h : occ s t k = true <;> simp [h]
theorem findK_length (s t : List UInt8) (k : Nat) : (findK s t k).length ≤ k := by
  unfold findK; rw [List.length_map]; have := List.length_filter_le (occ s t) (List.range k); simpa using this
def findV (s t : List UInt8) : List Int := findK s t (s.length + 1 - t.length)
theorem occ_room {s t : List UInt8} {i : Nat} (h : occ s t i = true) : t = [] ∨ i + t.length ≤ s.length := by
  have := congrArg List.length (of_decide_eq_true h)
  simp at this
  by_cases e : t = []
  · exact .inl e
  · have := List.length_pos_iff.2 e
    right; omega
theorem findK_all (s t : List UInt8) : findK s t (s.length + 1) = findV s t := by
  unfold findV
  by_cases e : t = []
  · subst e; rfl
  · have hp := List.length_pos_iff.2 e
    have : ∀ m, findK s t (s.length + 1 - t.length + m) = findK s t (s.length + 1 - t.length) := fun m => by
      induction m with
      | zero => rfl
      | succ m ih =>
        rw [← Nat.add_assoc, findK_succ, ih, if_neg, List.append_nil]
        intro h
        rcases occ_room h with h | h
        · exact e h
        · omega
    by_cases hl : t.length ≤ s.length + 1
    · have := this t.length
      rw [← this]; congr 1; omega
    · have := this (s.length + 1)
      rw [← this]; congr 1; omega
theorem occ_cut (s t u : List UInt8) (k : Nat) (h : u.length = t.length) : (List.drop k (List.take (k + t.length) s) = u) = (occ s u k = true) := by
  unfold occ
  rw [decide_eq_true_iff, List.drop_take, h, Nat.add_sub_cancel_left]
theorem foldB_u8 (c : UInt8) : True := trivial
theorem folded_sp (s : List UInt8) (b : Bool) (hs : s.length ≤ 140737488355328) : Spec1 Try.prog 46 [.str s, bo b] (.str (fd b s)) := by
  refine Spec1.of_HT Try.func46 rfl (by rw [Try.ntmps46]; simp) rfl ?_
  rw [Try.ntmps46]
  refine HT.seq ?_
  refine HT.region ?_   -- R0
  simp (disch := first | omega | (simp <;> omega) | fail) [wrap_i64, wrap_u64, wrap_u8']
  refine HT.seq ?_
  refine HT.seq ?_
  refine HT.region ?_   -- R1
  simp (disch := first | omega | (simp <;> omega) | fail) [wrap_i64, wrap_u64, wrap_u8']
  refine HT.cond' ?_   -- if 5
  simp (disch := first | omega | (simp <;> omega) | fail) [wrap_i64, wrap_u64, wrap_u8']
  refine ⟨fun h5 => ?_, fun h5 => ?_⟩
  · skip
    refine HT.seq ?_
    refine HT.region ?_   -- R2
    simp (disch := first | omega | (simp <;> omega) | fail) [wrap_i64, wrap_u64, wrap_u8']
    refine stepK.mk (.call1 _ _ _ _ rfl Ty.hb67 rfl (Fold_spec s hs) rfl rfl) ?_
    simp (disch := first | omega | (simp <;> omega) | fail) [wrap_i64, wrap_u64, wrap_u8']
    refine HT.ret ?_
    simp (disch := first | omega | (simp <;> omega) | fail) [wrap_i64, wrap_u64, wrap_u8', fd, h5]
  · skip
    refine HT.skip ?_
    simp (disch := first | omega | (simp <;> omega) | fail) [wrap_i64, wrap_u64, wrap_u8']
    refine HT.seq ?_
    refine HT.region ?_   -- R3
    simp (disch := first | omega | (simp <;> omega) | fail) [wrap_i64, wrap_u64, wrap_u8']
    refine HT.ret ?_
    simp (disch := first | omega | (simp <;> omega) | fail) [wrap_i64, wrap_u64, wrap_u8', fd, h5]
set_option maxHeartbeats 1000000 in
theorem Find_spec (s t : List UInt8) (b : Bool) (hs : s.length ≤ 1000000) (ht : t.length ≤ 1000000) : Spec1 Try.prog 18 [.str s, .str t, bo b] (.sl 1 false (intsHV (findV (fd b s) (fd b t)))) := by
  refine Spec1.of_HT Try.func18 rfl (by rw [Try.ntmps18]; simp) rfl ?_
  rw [Try.ntmps18]
  refine HT.seq ?_
  refine HT.region ?_   -- R0
  simp (disch := first | omega | (simp <;> omega) | fail) [wrap_i64, wrap_u64, wrap_u8']
  refine HT.seq ?_
  refine HT.region ?_   -- R1
  simp (disch := first | omega | (simp <;> omega) | fail) [wrap_i64, wrap_u64, wrap_u8']
  refine stepK.mk (.call1 _ _ _ _ rfl Ty.hb46 rfl (folded_sp s b (by omega)) rfl rfl) ?_
  simp (disch := first | omega | (simp <;> omega) | fail) [wrap_i64, wrap_u64, wrap_u8']
  refine stepK.mk (.call1 _ _ _ _ rfl Ty.hb46 rfl (folded_sp t b (by omega)) rfl rfl) ?_
  simp (disch := first | omega | (simp <;> omega) | fail) [wrap_i64, wrap_u64, wrap_u8']
  refine HT.seq ?_
  refine HT.region ?_   -- R2
  simp (disch := first | omega | (simp <;> omega) | fail) [wrap_i64, wrap_u64, wrap_u8']
  refine HT.weaken (HS.le_own (t := 9) 200 3 1 _ (by decide) rfl (by decide)) ?_
  refine HT.seq ?_
  refine HT.seq ?_
  refine HT.region ?_   -- R3
  simp (disch := first | omega | (simp <;> omega) | fail) [wrap_i64, wrap_u64, wrap_u8']
  refine HT.block ?_
  refine HT.loopK (fun k : {k : Nat // k ≤ s.length + 1 - t.length} => [.s 10 (i64 k), .s 9 (.ref 200), .o 200 (.row 3 1 (intsHV (findK (fd b s) (fd b t) k)))]) [7, 8] [] (fun k => s.length + 1 - k) (⟨0, by omega⟩) ?_ ?_   -- block 0 turned [9, 10]
  · simp (disch := first | omega | (simp <;> omega) | fail) [wrap_i64, wrap_u64, wrap_u8', show findK (fd b s) (fd b t) 0 = [] from rfl]
  rintro ⟨k, hk⟩
  simp (disch := first | omega | (simp <;> omega) | fail) [wrap_i64, wrap_u64, wrap_u8']
  refine HT.seq ?_
  refine HT.seq ?_
  refine HT.region ?_   -- R4
  simp (disch := first | omega | (simp <;> omega) | fail) [wrap_i64, wrap_u64, wrap_u8']
  refine HT.cond' ?_   -- if 23
  simp (disch := first | omega | (simp <;> omega) | fail) [wrap_i64, wrap_u64, wrap_u8']
  refine ⟨fun h23 => ?_, fun h23 => ?_⟩
  · skip
    have hk' : k + t.length ≤ s.length := by omega
    have hb := findK_length (fd b s) (fd b t) k
    refine HT.skip ?_
    simp (disch := first | omega | (simp <;> omega) | fail) [wrap_i64, wrap_u64, wrap_u8']
    refine HT.seq ?_
    refine HT.block ?_
    refine HT.seq ?_
    by_cases c1 : occ (fd b s) (fd b t) k = true
    · skip
      refine HT.region ?_   -- R6
      simp (disch := first | omega | (simp <;> omega) | fail) [wrap_i64, wrap_u64, wrap_u8', occ_cut (fd b s) t (fd b t) k (by simp), c1]
      refine HT.cond' ?_   -- if 34
      simp (disch := first | omega | (simp <;> omega) | fail) [wrap_i64, wrap_u64, wrap_u8']
      refine HT.region ?_   -- R7
      simp (disch := first | omega | (simp <;> omega) | fail) [wrap_i64, wrap_u64, wrap_u8']
      refine HT.region ?_   -- R5
      simp (disch := first | omega | (simp <;> omega) | fail) [wrap_i64, wrap_u64, wrap_u8']
      refine Round.mk' (⟨k + 1, by omega⟩) (by dsimp only; omega) rfl ?_
      simp (disch := first | omega | (simp <;> omega) | fail) [wrap_i64, wrap_u64, wrap_u8', findK_succ, c1]
    refine HT.region ?_   -- R6
    simp (disch := first | omega | (simp <;> omega) | fail) [wrap_i64, wrap_u64, wrap_u8', occ_cut (fd b s) t (fd b t) k (by simp), c1]
    refine HT.cond' ?_   -- if 34
    simp (disch := first | omega | (simp <;> omega) | fail) [wrap_i64, wrap_u64, wrap_u8']
    refine HT.skip ?_
    simp (disch := first | omega | (simp <;> omega) | fail) [wrap_i64, wrap_u64, wrap_u8']
    refine HT.region ?_   -- R5
    simp (disch := first | omega | (simp <;> omega) | fail) [wrap_i64, wrap_u64, wrap_u8']
    refine Round.mk' (⟨k + 1, by omega⟩) (by dsimp only; omega) rfl ?_
    simp (disch := first | omega | (simp <;> omega) | fail) [wrap_i64, wrap_u64, wrap_u8', findK_succ, c1]
  · skip
    obtain rfl : k = s.length + 1 - t.length := by omega
    have e0 : findV (fd b s) (fd b t) = findK (fd b s) (fd b t) (s.length + 1 - t.length) := by simp [findV]
    refine HT.exit ?_
    simp (disch := first | omega | (simp <;> omega) | fail) [wrap_i64, wrap_u64, wrap_u8']
    refine HT.seq ?_
    refine HT.region ?_   -- R8
    simp (disch := first | omega | (simp <;> omega) | fail) [wrap_i64, wrap_u64, wrap_u8']
    refine HT.ret ?_
    simp (disch := first | omega | (simp <;> omega) | fail) [wrap_i64, wrap_u64, wrap_u8', e0]
theorem FoldByte_spec (c : UInt8) : Spec1 Try.prog 45 [u8 c] (u8 (foldB c)) := by
  refine Spec1.of_HT Try.func45 rfl (by rw [Try.ntmps45]; simp) rfl ?_
  rw [Try.ntmps45]
  refine HT.seq ?_
  refine HT.region ?_   -- R0
  simp (disch := first | omega | (simp <;> omega) | fail) [wrap_i64, wrap_u64, wrap_u8']
  refine HT.seq ?_
  refine HT.seq ?_
  by_cases c1 : (c.toNat : Int) < 65
  · skip
    refine HT.region ?_   -- R1
    simp (disch := first | omega | (simp <;> omega) | fail) [wrap_i64, wrap_u64, wrap_u8']
    refine HT.cond' ?_   -- if 8
    simp (disch := first | omega | (simp <;> omega) | fail) [wrap_i64, wrap_u64, wrap_u8']
    refine HT.skip ?_
    simp (disch := first | omega | (simp <;> omega) | fail) [wrap_i64, wrap_u64, wrap_u8']
    refine HT.seq ?_
    refine HT.region ?_   -- R3
    simp (disch := first | omega | (simp <;> omega) | fail) [wrap_i64, wrap_u64, wrap_u8']
    refine HT.ret ?_
    first | (simp (disch := first | omega | (simp <;> omega) | fail) [wrap_i64, wrap_u64, wrap_u8', foldB_lo, foldB_hi]; done) | (simp (disch := first | omega | (simp <;> omega) | fail) [wrap_i64, wrap_u64, wrap_u8', foldB_mid] <;> omega)
  by_cases c2 : 90 < (c.toNat : Int)
  · skip
    refine HT.region ?_   -- R1
    simp (disch := first | omega | (simp <;> omega) | fail) [wrap_i64, wrap_u64, wrap_u8']
    refine HT.cond' ?_   -- if 8
    simp (disch := first | omega | (simp <;> omega) | fail) [wrap_i64, wrap_u64, wrap_u8']
    refine HT.skip ?_
    simp (disch := first | omega | (simp <;> omega) | fail) [wrap_i64, wrap_u64, wrap_u8']
    refine HT.seq ?_
    refine HT.region ?_   -- R3
    simp (disch := first | omega | (simp <;> omega) | fail) [wrap_i64, wrap_u64, wrap_u8']
    refine HT.ret ?_
    first | (simp (disch := first | omega | (simp <;> omega) | fail) [wrap_i64, wrap_u64, wrap_u8', foldB_lo, foldB_hi]; done) | (simp (disch := first | omega | (simp <;> omega) | fail) [wrap_i64, wrap_u64, wrap_u8', foldB_mid] <;> omega)
  refine HT.region ?_   -- R1
  simp (disch := first | omega | (simp <;> omega) | fail) [wrap_i64, wrap_u64, wrap_u8']
  refine HT.cond' ?_   -- if 8
  simp (disch := first | omega | (simp <;> omega) | fail) [wrap_i64, wrap_u64, wrap_u8']
  refine HT.seq ?_
  refine HT.region ?_   -- R2
  simp (disch := first | omega | (simp <;> omega) | fail) [wrap_i64, wrap_u64, wrap_u8']
  refine HT.ret ?_
  first | (simp (disch := first | omega | (simp <;> omega) | fail) [wrap_i64, wrap_u64, wrap_u8', foldB_lo, foldB_hi]; done) | (simp (disch := first | omega | (simp <;> omega) | fail) [wrap_i64, wrap_u64, wrap_u8', foldB_mid] <;> omega)
def agree (b : Bool) (s t : List UInt8) (i k : Nat) : Prop := ∀ j, j < k → (fd b s)[i + j]? = (fd b t)[j]?
theorem occ_iff (s t : List UInt8) (i : Nat) : occ s t i = true ↔ (i + t.length ≤ s.length ∨ t = []) ∧ ∀ j, j < t.length → s[i + j]? = t[j]? := by
  unfold occ
  rw [decide_eq_true_iff]
  constructor
  · intro h
    refine ⟨?_, fun j hj => ?_⟩
    · have := congrArg List.length h
      simp at this
      by_cases e : t = []
      · exact .inr e
      · have := List.length_pos_iff.2 e; left; omega
    · conv => rhs; rw [← h]
      rw [List.getElem?_take_of_lt hj, List.getElem?_drop]
  · rintro ⟨h1, h2⟩
    apply List.ext_getElem?
    intro j
    by_cases hj : j < t.length
    · rw [List.getElem?_take_of_lt hj, List.getElem?_drop, h2 j hj]
    · rw [List.getElem?_eq_none (by rw [List.length_take]; omega), List.getElem?_eq_none (by omega)]
theorem fd_get (b : Bool) {s : List UInt8} {i : Nat} (h : i < s.length) : (fd b s)[i]? = some (if b then foldB s[i] else s[i]) := by
  unfold fd
  cases b <;> simp [foldS, h]
theorem agree_step {b : Bool} {s t : List UInt8} {i k : Nat} (hg : agree b s t i k) (h : (fd b s)[i + k]? = (fd b t)[k]?) : agree b s t i (k + 1) := fun j hj => by
  rcases Nat.lt_or_ge j k with h1 | h1
  · exact hg j h1
  · obtain rfl : j = k := by omega
    exact h
theorem occ_no {b : Bool} {s t : List UInt8} {i k : Nat} (hk : k < t.length) (hr : i + k < s.length) (h : ¬ (if b then foldB s[i + k] else s[i + k]) = (if b then foldB t[k] else t[k])) : occ (fd b s) (fd b t) i = false := by
  rw [Bool.eq_false_iff]
  intro h'
  have := ((occ_iff _ _ _).1 h').2 k (by simpa using hk)
  rw [fd_get b hr, fd_get b hk] at this
  exact h (Option.some.inj this)
theorem occ_yes {b : Bool} {s t : List UInt8} {i : Nat} (hr : i + t.length ≤ s.length) (h : agree b s t i t.length) : occ (fd b s) (fd b t) i = true :=
  (occ_iff _ _ _).2 ⟨.inl (by simpa using hr), fun j hj => h j (by simpa using hj)⟩
theorem occ_far {b : Bool} {s t : List UInt8} {i : Nat} (hi : i ≤ s.length) (h : ¬ i + t.length ≤ s.length) : occ (fd b s) (fd b t) i = false := by
  rw [Bool.eq_false_iff]
  intro h'
  rcases occ_room h' with h1 | h1
  · have := congrArg List.length h1
    simp at this
    rw [this] at h; simp at h; omega
  · simp at h1; omega
theorem agree_at {b : Bool} {s t : List UInt8} {i k : Nat} (hg : agree b s t i k) (hk : k < t.length) (hr : i + k < s.length) (h : (if b then foldB s[i + k] else s[i + k]) = (if b then foldB t[k] else t[k])) : agree b s t i (k + 1) :=
  agree_step hg (by rw [fd_get b hr, fd_get b hk, h])
set_option maxHeartbeats 1000000 in
theorem Occurs_spec (s t : List UInt8) (i : Nat) (b : Bool) (hs : s.length ≤ 1000000) (ht : t.length ≤ 1000000) (hi : i ≤ s.length) : Spec1 Try.prog 47 [.str s, .str t, i64 i, bo b] (bo (occ (fd b s) (fd b t) i)) := by
  refine Spec1.of_HT Try.func47 rfl (by rw [Try.ntmps47]; simp) rfl ?_
  rw [Try.ntmps47]
  refine HT.seq ?_
  refine HT.region ?_   -- R0
  simp (disch := first | omega | (simp <;> omega) | fail) [wrap_i64, wrap_u64, wrap_u8', u8_inj]
  refine HT.seq ?_
  refine HT.seq ?_
  refine HT.region ?_   -- R1
  simp (disch := first | omega | (simp <;> omega) | fail) [wrap_i64, wrap_u64, wrap_u8', u8_inj]
  refine HT.cond' ?_   -- if 18
  simp (disch := first | omega | (simp <;> omega) | fail) [wrap_i64, wrap_u64, wrap_u8', u8_inj]
  refine ⟨fun h18 => ?_, fun h18 => ?_⟩
  · skip
    refine HT.seq ?_
    refine HT.region ?_   -- R2
    simp (disch := first | omega | (simp <;> omega) | fail) [wrap_i64, wrap_u64, wrap_u8', u8_inj]
    refine HT.ret ?_
    simp (disch := first | omega | (simp <;> omega) | fail) [wrap_i64, wrap_u64, wrap_u8', u8_inj, occ_far (b := b) hi (show ¬ i + t.length ≤ s.length by omega)]
  · skip
    have hr : i + t.length ≤ s.length := by omega
    refine HT.skip ?_
    simp (disch := first | omega | (simp <;> omega) | fail) [wrap_i64, wrap_u64, wrap_u8', u8_inj]
    refine HT.seq ?_
    refine HT.seq ?_
    refine HT.region ?_   -- R3
    simp (disch := first | omega | (simp <;> omega) | fail) [wrap_i64, wrap_u64, wrap_u8', u8_inj]
    refine HT.block ?_
    refine HT.loopK (fun k : {k : Nat // k ≤ t.length ∧ agree b s t i k} => [.s 9 (i64 k)]) [0, 1, 2, 3] [] (fun k => t.length - k) (⟨0, by omega, fun j hj => by omega⟩) ?_ ?_   -- block 0 turned [9]
    · simp (disch := first | omega | (simp <;> omega) | fail) [wrap_i64, wrap_u64, wrap_u8', u8_inj]
    rintro ⟨k, hk, hg⟩
    simp (disch := first | omega | (simp <;> omega) | fail) [wrap_i64, wrap_u64, wrap_u8', u8_inj]
    refine HT.seq ?_
    refine HT.seq ?_
    refine HT.region ?_   -- R4
    simp (disch := first | omega | (simp <;> omega) | fail) [wrap_i64, wrap_u64, wrap_u8', u8_inj]
    refine HT.cond' ?_   -- if 22
    simp (disch := first | omega | (simp <;> omega) | fail) [wrap_i64, wrap_u64, wrap_u8', u8_inj]
    refine ⟨fun h22 => ?_, fun h22 => ?_⟩
    · skip
      have hk' : k < t.length := by omega
      have hsk : i + k < s.length := by omega
      have hz : ((i : Int) + (k : Int)).toNat = i + k := by omega
      refine HT.skip ?_
      simp (disch := first | omega | (simp <;> omega) | fail) [wrap_i64, wrap_u64, wrap_u8', u8_inj]
      refine HT.seq ?_
      refine HT.block ?_
      refine HT.seq ?_
      refine HT.region ?_   -- R6
      simp (disch := first | omega | (simp <;> omega) | fail) [wrap_i64, wrap_u64, wrap_u8', u8_inj, hz]
      refine HT.seq ?_
      refine HT.region ?_   -- R7
      simp (disch := first | omega | (simp <;> omega) | fail) [wrap_i64, wrap_u64, wrap_u8', u8_inj]
      refine HT.seq ?_
      refine HT.seq ?_
      refine HT.region ?_   -- R8
      simp (disch := first | omega | (simp <;> omega) | fail) [wrap_i64, wrap_u64, wrap_u8', u8_inj]
      refine HT.cond' ?_   -- if 33
      simp (disch := first | omega | (simp <;> omega) | fail) [wrap_i64, wrap_u64, wrap_u8', u8_inj]
      refine ⟨fun h33 => ?_, fun h33 => ?_⟩
      · skip
        refine HT.seq ?_
        refine HT.region ?_   -- R9
        simp (disch := first | omega | (simp <;> omega) | fail) [wrap_i64, wrap_u64, wrap_u8', u8_inj]
        refine stepK.mk (.call1 _ _ _ _ rfl Ty.hb45 rfl (FoldByte_spec _) rfl rfl) ?_
        simp (disch := first | omega | (simp <;> omega) | fail) [wrap_i64, wrap_u64, wrap_u8', u8_inj]
        refine HT.region ?_   -- R10
        simp (disch := first | omega | (simp <;> omega) | fail) [wrap_i64, wrap_u64, wrap_u8', u8_inj]
        refine stepK.mk (.call1 _ _ _ _ rfl Ty.hb45 rfl (FoldByte_spec _) rfl rfl) ?_
        simp (disch := first | omega | (simp <;> omega) | fail) [wrap_i64, wrap_u64, wrap_u8', u8_inj]
        refine HT.seq ?_
        refine HT.region ?_   -- R11
        simp (disch := first | omega | (simp <;> omega) | fail) [wrap_i64, wrap_u64, wrap_u8', u8_inj]
        refine HT.cond' ?_   -- if 40
        simp (disch := first | omega | (simp <;> omega) | fail) [wrap_i64, wrap_u64, wrap_u8', u8_inj]
        refine ⟨fun h40 => ?_, fun h40 => ?_⟩
        · skip
          refine HT.seq ?_
          refine HT.region ?_   -- R12
          simp (disch := first | omega | (simp <;> omega) | fail) [wrap_i64, wrap_u64, wrap_u8', u8_inj]
          refine HT.ret ?_
          simp (disch := first | omega | (simp <;> omega) | fail) [wrap_i64, wrap_u64, wrap_u8', u8_inj, occ_no (b := b) hk' hsk (by simpa [h33] using h40)]
        · skip
          refine HT.skip ?_
          simp (disch := first | omega | (simp <;> omega) | fail) [wrap_i64, wrap_u64, wrap_u8', u8_inj]
          refine HT.region ?_   -- R5
          simp (disch := first | omega | (simp <;> omega) | fail) [wrap_i64, wrap_u64, wrap_u8', u8_inj]
          refine Round.mk' (⟨k + 1, by omega, agree_at hg hk' hsk (by simpa [h33] using h40)⟩) (by dsimp only; omega) rfl ?_
          simp (disch := first | omega | (simp <;> omega) | fail) [wrap_i64, wrap_u64, wrap_u8', u8_inj]
      · skip
        refine HT.skip ?_
        simp (disch := first | omega | (simp <;> omega) | fail) [wrap_i64, wrap_u64, wrap_u8', u8_inj]
        refine HT.seq ?_
        refine HT.region ?_   -- R11
        simp (disch := first | omega | (simp <;> omega) | fail) [wrap_i64, wrap_u64, wrap_u8', u8_inj]
        refine HT.cond' ?_   -- if 40
        simp (disch := first | omega | (simp <;> omega) | fail) [wrap_i64, wrap_u64, wrap_u8', u8_inj]
        refine ⟨fun h40 => ?_, fun h40 => ?_⟩
        · skip
          refine HT.seq ?_
          refine HT.region ?_   -- R12
          simp (disch := first | omega | (simp <;> omega) | fail) [wrap_i64, wrap_u64, wrap_u8', u8_inj]
          refine HT.ret ?_
          simp (disch := first | omega | (simp <;> omega) | fail) [wrap_i64, wrap_u64, wrap_u8', u8_inj, occ_no (b := b) hk' hsk (by simpa [h33] using h40)]
        · skip
          refine HT.skip ?_
          simp (disch := first | omega | (simp <;> omega) | fail) [wrap_i64, wrap_u64, wrap_u8', u8_inj]
          refine HT.region ?_   -- R5
          simp (disch := first | omega | (simp <;> omega) | fail) [wrap_i64, wrap_u64, wrap_u8', u8_inj]
          refine Round.mk' (⟨k + 1, by omega, agree_at hg hk' hsk (by simpa [h33] using h40)⟩) (by dsimp only; omega) rfl ?_
          simp (disch := first | omega | (simp <;> omega) | fail) [wrap_i64, wrap_u64, wrap_u8', u8_inj]
    · skip
      obtain rfl : k = t.length := by omega
      refine HT.exit ?_
      simp (disch := first | omega | (simp <;> omega) | fail) [wrap_i64, wrap_u64, wrap_u8', u8_inj]
      refine HT.seq ?_
      refine HT.region ?_   -- R13
      simp (disch := first | omega | (simp <;> omega) | fail) [wrap_i64, wrap_u64, wrap_u8', u8_inj]
      refine HT.ret ?_
      simp (disch := first | omega | (simp <;> omega) | fail) [wrap_i64, wrap_u64, wrap_u8', u8_inj, occ_yes hr hg]
end Go.Hv
