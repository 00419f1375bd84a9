import Derived.Test.YtmpgljmmjipioaaT4
set_option linter.unusedVariables false
set_option linter.unusedSimpArgs false
namespace Go.Hv
open Go Go.Hv Go.Proofs
open Go.Proofs.Ytmpgljmmjipioaa
/-- What is summed for a shard. -/
def weightB (r p : List UInt8) (n : Int) : List UInt8 := r ++ 0 :: (p ++ [0, UInt8.ofNat (IntKind.wrap .u8 n).toNat])
def weightV (r p : List UInt8) (n : Int) : BitVec 32 := sumV (weightB r p n)
theorem f9_spec (r p : List UInt8) (n : Int) (hr : r.length ≤ 1048576) (hp : p.length ≤ 1048576) : Spec1 Try.prog 9 [.str r, .str p, i64 n] (u32 (weightV r p n)) := by
  refine Spec1.of_HT Try.func9 rfl (by rw [Try.ntmps9]; simp) rfl ?_
  rw [Try.ntmps9]
  refine HT.seq ?_
  refine HT.region ?_   -- R0
  simp
  have b1 : ∀ N, 4000000 ≤ N → r.length ≤ N := fun N h => by omega
  have b2 : ∀ N, 4000000 ≤ N → r.length + 1 + p.length ≤ N := fun N h => by omega
  have b3 : ∀ N, 4000000 ≤ N → r.length + (p.length + 1) ≤ N := fun N h => by omega
  have b4 : ∀ N, 4000000 ≤ N → r.length + (p.length + 1 + 2) ≤ N := fun N h => by omega
  refine HT.seq ?_
  refine HT.region ?_   -- R1
  simp [b1]
  refine HT.seq ?_
  refine HT.region ?_   -- R2
  simp [b2, b3]
  refine HT.seq ?_
  refine HT.region ?_   -- R3 calls [22]
  simp [b2, b3, b4]
  refine ⟨_, .call1 _ _ [.sl 1 false (bytesHV (weightB r p n))] _ rfl Ty.hb22 ?_ (f22_spec _ _ ?_) rfl rfl, ?_⟩
  · simp only [weightB, bytesHV_append, bytesHV_cons, bytesHV_nil, ← u8_wrap]
    simp
  · simp [weightB]; omega
  simp
  refine HT.ret ?_
  simp [weightV]
theorem f10_spec (r p : List UInt8) (n : Int) (hr : r.length ≤ 1048576) (hp : p.length ≤ 1048576) : Spec1 Try.prog 10 [.str r, .str p, i64 n] (u32 (weightV r p n)) := by
  refine Spec1.of_HT Try.func10 rfl (by rw [Try.ntmps10]; simp) rfl ?_
  rw [Try.ntmps10]
  have b1 : ∀ N, 4000000 ≤ N → r.length ≤ N := fun N h => by omega
  have b2 : ∀ N, 4000000 ≤ N → r.length + 1 + p.length ≤ N := fun N h => by omega
  have b3 : ∀ N, 4000000 ≤ N → r.length + (p.length + 1) ≤ N := fun N h => by omega
  have b4 : ∀ N, 4000000 ≤ N → r.length + (p.length + 1 + 2) ≤ N := fun N h => by omega
  refine HT.seq ?_
  refine HT.region ?_   -- R0
  simp
  refine HT.seq ?_
  refine HT.region ?_   -- R1
  simp
  refine HT.seq ?_
  refine HT.seq ?_
  refine HT.region ?_   -- R2
  simp
  refine HT.block ?_
  refine HT.loop (fun k : {k : Nat // k ≤ r.length} => ⟨[.s 0 (.str r), .s 1 (.str p), .s 2 (i64 n), .s 7 (.ref 7), .o 7 (.row 5 1 (bytesHV (r.take k))), .s 8 (i64 k)], 47⟩) (fun k => r.length - k) ⟨0, by omega⟩ (HS.le.trans (HS.le_own (t := 7) 7 5 1 _ (by decide) rfl (by decide)) (HS.le_fits ?_)) ?_
  · simp
  rintro ⟨k, hk⟩
  refine HT.seq ?_
  refine HT.seq ?_
  refine HT.region ?_   -- R3
  simp
  refine HT.cond' ?_
  simp
  constructor
  · intro h
    have hk' : k < r.length := by omega
    have b5 : ∀ N, 4000000 ≤ N → min k r.length + 1 ≤ N := fun N h => by omega
    have b6 : ∀ N, 4000000 ≤ N → min k r.length ≤ N := fun N h => by omega
    refine HT.skip ?_
    simp
    refine HT.seq ?_
    refine HT.block ?_
    refine HT.region ?_   -- R5
    simp [h, hk', b5, b6]
    refine HT.region ?_   -- R4
    simp
    refine ⟨k + 1, by omega, by omega, HS.le_fits ?_⟩
    simp only [List.take_succ_eq_append_getElem hk', bytesHV_append, bytesHV_cons, bytesHV_nil]
    simp
    rw [wrap_i64] <;> omega
  · intro h
    obtain rfl : k = r.length := by omega
    refine HT.exit ?_
    simp
    refine HT.seq ?_
    refine HT.region ?_   -- R6
    simp [b1]
    refine HT.seq ?_
    refine HT.seq ?_
    refine HT.region ?_   -- R7
    simp
    refine HT.block ?_
    refine HT.loop (fun k : {k : Nat // k ≤ p.length} => ⟨[.s 1 (.str p), .s 2 (i64 n), .s 7 (.ref 7), .o 7 (.row 5 1 (bytesHV (r ++ 0 :: p.take k))), .s 9 (i64 k)], 47⟩) (fun k => p.length - k) ⟨0, by omega⟩ (HS.le_fits ?_) ?_
    · simp [bytesHV_append, bytesHV_cons]
    rintro ⟨k, hk⟩
    refine HT.seq ?_
    refine HT.seq ?_
    refine HT.region ?_   -- R8
    simp
    refine HT.cond' ?_
    simp
    constructor
    · intro h
      have hk' : k < p.length := by omega
      have b5 : ∀ N, 4000000 ≤ N → r.length + (min k p.length + 1) + 1 ≤ N := fun N h => by omega
      have b6 : ∀ N, 4000000 ≤ N → r.length + (min k p.length + 1) ≤ N := fun N h => by omega
      refine HT.skip ?_
      simp
      refine HT.seq ?_
      refine HT.block ?_
      refine HT.region ?_   -- R10
      simp [h, hk', b5, b6]
      refine HT.region ?_   -- R9
      simp
      refine ⟨k + 1, by omega, by omega, HS.le_fits ?_⟩
      simp only [List.take_succ_eq_append_getElem hk', bytesHV_append, bytesHV_cons, bytesHV_nil]
      simp
      rw [wrap_i64] <;> omega
    · intro h
      obtain rfl : k = p.length := by omega
      refine HT.exit ?_
      simp
      refine HT.seq ?_
      refine HT.region ?_   -- R11
      simp [b3]
      refine HT.seq ?_
      refine HT.region ?_   -- R12
      simp [b3, b4]
      refine HT.seq ?_
      refine HT.region ?_   -- R13 calls [23]
      simp
      refine ⟨_, .call1 _ _ [.sl 1 false (bytesHV (weightB r p n))] _ rfl Ty.hb23 ?_ (f23_spec _ _ ?_) rfl rfl, ?_⟩
      · simp only [weightB, bytesHV_append, bytesHV_cons, bytesHV_nil, ← u8_wrap]
        simp
      · simp [weightB]; omega
      simp
      refine HT.ret ?_
      simp [weightV]
end Go.Hv
