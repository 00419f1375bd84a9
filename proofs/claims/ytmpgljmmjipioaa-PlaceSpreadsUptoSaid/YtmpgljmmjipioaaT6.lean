import Derived.Test.YtmpgljmmjipioaaT5
set_option linter.unusedVariables false
set_option linter.unusedSimpArgs false
namespace Go.Hv
open Go Go.Hv Go.Proofs
open Go.Proofs.Ytmpgljmmjipioaa
/-- The best shard so far, and its weight. -/
def ofStep (r p : List UInt8) : Nat → Int × BitVec 32
  | 0 => (-1, 0#32)
  | k + 1 => if (ofStep r p k).1 < 0 ∨ (ofStep r p k).2 < weightV r p k then ((k : Int), weightV r p k) else ofStep r p k
def ofV (r p : List UInt8) (n : Int) : Int := (ofStep r p n.toNat).1
theorem f11_spec (r p : List UInt8) (n : Int) (hr : r.length ≤ 1048576) (hp : p.length ≤ 1048576) (hn : n ≤ 400) : Spec1 Try.prog 11 [.str r, .str p, i64 n] (i64 (ofV r p n)) := by
  refine Spec1.of_HT Try.func11 rfl (by rw [Try.ntmps11]; simp) rfl ?_
  rw [Try.ntmps11]
  refine HT.seq ?_
  refine HT.region ?_   -- R0
  simp
  refine HT.seq ?_
  refine HT.region ?_   -- R1
  simp
  refine HT.seq ?_
  refine HT.region ?_   -- R2
  simp
  refine HT.seq ?_
  refine HT.seq ?_
  refine HT.region ?_   -- R3
  simp
  refine HT.block ?_
  refine HT.loop (fun k : {k : Nat // k ≤ n.toNat} => ⟨[.s 0 (.str r), .s 1 (.str p), .s 11 (i64 n), .s 12 (i64 k), .s 7 (i64 (ofStep r p k).1), .s 8 (u32 (ofStep r p k).2)], 30⟩) (fun k => n.toNat - k) ⟨0, by omega⟩ (HS.le_fits ?_) ?_   -- turned: [7, 8, 9, 10, 12, 13, 14, 15, 16, 17, 18, 19, 20, 21, 22, 23, 24, 25, 26, 27, 28]
  · simp [ofStep, U_zero]
  rintro ⟨k, hk⟩
  refine HT.seq ?_
  refine HT.region ?_   -- R4
  simp
  refine HT.seq ?_
  refine HT.cond' ?_
  simp
  constructor
  · intro h
    refine HT.skip ?_
    simp
    refine HT.seq ?_
    refine HT.block ?_
    refine HT.seq ?_
    refine HT.region ?_   -- R5
    simp
    refine HT.seq ?_
    refine HT.region ?_   -- R6 calls [9]
    simp
    refine ⟨_, .call1 _ _ _ _ rfl Ty.hb9 rfl (f9_spec _ _ _ hr hp) rfl rfl, ?_⟩
    simp
    by_cases hb : (ofStep r p k).1 < 0
    · refine HT.seq ?_
      refine HT.region ?_   -- R7
      simp [hb]
      refine HT.cond' ?_
      simp
      refine HT.region ?_   -- R8
      simp
      refine HT.region ?_   -- R9
      simp
      refine ⟨k + 1, by omega, by omega, HS.le_fits ?_⟩
      simp [ofStep, hb]
      rw [wrap_i64] <;> omega
    · by_cases hw : (ofStep r p k).2 < weightV r p k
      · refine HT.seq ?_
        refine HT.region ?_   -- R7
        simp [hb, hw]
        refine HT.cond' ?_
        simp
        refine HT.region ?_   -- R8
        simp
        refine HT.region ?_   -- R9
        simp
        refine ⟨k + 1, by omega, by omega, HS.le_fits ?_⟩
        simp [ofStep, hb, hw]
        rw [wrap_i64] <;> omega
      · refine HT.seq ?_
        refine HT.region ?_   -- R7
        simp [hb, hw]
        refine HT.cond' ?_
        simp
        refine HT.skip ?_
        simp
        refine HT.region ?_   -- R9
        simp
        refine ⟨k + 1, by omega, by omega, HS.le_fits ?_⟩
        simp [ofStep, hb, hw]
        rw [wrap_i64] <;> omega
  · intro h
    obtain rfl : k = n.toNat := by omega
    refine HT.exit ?_
    simp
    refine HT.seq ?_
    refine HT.region ?_   -- R10
    simp
    refine HT.ret ?_
    simp [ofV]
theorem f12_spec (r p : List UInt8) (n : Int) (hr : r.length ≤ 1048576) (hp : p.length ≤ 1048576) (hn : n ≤ 400) : Spec1 Try.prog 12 [.str r, .str p, i64 n] (i64 (ofV r p n)) := by
  refine Spec1.of_HT Try.func12 rfl (by rw [Try.ntmps12]; simp) rfl ?_
  rw [Try.ntmps12]
  refine HT.seq ?_
  refine HT.region ?_   -- R0
  simp
  refine HT.seq ?_
  refine HT.region ?_   -- R1
  simp
  refine HT.seq ?_
  refine HT.region ?_   -- R2
  simp
  refine HT.seq ?_
  refine HT.seq ?_
  refine HT.region ?_   -- R3
  simp
  refine HT.block ?_
  refine HT.loop (fun k : {k : Nat // k ≤ n.toNat} => ⟨[.s 0 (.str r), .s 1 (.str p), .s 2 (i64 n), .s 9 (i64 k), .s 7 (i64 (ofStep r p k).1), .s 8 (u32 (ofStep r p k).2)], 30⟩) (fun k => n.toNat - k) ⟨0, by omega⟩ (HS.le_fits ?_) ?_   -- turned: [7, 8, 9, 10, 11, 12, 13, 14, 15, 16, 17, 18, 19, 20, 21, 22, 23, 24, 25, 26, 27, 28]
  · simp [ofStep, U_zero]
  rintro ⟨k, hk⟩
  refine HT.seq ?_
  refine HT.seq ?_
  refine HT.region ?_   -- R4
  simp
  refine HT.cond' ?_
  simp
  constructor
  · intro h
    refine HT.skip ?_
    simp
    refine HT.seq ?_
    refine HT.block ?_
    refine HT.seq ?_
    refine HT.region ?_   -- R6 calls [10]
    simp
    refine ⟨_, .call1 _ _ _ _ rfl Ty.hb10 rfl (f10_spec _ _ _ hr hp) rfl rfl, ?_⟩
    simp
    by_cases hb : (ofStep r p k).1 < 0
    · refine HT.seq ?_
      refine HT.region ?_   -- R7
      simp [hb]
      refine HT.cond' ?_
      simp
      refine HT.seq ?_
      refine HT.region ?_   -- R8
      simp
      refine HT.region ?_   -- R9
      simp
      refine HT.region ?_   -- R5
      simp
      refine ⟨k + 1, by omega, by omega, HS.le_fits ?_⟩
      simp [ofStep, hb]
      rw [wrap_i64] <;> omega
    · by_cases hw : (ofStep r p k).2 < weightV r p k
      · refine HT.seq ?_
        refine HT.region ?_   -- R7
        simp [hb, hw]
        refine HT.cond' ?_
        simp
        refine HT.seq ?_
        refine HT.region ?_   -- R8
        simp
        refine HT.region ?_   -- R9
        simp
        refine HT.region ?_   -- R5
        simp
        refine ⟨k + 1, by omega, by omega, HS.le_fits ?_⟩
        simp [ofStep, hb, hw]
        rw [wrap_i64] <;> omega
      · refine HT.seq ?_
        refine HT.region ?_   -- R7
        simp [hb, hw]
        refine HT.cond' ?_
        simp
        refine HT.skip ?_
        simp
        refine HT.region ?_   -- R5
        simp
        refine ⟨k + 1, by omega, by omega, HS.le_fits ?_⟩
        simp [ofStep, hb, hw]
        rw [wrap_i64] <;> omega
  · intro h
    obtain rfl : k = n.toNat := by omega
    refine HT.exit ?_
    simp
    refine HT.seq ?_
    refine HT.region ?_   -- R10
    simp
    refine HT.ret ?_
    simp [ofV]
end Go.Hv
