import Derived.Test.YtmpgljmmjipioaaTy34
import Derived.Test.YtmpgljmmjipioaaCrc
set_option linter.unusedVariables false
set_option linter.unusedSimpArgs false
namespace Go.Hv
open Go Go.Hv Go.Proofs
open Go.Proofs.Ytmpgljmmjipioaa
theorem take_spec (r : BitVec 32) (c : UInt8) : Spec1 Try.prog 33 [u32 r, u8 c] (u32 (takeV r c)) := by
  refine Spec1.of_HT Try.func33 rfl (by rw [Try.ntmps33]; simp) rfl ?_
  rw [Try.ntmps33]
  refine HT.seq (HT.region ?_)
  simp
  refine HT.seq (HT.region ?_)
  simp 
  refine HT.seq (HT.seq (HT.region ?_))
  simp
  refine HT.block (HT.loop (fun k : {k : Nat // k ≤ 8} => ⟨[.s 0 (u32 (stepN k (r ^^^ BitVec.ofNat 32 c.toNat))), .s 5 (i64 k)], 24⟩) (fun k => 8 - k) ⟨0, by omega⟩ (HS.le_fits ?_) ?_)
  · simp [stepN]
  rintro ⟨k, hk⟩
  refine HT.seq (HT.seq (HT.region ?_))
  simp
  refine HT.cond' ?_
  simp
  constructor
  · intro h
    refine HT.skip ?_
    simp
    refine HT.join [.s 0 (u32 (stepN (k+1) (r ^^^ BitVec.ofNat 32 c.toNat))), .s 5 (i64 k)] ?_ ?_
    · refine HT.block (HT.seq (HT.region ?_))
      simp
      refine HT.seq (HT.region ?_)
      simp 
      refine HT.seq (HT.region ?_)
      simp
      refine HT.cond' ?_
      simp
      constructor
      · intro h
        refine HT.region ?_
        simp [stepN, step1, h]
      · intro h
        refine HT.skip ?_
        simp [stepN, step1, h]
    · refine HT.region ?_
      simp
      refine ⟨k+1, by omega, by omega, HS.le_fits ?_⟩
      simp
      rw [wrap_i64] <;> omega
  · intro h
    refine HT.exit ?_
    simp
    refine HT.seq (HT.region ?_)
    simp
    refine HT.ret ?_
    simp [takeV, show k = 8 by omega]
def tabL (k : Nat) : List HV := (List.range k).map (fun i => u32 (stepN 4 (BitVec.ofNat 32 i))) ++ List.replicate (16 - k) (u32 0#32)
theorem tabL_succ {k : Nat} (h : k < 16) (x : HV) (hx : x = u32 (stepN 4 (BitVec.ofNat 32 k))) : (tabL k).take k ++ x :: (tabL k).drop (k + 1) = tabL (k + 1) := by
  subst hx
  unfold tabL
  rw [List.range_succ, List.take_append_of_le_length (by simp), List.take_of_length_le (by simp), List.map_append, List.append_assoc, List.drop_append, List.drop_of_length_le (by simp)]
  simp
  omega
theorem tabL_length {k : Nat} (h : k ≤ 16) : (tabL k).length = 16 := by simp [tabL]; omega
theorem tabL_one {k : Nat} : ∀ x ∈ tabL k, HV.one x = true := by
  intro x hx
  simp [tabL] at hx
  rcases hx with ⟨i, _, rfl⟩ | ⟨_, rfl⟩ <;> simp
theorem tabL_one' (k : Nat) : (∀ x, x ∈ tabL k → HV.one x = true) ↔ True := ⟨fun _ => trivial, fun _ => tabL_one⟩
theorem f32_spec : Spec1 Try.prog 32 [] (.agg (tabL 16)) := by
  refine Spec1.of_HT Try.func32 rfl (by rw [Try.ntmps32]; simp) rfl ?_
  rw [Try.ntmps32]
  refine HT.seq ?_
  refine HT.region ?_   -- R0
  simp
  refine HT.seq ?_
  refine HT.region ?_   -- R1
  simp
  refine HT.seq ?_
  refine HT.seq ?_
  refine HT.region ?_   -- R2
  simp
  refine HT.block ?_
  refine HT.loop (fun k : {k : Nat // k ≤ 16} => ⟨[.s 0 (.ptr 0 0), .s 1 (.ptr 1 0), .s 4 (i64 k), .o 0 (.box (tabL 0)), .o 1 (.box (tabL k))], 25⟩) (fun k => 16 - k) ⟨0, by omega⟩ (HS.le_fits ?_) ?_   -- turned: [2, 3, 4, 5, 6, 7, 8, 9, 10, 11, 12, 13, 14, 15, 16, 17, 18, 19, 20, 21, 22, 23]
  · simp [tabL, U_zero]
  rintro ⟨k, hk⟩
  refine HT.seq ?_
  refine HT.region ?_   -- R3
  simp
  refine HT.seq ?_
  refine HT.cond' ?_
  simp
  constructor
  · intro h16
    have hk' : k < 16 := by omega
    refine HT.skip ?_
    simp
    refine HT.seq ?_
    refine HT.block ?_
    refine HT.seq ?_
    refine HT.region ?_   -- R4
    simp
    refine HT.seq ?_
    refine HT.region ?_   -- R5
    simp [U_conv]
    refine HT.seq ?_
    refine HT.seq ?_
    refine HT.region ?_   -- R6
    simp
    refine HT.block ?_
    refine HT.loop (fun j : {k : Nat // k ≤ 4} => ⟨[.s 0 (.ptr 0 0), .s 1 (.ptr 1 0), .s 4 (i64 k), .s 2 (i64 k), .s 3 (u32 (stepN j (BitVec.ofNat 32 k))), .s 9 (i64 j), .o 0 (.box (tabL 0)), .o 1 (.box (tabL k))], 25⟩) (fun k => 4 - k) ⟨0, by omega⟩ (HS.le_fits ?_) ?_
    · simp [stepN]
    rintro ⟨j, hj⟩
    refine HT.seq ?_
    refine HT.region ?_   -- R7
    simp
    refine HT.seq ?_
    refine HT.cond' ?_
    simp
    constructor
    · intro h
      refine HT.skip ?_
      simp
      refine HT.seq ?_
      refine HT.block ?_
      refine HT.seq ?_
      refine HT.region ?_   -- R8
      simp [-BitVec.toNat_and]
      refine HT.cond' ?_
      simp [-BitVec.toNat_and]
      constructor
      · intro h
        refine HT.region ?_   -- R9
        simp
        refine HT.region ?_   -- R11
        simp
        refine ⟨j + 1, by omega, by omega, HS.le_fits ?_⟩
        rw [and1] at h
        simp [stepN, step1, h] at h ⊢
        rw [wrap_i64] <;> omega
      · intro h
        refine HT.region ?_   -- R10
        simp
        refine HT.region ?_   -- R11
        simp
        refine ⟨j + 1, by omega, by omega, HS.le_fits ?_⟩
        rw [and1, Bool.not_eq_true] at h
        simp only [stepN, step1, h]
        simp
        rw [wrap_i64] <;> omega
    · intro h
      refine HT.exit ?_
      simp
      refine HT.region ?_   -- R12
      simp [h16, show k ≤ 15 by omega, show j = 4 by omega, tabL_length hk, tabL_succ hk']
      refine HT.region ?_   -- R13
      simp
      refine ⟨k + 1, by omega, by omega, HS.le_fits ?_⟩
      simp
      rw [wrap_i64] <;> omega
  · intro h
    refine HT.exit ?_
    simp
    refine HT.seq ?_
    refine HT.region ?_   -- R14
    simp [show k = 16 by omega, tabL_length (Nat.le_refl 16), List.take_of_length_le, tabL_one', tabL_length (Nat.zero_le 16), List.drop_of_length_le]
    refine HT.ret ?_
    have hI : isIL (tabL 16) = true := by simp [tabL, isIL_iff, isI]
    simp [tabL_length (Nat.le_refl 16), List.take_of_length_le, rdL_isI _ _ hI]
end Go.Hv
