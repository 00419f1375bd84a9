import Derived.Test.YtmpgljmmjipioaaLaw34a
set_option linter.unusedVariables false
set_option linter.unusedSimpArgs false
namespace Go.Hv
open Go Go.Hv Go.Proofs
open Go.Proofs.Ytmpgljmmjipioaa
theorem ofStep_lt (r p : List UInt8) : ∀ k : Nat, (ofStep r p k).1 < k ∧ (1 ≤ k → 0 ≤ (ofStep r p k).1)
  | 0 => ⟨by simp [ofStep], by omega⟩
  | k + 1 => by
    have ih := ofStep_lt r p k
    simp only [ofStep]
    split
    · exact ⟨by simp; try omega, fun _ => by simp; try omega⟩
    · next h => exact ⟨by omega, fun _ => by have := not_or.1 h; omega⟩
theorem ofV_next (r p : List UInt8) {n : Int} (h : 1 ≤ n) : 0 ≤ ofV r p n ∧ ofV r p n < n ∧ (ofV r p (n + 1) = ofV r p n ∨ ofV r p (n + 1) = n) := by
  have hb := ofStep_lt r p n.toNat
  unfold ofV
  refine ⟨hb.2 (by omega), by omega, ?_⟩
  rw [show (n + 1).toNat = n.toNat + 1 by omega, ofStep]
  split
  · right; simp; omega
  · left; rfl
theorem f6_spec (r p : List UInt8) (n : Int) : Spec1 Try.prog 6 [.str r, .str p, i64 n] (bo true) := by
  refine Spec1.of_HT Try.func6 rfl (by rw [Try.ntmps6]; simp) rfl ?_
  rw [Try.ntmps6]
  refine HT.seq ?_
  refine HT.region ?_   -- R0
  simp
  refine HT.seq ?_
  refine HT.seq ?_
  refine HT.region ?_   -- R1 calls [8]
  simp
  refine ⟨_, .call1 _ _ _ _ rfl Ty.hb8 rfl f8_spec rfl rfl, ?_⟩
  simp
  refine HT.cond' ?_
  simp
  refine HT.skip ?_
  simp
  refine HT.seq ?_
  refine HT.seq ?_
  refine HT.region ?_   -- R3
  by_cases hr : 200 < (r.length : Int)
  · simp [hr]
    refine HT.cond' ?_
    simp
    refine HT.seq ?_
    refine HT.region ?_   -- R4
    simp
    refine HT.ret ?_
    simp
  by_cases hp : 200 < (p.length : Int)
  · simp [hr, hp]
    refine HT.cond' ?_
    simp
    refine HT.seq ?_
    refine HT.region ?_   -- R4
    simp
    refine HT.ret ?_
    simp
  by_cases hn : 300 < n
  · simp [hr, hp, hn]
    refine HT.cond' ?_
    simp
    refine HT.seq ?_
    refine HT.region ?_   -- R4
    simp
    refine HT.ret ?_
    simp
  by_cases h1 : n < 1
  · simp [hr, hp, hn, h1]
    refine HT.cond' ?_
    simp
    refine HT.seq ?_
    refine HT.region ?_   -- R4
    simp
    refine HT.ret ?_
    simp
  simp [hr, hp, hn, h1]
  refine HT.cond' ?_
  simp
  refine HT.skip ?_
  simp
  have hw : IntKind.wrap .i64 (n + 1) = n + 1 := wrap_i64 (by omega) (by omega)
  refine HT.seq ?_
  refine HT.region ?_   -- R5 calls [11]
  simp
  refine ⟨_, .call1 _ _ _ _ rfl Ty.hb11 rfl (f11_spec r p n (by omega) (by omega) (by omega)) rfl rfl, ?_⟩
  simp
  refine HT.seq ?_
  refine HT.region ?_   -- R6 calls [11]
  simp [hw]
  refine ⟨_, .call1 _ _ _ _ rfl Ty.hb11 rfl (f11_spec r p (n + 1) (by omega) (by omega) (by omega)) rfl rfl, ?_⟩
  simp
  obtain ⟨q1, q2, q3⟩ := ofV_next r p (n := n) (by omega)
  refine HT.seq ?_
  refine HT.region ?_   -- R7
  by_cases q4 : ofV r p (n + 1) = ofV r p n
  · simp [q1, q2, q4]
    refine HT.ret ?_
    simp
  · have q5 : ofV r p (n + 1) = n := by rcases q3 with h | h; exact absurd h q4; exact h
    have q6 : ¬ n = ofV r p n := by rw [← q5]; rw [q5] at q4 ⊢; exact q4
    simp [q1, q2, q5, q6]
    refine HT.ret ?_
    simp
end Go.Hv
