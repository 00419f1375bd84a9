import Derived.Test.YtmpgljmmjipioaaDoc
set_option linter.unusedVariables false
set_option linter.unusedSimpArgs false
namespace Go.Hv
open Go Go.Hv Go.Proofs
open Go.Proofs.Ytmpgljmmjipioaa
theorem weight_empty : weightV [] [] 0 = 1617208186#32 := by decide +kernel
theorem f8_spec : Spec1 Try.prog 8 [] (bo true) := by
  refine Spec1.of_HT Try.func8 rfl (by rw [Try.ntmps8]; simp) rfl ?_
  rw [Try.ntmps8]
  refine HT.seq ?_
  refine HT.region ?_   -- R0
  simp
  refine HT.seq ?_
  refine HT.region ?_   -- R1 calls [16]
  simp
  refine ⟨_, .callTf _ _ _ _ _ rfl Ty.hb16 rfl rfl f16_dead rfl, ?_⟩
  simp
  refine HT.seq ?_
  refine HT.region ?_   -- R2 calls [16]
  simp
  refine ⟨_, .callTf _ _ _ _ _ rfl Ty.hb16 rfl rfl (f16_range 0 (by decide)) rfl, ?_⟩
  simp
  refine HT.seq ?_
  refine HT.region ?_   -- R3 calls [16]
  simp
  refine ⟨_, .callTf _ _ _ _ _ rfl Ty.hb16 rfl rfl (f16_range 5 (by decide)) rfl, ?_⟩
  simp
  refine HT.seq ?_
  refine HT.seq ?_
  refine HT.region ?_   -- R4 calls [11, 11]
  simp
  refine ⟨_, .call1 _ _ _ _ rfl Ty.hb11 rfl (f11_spec _ _ 1 (by decide) (by decide) (by decide)) rfl rfl, ?_⟩
  simp [ofV, ofStep]
  refine ⟨_, .call1 _ _ _ _ rfl Ty.hb11 rfl (f11_spec _ _ 0 (by decide) (by decide) (by decide)) rfl rfl, ?_⟩
  simp [ofV, ofStep]
  refine HT.cond' ?_
  simp
  refine HT.skip ?_
  simp
  refine HT.seq ?_
  refine HT.region ?_   -- R6 calls [9, 13]
  simp
  refine ⟨_, .call1 _ _ _ _ rfl Ty.hb9 rfl (f9_spec _ _ 0 (by decide) (by decide)) rfl rfl, ?_⟩
  simp [weight_empty]
  refine ⟨_, .callO _ _ _ _ _ _ _ _ rfl Ty.hb13 rfl rfl f13_three rfl rfl, ?_⟩
  simp
  refine HT.ret ?_
  simp
theorem f3_spec (r p : List UInt8) (n : Int) : Spec1 Try.prog 3 [.str r, .str p, i64 n] (bo true) := by
  refine Spec1.of_HT Try.func3 rfl (by rw [Try.ntmps3]; simp) rfl ?_
  rw [Try.ntmps3]
  refine HT.seq ?_
  refine HT.region ?_   -- R0
  simp
  refine HT.seq ?_
  refine HT.seq ?_
  refine HT.region ?_   -- R1 calls [8]
  simp
  refine ⟨_, .call1 _ _ _ _ rfl Ty.hb8 rfl f8_spec rfl rfl, ?_⟩
  simp
  refine HT.cond' ?_
  simp
  refine HT.skip ?_
  simp
  refine HT.seq ?_
  refine HT.seq ?_
  refine HT.region ?_   -- R3
  by_cases hr : 200 < (r.length : Int)
  · simp [hr]
    refine HT.cond' ?_
    simp
    refine HT.seq ?_
    refine HT.region ?_   -- R4
    simp
    refine HT.ret ?_
    simp
  by_cases hp : 200 < (p.length : Int)
  · simp [hr, hp]
    refine HT.cond' ?_
    simp
    refine HT.seq ?_
    refine HT.region ?_   -- R4
    simp
    refine HT.ret ?_
    simp
  simp [hr, hp]
  refine HT.cond' ?_
  simp
  refine HT.skip ?_
  simp
  refine HT.seq ?_
  refine HT.region ?_   -- R5 calls [9, 10, 11, 12]
  simp
  refine ⟨_, .call1 _ _ _ _ rfl Ty.hb9 rfl (f9_spec r p n (by omega) (by omega)) rfl rfl, ?_⟩
  simp
  refine ⟨_, .call1 _ _ _ _ rfl Ty.hb10 rfl (f10_spec r p n (by omega) (by omega)) rfl rfl, ?_⟩
  by_cases hn : 300 < n
  · simp [hn]
    refine HT.ret ?_
    simp
  simp [hn]
  refine ⟨_, .call1 _ _ _ _ rfl Ty.hb11 rfl (f11_spec r p n (by omega) (by omega) (by omega)) rfl rfl, ?_⟩
  simp
  refine ⟨_, .call1 _ _ _ _ rfl Ty.hb12 rfl (f12_spec r p n (by omega) (by omega) (by omega)) rfl rfl, ?_⟩
  simp
  refine HT.ret ?_
  simp
end Go.Hv
