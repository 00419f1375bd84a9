import Derived.Test.YtmpgljmmjipioaaRefSpread
set_option linter.unusedVariables false
set_option linter.unusedSimpArgs false
namespace Go.Hv
open Go Go.Hv Go.Proofs
open Go.Proofs.Ytmpgljmmjipioaa
@[simp] theorem partsH_getElem (l : List Doc) (n : Int) (i k : Nat) (h : k < (partsH l n i).length) : (partsH l n i)[k] = [.sl 5 false (docsHV (partV l n k))] := by simp [partsH]
theorem f13_parts (full : Bool) (l : List Doc) (n : Nat) (hl : l.length ≤ 1048576) (hs : Short l) (h1 : 1 ≤ n) (h4 : n ≤ 4) : Spec1 Try.prog 13 [.sl 5 full (docsHV l), i64 n] (.sl 1 false (partsH l n n)) := by
  have := f13_spec full l n hl hs h1 h4
  unfold spreadH at this
  rw [frzs_parts] at this
  exact this
theorem f4_spec (full : Bool) (l : List Doc) (n : Int) (hl : l.length ≤ 1048576) (hk : ∀ d ∈ l, DocK d) : Spec1 Try.prog 4 [.sl 5 full (docsHV l), i64 n] (bo true) := by
  have hs : Short l := fun d hd => ⟨(hk d hd).1, (hk d hd).2.1⟩
  refine Spec1.of_HT Try.func4 rfl (by rw [Try.ntmps4]; simp) rfl ?_
  rw [Try.ntmps4]
  refine HT.seq ?_
  refine HT.region ?_   -- R0
  simp
  refine HT.seq ?_
  refine HT.seq ?_
  refine HT.region ?_   -- R1
  simp
  refine ⟨_, .call1 _ _ _ _ rfl Ty.hb8 rfl f8_spec rfl rfl, ?_⟩
  simp
  refine HT.cond' ?_
  simp
  refine HT.skip ?_
  simp
  refine HT.seq ?_
  refine HT.seq ?_
  refine HT.region ?_   -- R3
  by_cases h80 : 80 < (l.length : Int)
  · simp [h80]
    refine HT.cond' ?_
    simp
    refine HT.seq ?_
    refine HT.region ?_   -- R4
    simp
    refine HT.ret ?_
    simp
  simp [h80]
  refine HT.cond' ?_
  simp
  refine HT.skip ?_
  simp
  refine HT.seq ?_
  refine HT.region ?_   -- R5
  simp
  by_cases hr : n < 1 ∨ 4 < n
  · refine ⟨_, .call1f _ _ _ _ _ rfl Ty.hb13 rfl rfl (f13_range full l n hr) rfl, ?_⟩
    simp
    refine HT.seq ?_
    refine HT.region ?_   -- R6
    simp
    refine ⟨_, .call1f _ _ _ _ _ rfl Ty.hb14 rfl rfl (f14_range full l n hr) rfl, ?_⟩
    simp
    refine HT.seq ?_
    refine HT.seq ?_
    refine HT.region ?_   -- R7
    simp
    refine HT.cond' ?_
    simp
    refine HT.skip ?_
    simp
    refine HT.seq ?_
    refine HT.seq ?_
    refine HT.region ?_   -- R9
    simp
    refine HT.block ?_
    refine HT.loop (fun k : Unit => ⟨[.s 5 (.sl 0 true []), .s 7 (i64 0)], 40⟩) (fun k => 0) () (HS.le_fits ?_) ?_
    · simp
    intro k
    refine HT.seq ?_
    refine HT.seq ?_
    refine HT.region ?_   -- R10
    simp
    refine HT.cond' ?_
    simp
    refine HT.exit ?_
    simp
    refine HT.seq ?_
    refine HT.region ?_   -- R14
    simp
    refine HT.ret ?_
    simp
  obtain ⟨m, rfl⟩ : ∃ m : Nat, n = m := ⟨n.toNat, by omega⟩
  refine ⟨_, .call1f _ _ _ _ _ rfl Ty.hb13 rfl rfl (f13_parts full l m hl hs (by omega) (by omega)) rfl, ?_⟩
  simp
  refine HT.seq ?_
  refine HT.region ?_   -- R6
  simp
  refine ⟨_, .call1f _ _ _ _ _ rfl Ty.hb14 rfl rfl (f14_spec full l m hl hs (by omega) (by omega)) rfl, ?_⟩
  simp
  refine HT.seq ?_
  refine HT.seq ?_
  refine HT.region ?_   -- R7
  simp
  refine HT.cond' ?_
  simp
  refine HT.skip ?_
  simp
  refine HT.seq ?_
  refine HT.seq ?_
  refine HT.region ?_   -- R9
  simp
  refine HT.block ?_
  refine HT.loop (fun k : {k : Nat // k ≤ m} => ⟨[.s 5 (.sl 1 false (partsH l m m)), .s 6 (.sl 1 false (partsH l m m)), .s 7 (i64 k)], 40⟩) (fun k => m - k) ⟨0, by omega⟩ (HS.le_fits ?_) ?_
  · simp
  rintro ⟨k, hkm⟩
  refine HT.seq ?_
  refine HT.seq ?_
  refine HT.region ?_   -- R10
  simp
  refine HT.cond' ?_
  simp
  constructor
  · intro h
    have hk' : k < m := by omega
    have hkk : ∀ d ∈ partV l m k, DocK d := fun d hd => hk d (List.mem_filter.1 hd).1
    refine HT.skip ?_
    simp
    refine HT.seq ?_
    refine HT.block ?_
    refine HT.seq ?_
    refine HT.draw [.batch [0, 1, 2, 3, 4, 5, 6, 7, 8, 9]] (by kernel_rfl) ?_   -- R12 calls [15]
    simp [h, hk']
    refine ⟨_, .call1 _ _ _ rfl Ty.hb15 rfl rfl (f15_spec false false (partV l m k) (partV l m k) (by have := partV_length l m k; omega) hkk hkk), ?_⟩
    simp [sameL_refl]
    refine HT.cond' ?_
    simp
    refine HT.skip ?_
    simp
    refine HT.region ?_   -- R11
    simp
    refine ⟨k + 1, by omega, by omega, HS.le_fits ?_⟩
    simp
    rw [wrap_i64] <;> omega
  · intro h
    refine HT.exit ?_
    simp
    refine HT.seq ?_
    refine HT.region ?_   -- R14
    simp
    refine HT.ret ?_
    simp
end Go.Hv
