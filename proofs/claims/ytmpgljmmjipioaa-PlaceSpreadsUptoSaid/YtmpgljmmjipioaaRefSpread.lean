import Derived.Test.YtmpgljmmjipioaaSame2
set_option linter.unusedVariables false
set_option linter.unusedSimpArgs false
namespace Go.Hv
open Go Go.Hv Go.Proofs
open Go.Proofs.Ytmpgljmmjipioaa
def partsH (l : List Doc) (n : Int) (i : Nat) : List (List HV) := (List.range i).map fun k => [.sl 5 false (docsHV (partV l n k))]
theorem partsH_succ (l : List Doc) (n : Int) (i : Nat) : partsH l n (i + 1) = partsH l n i ++ [[.sl 5 false (docsHV (partV l n i))]] := by
  unfold partsH; rw [List.range_succ, List.map_append]; rfl
@[simp] theorem partsH_length (l : List Doc) (n : Int) (i : Nat) : (partsH l n i).length = i := by simp [partsH]
@[simp] theorem isILL_partsH (l : List Doc) (n : Int) (i : Nat) : isILL (partsH l n i) = true := by simp [isILL, partsH, isIL, isI]
theorem frzs_parts (l : List Doc) (n : Int) (m : Nat) : (frzs 1 m fun i => (5, docsHV (partV l n i))) = partsH l n m := by
  unfold frzs partsH; simp
theorem f13_range (full : Bool) (l : List Doc) (n : Int) (h : n < 1 ∨ 4 < n) : Spec1 Try.prog 13 [.sl 5 full (docsHV l), i64 n] (.sl 0 true []) := by
  refine Spec1.of_HT Try.func13 rfl (by rw [Try.ntmps13]; simp) rfl ?_
  rw [Try.ntmps13]
  refine HT.seq ?_
  refine HT.region ?_   -- R0
  simp
  refine HT.seq ?_
  refine HT.seq ?_
  refine HT.region ?_   -- R1
  by_cases h1 : n < 1
  · simp [h1]
    refine HT.cond' ?_
    simp
    refine HT.seq ?_
    refine HT.region ?_
    simp
    refine HT.ret ?_
    simp
  · have h2 : 4 < n := by omega
    simp [h1, h2]
    refine HT.cond' ?_
    simp
    refine HT.seq ?_
    refine HT.region ?_
    simp
    refine HT.ret ?_
    simp
theorem f14_range (full : Bool) (l : List Doc) (n : Int) (h : n < 1 ∨ 4 < n) : Spec1 Try.prog 14 [.sl 5 full (docsHV l), i64 n] (.sl 0 true []) := by
  refine Spec1.of_HT Try.func14 rfl (by rw [Try.ntmps14]; simp) rfl ?_
  rw [Try.ntmps14]
  refine HT.seq ?_
  refine HT.region ?_   -- R0
  simp
  refine HT.seq ?_
  refine HT.seq ?_
  refine HT.region ?_   -- R1
  by_cases h1 : n < 1
  · simp [h1]
    refine HT.cond' ?_
    simp
    refine HT.seq ?_
    refine HT.region ?_
    simp
    refine HT.ret ?_
    simp
  · have h2 : 4 < n := by omega
    simp [h1, h2]
    refine HT.cond' ?_
    simp
    refine HT.seq ?_
    refine HT.region ?_
    simp
    refine HT.ret ?_
    simp
theorem f14_spec (full : Bool) (l : List Doc) (n : Nat) (hl : l.length ≤ 1048576) (hs : Short l) (h1 : 1 ≤ n) (h4 : n ≤ 4) : Spec1 Try.prog 14 [.sl 5 full (docsHV l), i64 n] (.sl 1 false (partsH l n n)) := by
  refine Spec1.of_HT Try.func14 rfl (by rw [Try.ntmps14]; simp) rfl ?_
  rw [Try.ntmps14]
  refine HT.seq ?_
  refine HT.region ?_   -- R0
  simp
  refine HT.seq ?_
  refine HT.seq ?_
  refine HT.region ?_   -- R1
  simp [show ¬ (n : Int) < 1 by omega, show ¬ 4 < (n : Int) by omega]
  refine HT.cond' ?_
  simp
  refine HT.skip ?_
  simp
  refine HT.seq ?_
  refine HT.region ?_   -- R3
  simp
  refine HT.seq ?_
  refine HT.seq ?_
  refine HT.region ?_   -- R4
  simp
  refine HT.block ?_
  refine HT.loop (fun i : {i : Nat // i ≤ n} => ⟨[.s 0 (.sl 5 full (docsHV l)), .s 1 (i64 n), .s 5 (.ref 5), .s 6 (i64 i), .o 5 (.row 27 1 (partsH l n i))], 52⟩) (fun i => n - i) ⟨0, by omega⟩ (HS.le.trans (HS.le_own (t := 5) 5 27 1 _ (by decide) rfl (by decide)) (HS.le_fits ?_)) ?_
  · simp [partsH]
  rintro ⟨i, hi⟩
  refine HT.seq ?_
  refine HT.seq ?_
  refine HT.region ?_   -- R5
  simp
  refine HT.cond' ?_
  simp
  constructor
  · intro hin
    refine HT.skip ?_
    simp
    refine HT.seq ?_
    refine HT.block ?_
    refine HT.seq ?_
    refine HT.region ?_   -- R7
    simp
    refine HT.seq ?_
    refine HT.seq ?_
    refine HT.region ?_   -- R8
    simp
    refine HT.block ?_
    refine HT.loop (fun k : {k : Nat // k ≤ l.length} => ⟨[.s 0 (.sl 5 full (docsHV l)), .s 1 (i64 n), .s 5 (.ref 5), .s 6 (i64 i), .o 5 (.row 27 1 (partsH l n i)), .s 7 (.ref 7), .o 7 (.row 48 5 (docsHV (partV (l.take k) n i))), .s 8 (i64 k)], 52⟩) (fun k => l.length - k) ⟨0, by omega⟩ (HS.le.trans (HS.le_own (t := 7) 7 48 5 _ (by decide) rfl (by decide)) (HS.le_fits ?_)) ?_
    · simp [partV]
    rintro ⟨k, hk⟩
    refine HT.seq ?_
    refine HT.seq ?_
    refine HT.region ?_   -- R9
    simp
    refine HT.cond' ?_
    simp
    constructor
    · intro h
      have hk' : k < l.length := by omega
      have hsk := hs _ (List.getElem_mem hk')
      have b1 : ∀ N, 4000000 ≤ N → (partV (l.take k) n i).length ≤ N := fun N h => by have := partV_length (l.take k) n i; simp at this; omega
      have b2 : ∀ N, 4000000 ≤ N → (partV (l.take k) n i).length + 1 ≤ N := fun N h => by have := partV_length (l.take k) n i; simp at this; omega
      have b3 : ∀ N, 400000000 ≤ N → ((partV (l.take k) n i).length + 1) * 80 ≤ N := fun N h => by have := partV_length (l.take k) n i; simp at this; omega
      refine HT.skip ?_
      simp
      refine HT.seq ?_
      refine HT.block ?_
      refine HT.seq ?_
      refine HT.draw [.batch [0, 1, 2, 3, 4, 5, 6, 7, 8, 9, 10, 11, 12, 13]] (by kernel_rfl) ?_   -- R11 calls [12]
      simp [h, hk']
      refine ⟨_, .call1 _ _ _ rfl Ty.hb12 rfl rfl (f12_spec _ _ n hsk.1 hsk.2 (by omega)), ?_⟩
      simp
      refine HT.cond' ?_
      simp
      constructor
      · intro he
        refine HT.region ?_   -- R12
        simp [h, hk', b1, b2, b3]
        refine HT.region ?_   -- R10
        simp
        refine ⟨k + 1, by omega, by omega, HS.le_fits ?_⟩
        rw [partV_succ hk', if_pos he, docsHV_append, docsHV_cons]
        simp
        rw [wrap_i64] <;> omega
      · intro he
        refine HT.skip ?_
        simp
        refine HT.region ?_   -- R10
        simp
        refine ⟨k + 1, by omega, by omega, HS.le_fits ?_⟩
        rw [partV_succ hk', if_neg he]
        simp
        rw [wrap_i64] <;> omega
    · intro h
      obtain rfl : k = l.length := by omega
      refine HT.exit ?_
      simp
      refine HT.region ?_   -- R13
      simp [show i + 1 ≤ 9223372036854775807 by omega, show i ≤ 9223372036854775806 by omega, show (i + 1) * 24 ≤ 140737488355328 by omega]
      refine HT.region ?_   -- R6
      simp
      refine ⟨i + 1, by omega, by omega, HS.le_fits ?_⟩
      rw [partsH_succ]
      simp
      rw [wrap_i64] <;> omega
  · intro h
    obtain rfl : i = n := by omega
    refine HT.exit ?_
    simp
    refine HT.seq ?_
    refine HT.region ?_   -- R14
    simp
    refine HT.ret ?_
    simp
end Go.Hv
