import Derived.Test.YtlbmbnpknobjdaaGreatDoorWX1
set_option linter.unusedVariables false
set_option linter.unusedSimpArgs false
namespace Go.Hv
open Go Go.Hv Go.Proofs Go.RowKit
open Go.Proofs.YtlbmbnpknobjdaaGreatDoor
theorem letter_split (c : UInt8) : letterV c = true ↔ isLetV c = true ∨ isDigV c = true ∨ (c.toNat : Int) = 46 ∨ (c.toNat : Int) = 95 ∨ (c.toNat : Int) = 45 := by
  rw [letterV_eq]; unfold isLetV isDigV; simp only [decide_eq_true_eq]; omega
theorem letter_no {c : UInt8} (h : ¬ (isLetV c = true ∨ isDigV c = true ∨ (c.toNat : Int) = 46 ∨ (c.toNat : Int) = 95 ∨ (c.toNat : Int) = 45)) : letterV c = false := by
  cases hc : letterV c with
  | false => rfl
  | true => exact absurd ((letter_split c).1 hc) h
theorem nameOK_no {s : List UInt8} (h : s.length < 1 ∨ 24 < s.length ∨ s = [46] ∨ s = [46, 46]) : nameOK s = false := by
  unfold nameOK
  rw [decide_eq_false (by rintro ⟨h1, h2, h3, h4⟩; rcases h with h | h | h | h; omega; omega; exact h3 h; exact h4 h)]; rfl
theorem nameOK_all {s : List UInt8} (h1 : ¬ s.length < 1) (h2 : ¬ 24 < s.length) (h3 : ¬ s = [46]) (h4 : ¬ s = [46, 46]) : nameOK s = s.all letterV := by
  unfold nameOK
  rw [decide_eq_true ⟨by omega, by omega, h3, h4⟩]; simp
set_option maxRecDepth 20000 in
set_option maxHeartbeats 2000000 in
theorem refName_spec (s : List UInt8) (hs : s.length ≤ 140737488355328) : Spec1 Tryz.prog 124 [.str s] (bo (nameOK s)) := by
  refine Spec1.of_HT Tryz.func124 rfl (by rw [Tryz.ntmps124]; simp) rfl ?_
  rw [Tryz.ntmps124]
  refine HT.seq ?_
  refine HT.region ?_   -- R0
  simp (disch := first | omega | (simp <;> omega) | fail) [wrap_i64, wrap_u64, wrap_u8']
  refine HT.seq ?_
  refine HT.seq ?_
  by_cases c1 : s.length < 1
  · skip
    refine HT.region ?_   -- R1
    simp (disch := first | omega | (simp <;> omega) | fail) [wrap_i64, wrap_u64, wrap_u8']
    refine HT.cond' ?_   -- if 19
    simp (disch := first | omega | (simp <;> omega) | fail) [wrap_i64, wrap_u64, wrap_u8']
    refine HT.seq ?_
    refine HT.region ?_   -- R2
    simp (disch := first | omega | (simp <;> omega) | fail) [wrap_i64, wrap_u64, wrap_u8']
    refine HT.ret ?_
    have hx : nameOK s = false := nameOK_no (by first | exact .inl c1 | exact .inr (.inl c2) | exact .inr (.inr (.inl c3)) | exact .inr (.inr (.inr c4)))
    simp (disch := first | omega | (simp <;> omega) | fail) [wrap_i64, wrap_u64, wrap_u8', hx]
  by_cases c2 : 24 < s.length
  · skip
    refine HT.region ?_   -- R1
    simp (disch := first | omega | (simp <;> omega) | fail) [wrap_i64, wrap_u64, wrap_u8']
    refine HT.cond' ?_   -- if 19
    simp (disch := first | omega | (simp <;> omega) | fail) [wrap_i64, wrap_u64, wrap_u8']
    refine HT.seq ?_
    refine HT.region ?_   -- R2
    simp (disch := first | omega | (simp <;> omega) | fail) [wrap_i64, wrap_u64, wrap_u8']
    refine HT.ret ?_
    have hx : nameOK s = false := nameOK_no (by first | exact .inl c1 | exact .inr (.inl c2) | exact .inr (.inr (.inl c3)) | exact .inr (.inr (.inr c4)))
    simp (disch := first | omega | (simp <;> omega) | fail) [wrap_i64, wrap_u64, wrap_u8', hx]
  by_cases c3 : s = [46]
  · skip
    refine HT.region ?_   -- R1
    simp (disch := first | omega | (simp <;> omega) | fail) [wrap_i64, wrap_u64, wrap_u8', c3]
    refine HT.cond' ?_   -- if 19
    simp (disch := first | omega | (simp <;> omega) | fail) [wrap_i64, wrap_u64, wrap_u8']
    refine HT.seq ?_
    refine HT.region ?_   -- R2
    simp (disch := first | omega | (simp <;> omega) | fail) [wrap_i64, wrap_u64, wrap_u8']
    refine HT.ret ?_
    have hx : nameOK s = false := nameOK_no (by first | exact .inl c1 | exact .inr (.inl c2) | exact .inr (.inr (.inl c3)) | exact .inr (.inr (.inr c4)))
    simp (disch := first | omega | (simp <;> omega) | fail) [wrap_i64, wrap_u64, wrap_u8', hx]
  by_cases c4 : s = [46, 46]
  · skip
    refine HT.region ?_   -- R1
    simp (disch := first | omega | (simp <;> omega) | fail) [wrap_i64, wrap_u64, wrap_u8', c3, c4]
    refine HT.cond' ?_   -- if 19
    simp (disch := first | omega | (simp <;> omega) | fail) [wrap_i64, wrap_u64, wrap_u8']
    refine HT.seq ?_
    refine HT.region ?_   -- R2
    simp (disch := first | omega | (simp <;> omega) | fail) [wrap_i64, wrap_u64, wrap_u8']
    refine HT.ret ?_
    have hx : nameOK s = false := nameOK_no (by first | exact .inl c1 | exact .inr (.inl c2) | exact .inr (.inr (.inl c3)) | exact .inr (.inr (.inr c4)))
    simp (disch := first | omega | (simp <;> omega) | fail) [wrap_i64, wrap_u64, wrap_u8', hx]
  refine HT.region ?_   -- R1
  simp (disch := first | omega | (simp <;> omega) | fail) [wrap_i64, wrap_u64, wrap_u8', c3, c4]
  refine HT.cond' ?_   -- if 19
  simp (disch := first | omega | (simp <;> omega) | fail) [wrap_i64, wrap_u64, wrap_u8']
  refine HT.skip ?_
  simp (disch := first | omega | (simp <;> omega) | fail) [wrap_i64, wrap_u64, wrap_u8']
  refine HT.seq ?_
  refine HT.seq ?_
  refine HT.region ?_   -- R3
  simp (disch := first | omega | (simp <;> omega) | fail) [wrap_i64, wrap_u64, wrap_u8']
  refine HT.block ?_
  refine HT.loopK (fun k : {k : Nat // k ≤ s.length ∧ UpTo letterV s k} => [.s 3 (i64 k)]) [0] [] (fun k => s.length - k) (⟨0, by omega, UpTo.zero _ _⟩) ?_ ?_   -- block 0 turned [3, 32, 33, 34, 35, 36, 39, 40, 41, 42, 45, 46, 47, 48, 51, 52, 53, 54]
  · simp (disch := first | omega | (simp <;> omega) | fail) [wrap_i64, wrap_u64, wrap_u8']
  rintro ⟨k, hk, hg⟩
  simp (disch := first | omega | (simp <;> omega) | fail) [wrap_i64, wrap_u64, wrap_u8']
  refine HT.seq ?_
  refine HT.seq ?_
  refine HT.region ?_   -- R4
  simp (disch := first | omega | (simp <;> omega) | fail) [wrap_i64, wrap_u64, wrap_u8']
  refine HT.cond' ?_   -- if 23
  simp (disch := first | omega | (simp <;> omega) | fail) [wrap_i64, wrap_u64, wrap_u8']
  refine ⟨fun h23 => ?_, fun h23 => ?_⟩
  · skip
    have hk' : k < s.length := by omega
    refine HT.skip ?_
    simp (disch := first | omega | (simp <;> omega) | fail) [wrap_i64, wrap_u64, wrap_u8']
    refine HT.seq ?_
    refine HT.block ?_
    refine HT.seq ?_
    by_cases a1 : isLetV s[k] = true
    · skip
      refine HT.region ?_   -- R6
      simp (disch := first | omega | (simp <;> omega) | fail) [wrap_i64, wrap_u64, wrap_u8', a1]
      refine stepK.mk (.call1 _ _ _ _ rfl Ty.hb146 rfl (Letter_spec s[k]) rfl rfl) ?_
      simp (disch := first | omega | (simp <;> omega) | fail) [wrap_i64, wrap_u64, wrap_u8', a1]
      refine HT.cond' ?_   -- if 55
      simp (disch := first | omega | (simp <;> omega) | fail) [wrap_i64, wrap_u64, wrap_u8']
      refine HT.skip ?_
      simp (disch := first | omega | (simp <;> omega) | fail) [wrap_i64, wrap_u64, wrap_u8']
      refine HT.region ?_   -- R5
      simp (disch := first | omega | (simp <;> omega) | fail) [wrap_i64, wrap_u64, wrap_u8']
      refine Round.mk' (⟨k + 1, by omega, hg.succ hk' ((letter_split _).2 (by first | exact .inl a1 | exact .inr (.inl a2) | exact .inr (.inr (by omega))))⟩) (by dsimp only; omega) rfl ?_
      simp (disch := first | omega | (simp <;> omega) | fail) [wrap_i64, wrap_u64, wrap_u8']
    by_cases a2 : isDigV s[k] = true
    · skip
      refine HT.region ?_   -- R6
      simp (disch := first | omega | (simp <;> omega) | fail) [wrap_i64, wrap_u64, wrap_u8', a1, a2]
      refine stepK.mk (.call1 _ _ _ _ rfl Ty.hb146 rfl (Letter_spec s[k]) rfl rfl) ?_
      simp (disch := first | omega | (simp <;> omega) | fail) [wrap_i64, wrap_u64, wrap_u8', a1, a2]
      refine stepK.mk (.call1 _ _ _ _ rfl Ty.hb147 rfl (Digit_spec s[k]) rfl rfl) ?_
      simp (disch := first | omega | (simp <;> omega) | fail) [wrap_i64, wrap_u64, wrap_u8', a1, a2]
      refine HT.cond' ?_   -- if 55
      simp (disch := first | omega | (simp <;> omega) | fail) [wrap_i64, wrap_u64, wrap_u8']
      refine HT.skip ?_
      simp (disch := first | omega | (simp <;> omega) | fail) [wrap_i64, wrap_u64, wrap_u8']
      refine HT.region ?_   -- R5
      simp (disch := first | omega | (simp <;> omega) | fail) [wrap_i64, wrap_u64, wrap_u8']
      refine Round.mk' (⟨k + 1, by omega, hg.succ hk' ((letter_split _).2 (by first | exact .inl a1 | exact .inr (.inl a2) | exact .inr (.inr (by omega))))⟩) (by dsimp only; omega) rfl ?_
      simp (disch := first | omega | (simp <;> omega) | fail) [wrap_i64, wrap_u64, wrap_u8']
    by_cases a3 : (s[k].toNat : Int) = 46
    · skip
      refine HT.region ?_   -- R6
      simp (disch := first | omega | (simp <;> omega) | fail) [wrap_i64, wrap_u64, wrap_u8', a1, a2]
      refine stepK.mk (.call1 _ _ _ _ rfl Ty.hb146 rfl (Letter_spec s[k]) rfl rfl) ?_
      simp (disch := first | omega | (simp <;> omega) | fail) [wrap_i64, wrap_u64, wrap_u8', a1, a2]
      refine stepK.mk (.call1 _ _ _ _ rfl Ty.hb147 rfl (Digit_spec s[k]) rfl rfl) ?_
      simp (disch := first | omega | (simp <;> omega) | fail) [wrap_i64, wrap_u64, wrap_u8', a1, a2]
      refine HT.cond' ?_   -- if 55
      simp (disch := first | omega | (simp <;> omega) | fail) [wrap_i64, wrap_u64, wrap_u8']
      refine HT.skip ?_
      simp (disch := first | omega | (simp <;> omega) | fail) [wrap_i64, wrap_u64, wrap_u8']
      refine HT.region ?_   -- R5
      simp (disch := first | omega | (simp <;> omega) | fail) [wrap_i64, wrap_u64, wrap_u8']
      refine Round.mk' (⟨k + 1, by omega, hg.succ hk' ((letter_split _).2 (by first | exact .inl a1 | exact .inr (.inl a2) | exact .inr (.inr (by omega))))⟩) (by dsimp only; omega) rfl ?_
      simp (disch := first | omega | (simp <;> omega) | fail) [wrap_i64, wrap_u64, wrap_u8']
    by_cases a4 : (s[k].toNat : Int) = 95
    · skip
      refine HT.region ?_   -- R6
      simp (disch := first | omega | (simp <;> omega) | fail) [wrap_i64, wrap_u64, wrap_u8', a1, a2]
      refine stepK.mk (.call1 _ _ _ _ rfl Ty.hb146 rfl (Letter_spec s[k]) rfl rfl) ?_
      simp (disch := first | omega | (simp <;> omega) | fail) [wrap_i64, wrap_u64, wrap_u8', a1, a2]
      refine stepK.mk (.call1 _ _ _ _ rfl Ty.hb147 rfl (Digit_spec s[k]) rfl rfl) ?_
      simp (disch := first | omega | (simp <;> omega) | fail) [wrap_i64, wrap_u64, wrap_u8', a1, a2]
      refine HT.cond' ?_   -- if 55
      simp (disch := first | omega | (simp <;> omega) | fail) [wrap_i64, wrap_u64, wrap_u8']
      refine HT.skip ?_
      simp (disch := first | omega | (simp <;> omega) | fail) [wrap_i64, wrap_u64, wrap_u8']
      refine HT.region ?_   -- R5
      simp (disch := first | omega | (simp <;> omega) | fail) [wrap_i64, wrap_u64, wrap_u8']
      refine Round.mk' (⟨k + 1, by omega, hg.succ hk' ((letter_split _).2 (by first | exact .inl a1 | exact .inr (.inl a2) | exact .inr (.inr (by omega))))⟩) (by dsimp only; omega) rfl ?_
      simp (disch := first | omega | (simp <;> omega) | fail) [wrap_i64, wrap_u64, wrap_u8']
    by_cases a5 : (s[k].toNat : Int) = 45
    · skip
      refine HT.region ?_   -- R6
      simp (disch := first | omega | (simp <;> omega) | fail) [wrap_i64, wrap_u64, wrap_u8', a1, a2]
      refine stepK.mk (.call1 _ _ _ _ rfl Ty.hb146 rfl (Letter_spec s[k]) rfl rfl) ?_
      simp (disch := first | omega | (simp <;> omega) | fail) [wrap_i64, wrap_u64, wrap_u8', a1, a2]
      refine stepK.mk (.call1 _ _ _ _ rfl Ty.hb147 rfl (Digit_spec s[k]) rfl rfl) ?_
      simp (disch := first | omega | (simp <;> omega) | fail) [wrap_i64, wrap_u64, wrap_u8', a1, a2]
      refine HT.cond' ?_   -- if 55
      simp (disch := first | omega | (simp <;> omega) | fail) [wrap_i64, wrap_u64, wrap_u8']
      refine HT.skip ?_
      simp (disch := first | omega | (simp <;> omega) | fail) [wrap_i64, wrap_u64, wrap_u8']
      refine HT.region ?_   -- R5
      simp (disch := first | omega | (simp <;> omega) | fail) [wrap_i64, wrap_u64, wrap_u8']
      refine Round.mk' (⟨k + 1, by omega, hg.succ hk' ((letter_split _).2 (by first | exact .inl a1 | exact .inr (.inl a2) | exact .inr (.inr (by omega))))⟩) (by dsimp only; omega) rfl ?_
      simp (disch := first | omega | (simp <;> omega) | fail) [wrap_i64, wrap_u64, wrap_u8']
    refine HT.region ?_   -- R6
    simp (disch := first | omega | (simp <;> omega) | fail) [wrap_i64, wrap_u64, wrap_u8', a1, a2]
    refine stepK.mk (.call1 _ _ _ _ rfl Ty.hb146 rfl (Letter_spec s[k]) rfl rfl) ?_
    simp (disch := first | omega | (simp <;> omega) | fail) [wrap_i64, wrap_u64, wrap_u8', a1, a2]
    refine stepK.mk (.call1 _ _ _ _ rfl Ty.hb147 rfl (Digit_spec s[k]) rfl rfl) ?_
    simp (disch := first | omega | (simp <;> omega) | fail) [wrap_i64, wrap_u64, wrap_u8', a1, a2]
    refine HT.cond' ?_   -- if 55
    simp (disch := first | omega | (simp <;> omega) | fail) [wrap_i64, wrap_u64, wrap_u8']
    refine HT.seq ?_
    refine HT.region ?_   -- R7
    simp (disch := first | omega | (simp <;> omega) | fail) [wrap_i64, wrap_u64, wrap_u8']
    refine HT.ret ?_
    have hx2 := all_not (q := letterV) hk' (letter_no (by rintro (h | h | h | h | h); exact a1 h; exact a2 h; exact a3 h; exact a4 h; exact a5 h))
    have hx := nameOK_all c1 c2 c3 c4
    simp (disch := first | omega | (simp <;> omega) | fail) [wrap_i64, wrap_u64, wrap_u8', hx, hx2]
  · skip
    obtain rfl : k = s.length := by omega
    have hx2 := hg.all
    refine HT.exit ?_
    simp (disch := first | omega | (simp <;> omega) | fail) [wrap_i64, wrap_u64, wrap_u8']
    refine HT.seq ?_
    refine HT.region ?_   -- R8
    simp (disch := first | omega | (simp <;> omega) | fail) [wrap_i64, wrap_u64, wrap_u8']
    refine HT.ret ?_
    have hx := nameOK_all c1 c2 c3 c4
    simp (disch := first | omega | (simp <;> omega) | fail) [wrap_i64, wrap_u64, wrap_u8', hx, hx2]
theorem pathV_long {s : List UInt8} (h : 60 < s.length) : pathV s = false := by unfold pathV; rw [decide_eq_false (by omega)]; rfl
theorem pathV_all {s : List UInt8} (h : s.length ≤ 60) : pathV s = (partsV s).all nameOK := by unfold pathV; rw [decide_eq_true h]; simp
theorem partsV_part : ∀ (s : List UInt8), ∀ p ∈ partsV s, p.length ≤ s.length
  | [], p, h => by simp [partsV] at h; subst h; simp
  | c :: s, p, h => by
    have ih := partsV_part s
    unfold partsV at h
    split at h
    · rcases List.mem_cons.1 h with rfl | h
      · simp
      · have := ih p h; simp; omega
    · split at h
      · simp at h; subst h; simp
      · next q r e =>
        rw [e] at ih
        rcases List.mem_cons.1 h with rfl | h
        · have := ih q (by simp); simp; omega
        · have := ih p (by simp [h]); simp; omega
theorem partsV_count : ∀ (s : List UInt8), (partsV s).length ≤ s.length + 1
  | [] => by simp [partsV]
  | c :: s => by
    have ih := partsV_count s
    unfold partsV
    split
    · simp; omega
    · split
      · simp
      · next q r e => rw [e] at ih; simp at ih ⊢; omega
set_option maxRecDepth 20000 in
set_option maxHeartbeats 4000000 in
theorem Path_spec (s : List UInt8) (hs : s.length ≤ 140737488355328) : Spec1 Tryz.prog 108 [.str s] (bo (pathV s)) := by
  refine Spec1.of_HT Tryz.func108 rfl (by rw [Tryz.ntmps108]; simp) rfl ?_
  rw [Tryz.ntmps108]
  refine HT.seq ?_
  refine HT.region ?_   -- R0
  simp (disch := first | omega | (simp <;> omega) | fail) [wrap_i64, wrap_u64, wrap_u8']
  refine HT.scope ?_
  refine HT.seq ?_
  refine HT.seq ?_
  refine HT.region ?_   -- R1
  simp (disch := first | omega | (simp <;> omega) | fail) [wrap_i64, wrap_u64, wrap_u8']
  refine HT.cond' ?_   -- if 8
  simp (disch := first | omega | (simp <;> omega) | fail) [wrap_i64, wrap_u64, wrap_u8']
  refine ⟨fun h8 => ?_, fun h8 => ?_⟩
  · skip
    have hx := pathV_long (show 60 < s.length by omega)
    refine HT.seq ?_
    refine HT.region ?_   -- R2
    simp (disch := first | omega | (simp <;> omega) | fail) [wrap_i64, wrap_u64, wrap_u8']
    refine HT.ret ?_
    simp (disch := first | omega | (simp <;> omega) | fail) [wrap_i64, wrap_u64, wrap_u8', hx]
  · skip
    have hl : s.length ≤ 60 := by omega
    have hx := pathV_all hl
    have hpc := partsV_count s
    refine HT.skip ?_
    simp (disch := first | omega | (simp <;> omega) | fail) [wrap_i64, wrap_u64, wrap_u8']
    refine HT.seq ?_
    refine HT.label ?_
    simp (disch := first | omega | (simp <;> omega) | fail) [wrap_i64, wrap_u64, wrap_u8']
    refine HT.seq ?_
    refine HT.seq ?_
    refine HT.region ?_   -- R3
    simp (disch := first | omega | (simp <;> omega) | fail) [wrap_i64, wrap_u64, wrap_u8']
    refine stepK.mk (.call1f _ _ _ _ _ rfl Ty.hb131 rfl rfl (Split_spec s (by omega)) rfl) ?_
    simp (disch := first | omega | (simp <;> omega) | fail) [wrap_i64, wrap_u64, wrap_u8']
    refine HT.block ?_
    refine HT.loopK (fun k : {k : Nat // k ≤ (partsV s).length ∧ UpTo nameOK (partsV s) k} => [.s 12 (i64 k)]) [10, 11] [] (fun k => (partsV s).length - k) (⟨0, by omega, UpTo.zero _ _⟩) ?_ ?_   -- block 0 turned [12, 19, 20, 23, 24, 25, 28, 29, 30]
    · simp (disch := first | omega | (simp <;> omega) | fail) [wrap_i64, wrap_u64, wrap_u8']
    rintro ⟨k, hk, hg⟩
    simp (disch := first | omega | (simp <;> omega) | fail) [wrap_i64, wrap_u64, wrap_u8']
    refine HT.seq ?_
    refine HT.region ?_   -- R4
    simp (disch := first | omega | (simp <;> omega) | fail) [wrap_i64, wrap_u64, wrap_u8']
    refine HT.seq ?_
    refine HT.cond' ?_   -- if 13
    simp (disch := first | omega | (simp <;> omega) | fail) [wrap_i64, wrap_u64, wrap_u8']
    refine ⟨fun h13 => ?_, fun h13 => ?_⟩
    · skip
      have hk' : k < (partsV s).length := by omega
      have hpp := partsV_part s _ (List.getElem_mem hk')
      refine HT.skip ?_
      simp (disch := first | omega | (simp <;> omega) | fail) [wrap_i64, wrap_u64, wrap_u8']
      refine HT.seq ?_
      refine HT.block ?_
      refine HT.seq ?_
      refine HT.region ?_   -- R5
      simp (disch := first | omega | (simp <;> omega) | fail) [wrap_i64, wrap_u64, wrap_u8']
      refine HT.seq ?_
      refine HT.seq ?_
      by_cases c1 : (partsV s)[k] = [46]
      · skip
        refine HT.region ?_   -- R6
        simp (disch := first | omega | (simp <;> omega) | fail) [wrap_i64, wrap_u64, wrap_u8', c1]
        refine HT.cond' ?_   -- if 31
        simp (disch := first | omega | (simp <;> omega) | fail) [wrap_i64, wrap_u64, wrap_u8']
        refine HT.seq ?_
        refine HT.region ?_   -- R7
        simp (disch := first | omega | (simp <;> omega) | fail) [wrap_i64, wrap_u64, wrap_u8']
        refine HT.ret ?_
        have hx2 := all_not (q := nameOK) hk' (nameOK_no (by first | exact .inl c3 | exact .inr (.inl c4) | exact .inr (.inr (.inl c1)) | exact .inr (.inr (.inr c2))))
        simp (disch := first | omega | (simp <;> omega) | fail) [wrap_i64, wrap_u64, wrap_u8', hx, hx2]
      by_cases c2 : (partsV s)[k] = [46, 46]
      · skip
        refine HT.region ?_   -- R6
        simp (disch := first | omega | (simp <;> omega) | fail) [wrap_i64, wrap_u64, wrap_u8', c1, c2]
        refine HT.cond' ?_   -- if 31
        simp (disch := first | omega | (simp <;> omega) | fail) [wrap_i64, wrap_u64, wrap_u8']
        refine HT.seq ?_
        refine HT.region ?_   -- R7
        simp (disch := first | omega | (simp <;> omega) | fail) [wrap_i64, wrap_u64, wrap_u8']
        refine HT.ret ?_
        have hx2 := all_not (q := nameOK) hk' (nameOK_no (by first | exact .inl c3 | exact .inr (.inl c4) | exact .inr (.inr (.inl c1)) | exact .inr (.inr (.inr c2))))
        simp (disch := first | omega | (simp <;> omega) | fail) [wrap_i64, wrap_u64, wrap_u8', hx, hx2]
      by_cases c3 : (partsV s)[k].length < 1
      · skip
        refine HT.region ?_   -- R6
        simp (disch := first | omega | (simp <;> omega) | fail) [wrap_i64, wrap_u64, wrap_u8', c1, c2]
        refine HT.cond' ?_   -- if 31
        simp (disch := first | omega | (simp <;> omega) | fail) [wrap_i64, wrap_u64, wrap_u8']
        refine HT.seq ?_
        refine HT.region ?_   -- R7
        simp (disch := first | omega | (simp <;> omega) | fail) [wrap_i64, wrap_u64, wrap_u8']
        refine HT.ret ?_
        have hx2 := all_not (q := nameOK) hk' (nameOK_no (by first | exact .inl c3 | exact .inr (.inl c4) | exact .inr (.inr (.inl c1)) | exact .inr (.inr (.inr c2))))
        simp (disch := first | omega | (simp <;> omega) | fail) [wrap_i64, wrap_u64, wrap_u8', hx, hx2]
      by_cases c4 : 24 < (partsV s)[k].length
      · skip
        refine HT.region ?_   -- R6
        simp (disch := first | omega | (simp <;> omega) | fail) [wrap_i64, wrap_u64, wrap_u8', c1, c2]
        refine HT.cond' ?_   -- if 31
        simp (disch := first | omega | (simp <;> omega) | fail) [wrap_i64, wrap_u64, wrap_u8']
        refine HT.seq ?_
        refine HT.region ?_   -- R7
        simp (disch := first | omega | (simp <;> omega) | fail) [wrap_i64, wrap_u64, wrap_u8']
        refine HT.ret ?_
        have hx2 := all_not (q := nameOK) hk' (nameOK_no (by first | exact .inl c3 | exact .inr (.inl c4) | exact .inr (.inr (.inl c1)) | exact .inr (.inr (.inr c2))))
        simp (disch := first | omega | (simp <;> omega) | fail) [wrap_i64, wrap_u64, wrap_u8', hx, hx2]
      refine HT.region ?_   -- R6
      simp (disch := first | omega | (simp <;> omega) | fail) [wrap_i64, wrap_u64, wrap_u8', c1, c2]
      refine HT.cond' ?_   -- if 31
      simp (disch := first | omega | (simp <;> omega) | fail) [wrap_i64, wrap_u64, wrap_u8']
      refine HT.skip ?_
      simp (disch := first | omega | (simp <;> omega) | fail) [wrap_i64, wrap_u64, wrap_u8']
      refine HT.seq ?_
      refine HT.region ?_   -- R8
      simp (disch := first | omega | (simp <;> omega) | fail) [wrap_i64, wrap_u64, wrap_u8']
      refine HT.block ?_
      refine HT.loopK (fun j : {j : Nat // j ≤ (partsV s)[k].length ∧ UpTo letterV (partsV s)[k] j} => [.s 5 (i64 j)]) [4, 10, 11, 12, 19, 20, 23, 24, 25, 28, 29, 30] [] (fun j => (partsV s)[k].length - j) (⟨0, by omega, UpTo.zero _ _⟩) ?_ ?_   -- block 2 turned [5]
      · simp (disch := first | omega | (simp <;> omega) | fail) [wrap_i64, wrap_u64, wrap_u8']
      rintro ⟨j, hj, hgj⟩
      simp (disch := first | omega | (simp <;> omega) | fail) [wrap_i64, wrap_u64, wrap_u8']
      refine HT.seq ?_
      refine HT.block ?_
      refine HT.seq ?_
      refine HT.seq ?_
      refine HT.region ?_   -- R10
      simp (disch := first | omega | (simp <;> omega) | fail) [wrap_i64, wrap_u64, wrap_u8']
      refine HT.cond' ?_   -- if 37
      simp (disch := first | omega | (simp <;> omega) | fail) [wrap_i64, wrap_u64, wrap_u8']
      refine ⟨fun h37 => ?_, fun h37 => ?_⟩
      · skip
        have hnm : nameOK (partsV s)[k] = true := by
          rw [nameOK_all c3 c4 c1 c2]
          obtain rfl : j = (partsV s)[k].length := by omega
          exact hgj.all
        refine HT.exit ?_
        simp (disch := first | omega | (simp <;> omega) | fail) [wrap_i64, wrap_u64, wrap_u8']
        refine HT.region ?_   -- R13
        simp (disch := first | omega | (simp <;> omega) | fail) [wrap_i64, wrap_u64, wrap_u8']
        refine Round.mk' (⟨k + 1, by omega, hg.succ hk' hnm⟩) (by dsimp only; omega) rfl ?_
        simp (disch := first | omega | (simp <;> omega) | fail) [wrap_i64, wrap_u64, wrap_u8']
      · skip
        have hj' : j < (partsV s)[k].length := by omega
        refine HT.skip ?_
        simp (disch := first | omega | (simp <;> omega) | fail) [wrap_i64, wrap_u64, wrap_u8']
        refine HT.seq ?_
        refine HT.region ?_   -- R11
        simp (disch := first | omega | (simp <;> omega) | fail) [wrap_i64, wrap_u64, wrap_u8']
        refine stepK.mk (.call1 _ _ _ _ rfl Ty.hb132 rfl (letter_spec (partsV s)[k][j]) rfl rfl) ?_
        simp (disch := first | omega | (simp <;> omega) | fail) [wrap_i64, wrap_u64, wrap_u8']
        refine HT.cond' ?_   -- if 42
        simp (disch := first | omega | (simp <;> omega) | fail) [wrap_i64, wrap_u64, wrap_u8']
        refine ⟨fun h42 => ?_, fun h42 => ?_⟩
        · skip
          refine HT.seq ?_
          refine HT.region ?_   -- R12
          simp (disch := first | omega | (simp <;> omega) | fail) [wrap_i64, wrap_u64, wrap_u8']
          refine HT.ret ?_
          have hx2 := all_not (q := nameOK) hk' (by rw [nameOK_all c3 c4 c1 c2]; exact all_not hj' (by simpa using h42))
          simp (disch := first | omega | (simp <;> omega) | fail) [wrap_i64, wrap_u64, wrap_u8', hx, hx2]
        · skip
          refine HT.skip ?_
          simp (disch := first | omega | (simp <;> omega) | fail) [wrap_i64, wrap_u64, wrap_u8']
          refine HT.region ?_   -- R9
          simp (disch := first | omega | (simp <;> omega) | fail) [wrap_i64, wrap_u64, wrap_u8']
          refine Round.mk' (⟨j + 1, by omega, hgj.succ hj' h42⟩) (by dsimp only; omega) rfl ?_
          simp (disch := first | omega | (simp <;> omega) | fail) [wrap_i64, wrap_u64, wrap_u8']
    · skip
      obtain rfl : k = (partsV s).length := by omega
      have hx2 := hg.all
      refine HT.exit ?_
      simp (disch := first | omega | (simp <;> omega) | fail) [wrap_i64, wrap_u64, wrap_u8']
      refine HT.seq ?_
      refine HT.region ?_   -- R14
      simp (disch := first | omega | (simp <;> omega) | fail) [wrap_i64, wrap_u64, wrap_u8']
      refine HT.ret ?_
      simp (disch := first | omega | (simp <;> omega) | fail) [wrap_i64, wrap_u64, wrap_u8', hx, hx2]
end Go.Hv
set_option linter.unusedVariables false
set_option linter.unusedSimpArgs false
namespace Go.Hv
open Go Go.Hv Go.Proofs Go.RowKit
open Go.Proofs.YtlbmbnpknobjdaaGreatDoor
theorem parts_one : ∀ {w : List UInt8}, 47 ∉ w → partsV w = [w]
  | [], _ => by simp [partsV]
  | c :: w, h => by
    have hc : ¬ c = 47 := fun e => h (by simp [e])
    rw [partsV, if_neg hc, parts_one (w := w) (fun h2 => h (by simp [h2]))]
theorem parts_app : ∀ {w : List UInt8} (r : List UInt8), 47 ∉ w → partsV (w ++ 47 :: r) = w :: partsV r
  | [], r, _ => by simp [partsV]
  | c :: w, r, h => by
    have hc : ¬ c = 47 := fun e => h (by simp [e])
    rw [List.cons_append, partsV, if_neg hc, parts_app (w := w) r (fun h2 => h (by simp [h2]))]
def allP (s : List UInt8) (b : Nat) : Bool := if b ≤ s.length then (partsV (s.drop b)).all nameOK else true
theorem allP_step {s : List UInt8} {b i : Nat} (hb : b ≤ i) (hi : i ≤ s.length) (hns : ∀ j, b ≤ j → j < i → s[j]? ≠ some 47) (hc : i = s.length ∨ s[i]? = some 47) :
    allP s b = (nameOK ((s.take i).drop b) && allP s (i + 1)) := by
  have hw : 47 ∉ (s.take i).drop b := fun h => by
    obtain ⟨j, hj⟩ := List.mem_iff_getElem?.1 h
    rw [List.getElem?_drop] at hj
    have hl := getElem?_lt hj
    rw [List.length_take] at hl
    rw [List.getElem?_take_of_lt (by omega)] at hj
    exact hns (b + j) (by omega) (by omega) hj
  unfold allP
  rw [if_pos (by omega)]
  rcases hc with rfl | hc
  · rw [if_neg (by omega), List.take_length] at *
    rw [parts_one hw]; simp
  · have hl := getElem?_lt hc
    rw [if_pos (by omega)]
    have e : s.drop b = (s.take i).drop b ++ 47 :: s.drop (i + 1) := by
      rw [List.getElem?_eq_getElem hl] at hc
      have h2 : s.drop i = 47 :: s.drop (i + 1) := by rw [List.drop_eq_getElem_cons hl, Option.some.inj hc]
      rw [← h2, ← List.drop_append_of_le_length (by rw [List.length_take]; omega), List.take_append_drop]
    rw [e, parts_app _ hw]; simp
theorem u8_47 {c : UInt8} (h : (c.toNat : Int) = 47) : c = 47 := UInt8.toNat_inj.1 (by simp; omega)
set_option maxRecDepth 20000 in
set_option maxHeartbeats 4000000 in
theorem refPath_spec (s : List UInt8) (hs : s.length ≤ 140737488355328) : Spec1 Tryz.prog 86 [.str s] (bo (pathV s)) := by
  refine Spec1.of_HT Tryz.func86 rfl (by rw [Tryz.ntmps86]; simp) rfl ?_
  rw [Tryz.ntmps86]
  refine HT.seq ?_
  refine HT.region ?_   -- R0
  simp (disch := first | omega | (simp <;> omega) | fail) [wrap_i64, wrap_u64, wrap_u8']
  refine HT.seq ?_
  refine HT.seq ?_
  refine HT.region ?_   -- R1
  simp (disch := first | omega | (simp <;> omega) | fail) [wrap_i64, wrap_u64, wrap_u8']
  refine HT.cond' ?_   -- if 7
  simp (disch := first | omega | (simp <;> omega) | fail) [wrap_i64, wrap_u64, wrap_u8']
  refine ⟨fun h7 => ?_, fun h7 => ?_⟩
  · skip
    have hx := pathV_long (show 60 < s.length by omega)
    refine HT.seq ?_
    refine HT.region ?_   -- R2
    simp (disch := first | omega | (simp <;> omega) | fail) [wrap_i64, wrap_u64, wrap_u8']
    refine HT.ret ?_
    simp (disch := first | omega | (simp <;> omega) | fail) [wrap_i64, wrap_u64, wrap_u8', hx]
  · skip
    have hl : s.length ≤ 60 := by omega
    have hx := pathV_all hl
    refine HT.skip ?_
    simp (disch := first | omega | (simp <;> omega) | fail) [wrap_i64, wrap_u64, wrap_u8']
    refine HT.seq ?_
    refine HT.region ?_   -- R3
    simp (disch := first | omega | (simp <;> omega) | fail) [wrap_i64, wrap_u64, wrap_u8']
    refine HT.seq ?_
    refine HT.seq ?_
    refine HT.region ?_   -- R4
    simp (disch := first | omega | (simp <;> omega) | fail) [wrap_i64, wrap_u64, wrap_u8']
    refine HT.block ?_
    refine HT.loopK (fun k : {k : Nat × Nat // k.1 ≤ k.2 ∧ k.2 ≤ s.length + 1 ∧ (∀ j, k.1 ≤ j → j < k.2 → s[j]? ≠ some 47) ∧ allP s k.1 = (partsV s).all nameOK ∧ (k.2 = s.length + 1 → k.1 = s.length + 1)} => [.s 3 (i64 k.1.1), .s 4 (i64 k.1.2)]) [0] [] (fun k => s.length + 1 - k.1.2) (⟨⟨0, 0⟩, Nat.le_refl _, by simp, fun j h1 h2 => by simp at h2, by simp [allP], fun h => by simp at h⟩) ?_ ?_   -- block 0 turned [3, 4, 19, 20, 21, 22]
    · simp (disch := first | omega | (simp <;> omega) | fail) [wrap_i64, wrap_u64, wrap_u8']
    rintro ⟨⟨b, i⟩, hbi, hi, hns, hg, hend⟩
    simp (disch := first | omega | (simp <;> omega) | fail) [wrap_i64, wrap_u64, wrap_u8']
    refine HT.seq ?_
    refine HT.seq ?_
    refine HT.region ?_   -- R5
    simp (disch := first | omega | (simp <;> omega) | fail) [wrap_i64, wrap_u64, wrap_u8']
    refine HT.cond' ?_   -- if 11
    simp (disch := first | omega | (simp <;> omega) | fail) [wrap_i64, wrap_u64, wrap_u8']
    refine ⟨fun h11 => ?_, fun h11 => ?_⟩
    · skip
      dsimp only at hbi hi hns hg hend
      have hil : i ≤ s.length := by omega
      refine HT.skip ?_
      simp (disch := first | omega | (simp <;> omega) | fail) [wrap_i64, wrap_u64, wrap_u8']
      refine HT.seq ?_
      refine HT.block ?_
      refine HT.seq ?_
      by_cases c1 : i = s.length
      · skip
        have hsl := c1
        have hstep := allP_step hbi hil hns (.inl c1)
        refine HT.region ?_   -- R7
        simp (disch := first | omega | (simp <;> omega) | fail) [wrap_i64, wrap_u64, wrap_u8']
        refine HT.cond' ?_   -- if 23
        simp (disch := first | omega | (simp <;> omega) | fail) [wrap_i64, wrap_u64, wrap_u8']
        refine HT.seq ?_
        refine HT.seq ?_
        refine HT.region ?_   -- R8
        simp (disch := first | omega | (simp <;> omega) | fail) [wrap_i64, wrap_u64, wrap_u8']
        refine stepK.mk (.call1 _ _ _ _ rfl Ty.hb124 rfl (refName_spec ((s.take i).drop b) (by simp; omega)) rfl rfl) ?_
        simp (disch := first | omega | (simp <;> omega) | fail) [wrap_i64, wrap_u64, wrap_u8']
        refine HT.cond' ?_   -- if 29
        simp (disch := first | omega | (simp <;> omega) | fail) [wrap_i64, wrap_u64, wrap_u8']
        refine ⟨fun h29 => ?_, fun h29 => ?_⟩
        · skip
          refine HT.seq ?_
          refine HT.region ?_   -- R9
          simp (disch := first | omega | (simp <;> omega) | fail) [wrap_i64, wrap_u64, wrap_u8']
          refine HT.ret ?_
          have hx2 : (partsV s).all nameOK = false := by rw [← hg, hstep, show nameOK ((s.take i).drop b) = false by simpa using h29]; rfl
          simp (disch := first | omega | (simp <;> omega) | fail) [wrap_i64, wrap_u64, wrap_u8', hx, hx2]
        · skip
          have hgood : nameOK ((s.take i).drop b) = true := by simpa using h29
          refine HT.skip ?_
          simp (disch := first | omega | (simp <;> omega) | fail) [wrap_i64, wrap_u64, wrap_u8']
          refine HT.region ?_   -- R10
          simp (disch := first | omega | (simp <;> omega) | fail) [wrap_i64, wrap_u64, wrap_u8']
          refine HT.region ?_   -- R6
          simp (disch := first | omega | (simp <;> omega) | fail) [wrap_i64, wrap_u64, wrap_u8']
          first | (have _t := hsl; refine Round.mk' (⟨⟨i + 1, i + 1⟩, by simp, by dsimp only; omega, fun j h1 h2 => by dsimp only at h1 h2; omega, by dsimp only; rw [← hg, hstep, hgood]; simp, fun h => h⟩) (by dsimp only; omega) rfl ?_) | (refine Round.mk' (⟨⟨b, i + 1⟩, by dsimp only; omega, by dsimp only; omega, fun j h1 h2 => by dsimp only at h1 h2; by_cases e : j = i; subst e; rw [List.getElem?_eq_getElem hi']; exact fun h => c2 (by rw [Option.some.inj h]; rfl); exact hns j h1 (by omega), hg, fun h => by dsimp only at h; omega⟩) (by dsimp only; omega) rfl ?_)
          simp (disch := first | omega | (simp <;> omega) | fail) [wrap_i64, wrap_u64, wrap_u8']
      have hi' : i < s.length := by omega
      by_cases c2 : (s[i].toNat : Int) = 47
      · skip
        have hsl := c2
        have hstep := allP_step hbi hil hns (.inr (by rw [List.getElem?_eq_getElem hi', u8_47 c2]))
        refine HT.region ?_   -- R7
        simp (disch := first | omega | (simp <;> omega) | fail) [wrap_i64, wrap_u64, wrap_u8']
        refine HT.cond' ?_   -- if 23
        simp (disch := first | omega | (simp <;> omega) | fail) [wrap_i64, wrap_u64, wrap_u8']
        refine HT.seq ?_
        refine HT.seq ?_
        refine HT.region ?_   -- R8
        simp (disch := first | omega | (simp <;> omega) | fail) [wrap_i64, wrap_u64, wrap_u8']
        refine stepK.mk (.call1 _ _ _ _ rfl Ty.hb124 rfl (refName_spec ((s.take i).drop b) (by simp; omega)) rfl rfl) ?_
        simp (disch := first | omega | (simp <;> omega) | fail) [wrap_i64, wrap_u64, wrap_u8']
        refine HT.cond' ?_   -- if 29
        simp (disch := first | omega | (simp <;> omega) | fail) [wrap_i64, wrap_u64, wrap_u8']
        refine ⟨fun h29 => ?_, fun h29 => ?_⟩
        · skip
          refine HT.seq ?_
          refine HT.region ?_   -- R9
          simp (disch := first | omega | (simp <;> omega) | fail) [wrap_i64, wrap_u64, wrap_u8']
          refine HT.ret ?_
          have hx2 : (partsV s).all nameOK = false := by rw [← hg, hstep, show nameOK ((s.take i).drop b) = false by simpa using h29]; rfl
          simp (disch := first | omega | (simp <;> omega) | fail) [wrap_i64, wrap_u64, wrap_u8', hx, hx2]
        · skip
          have hgood : nameOK ((s.take i).drop b) = true := by simpa using h29
          refine HT.skip ?_
          simp (disch := first | omega | (simp <;> omega) | fail) [wrap_i64, wrap_u64, wrap_u8']
          refine HT.region ?_   -- R10
          simp (disch := first | omega | (simp <;> omega) | fail) [wrap_i64, wrap_u64, wrap_u8']
          refine HT.region ?_   -- R6
          simp (disch := first | omega | (simp <;> omega) | fail) [wrap_i64, wrap_u64, wrap_u8']
          first | (have _t := hsl; refine Round.mk' (⟨⟨i + 1, i + 1⟩, by simp, by dsimp only; omega, fun j h1 h2 => by dsimp only at h1 h2; omega, by dsimp only; rw [← hg, hstep, hgood]; simp, fun h => h⟩) (by dsimp only; omega) rfl ?_) | (refine Round.mk' (⟨⟨b, i + 1⟩, by dsimp only; omega, by dsimp only; omega, fun j h1 h2 => by dsimp only at h1 h2; by_cases e : j = i; subst e; rw [List.getElem?_eq_getElem hi']; exact fun h => c2 (by rw [Option.some.inj h]; rfl); exact hns j h1 (by omega), hg, fun h => by dsimp only at h; omega⟩) (by dsimp only; omega) rfl ?_)
          simp (disch := first | omega | (simp <;> omega) | fail) [wrap_i64, wrap_u64, wrap_u8']
      refine HT.region ?_   -- R7
      simp (disch := first | omega | (simp <;> omega) | fail) [wrap_i64, wrap_u64, wrap_u8']
      refine HT.cond' ?_   -- if 23
      simp (disch := first | omega | (simp <;> omega) | fail) [wrap_i64, wrap_u64, wrap_u8']
      refine HT.skip ?_
      simp (disch := first | omega | (simp <;> omega) | fail) [wrap_i64, wrap_u64, wrap_u8']
      refine HT.region ?_   -- R6
      simp (disch := first | omega | (simp <;> omega) | fail) [wrap_i64, wrap_u64, wrap_u8']
      first | (have _t := hsl; refine Round.mk' (⟨⟨i + 1, i + 1⟩, by simp, by dsimp only; omega, fun j h1 h2 => by dsimp only at h1 h2; omega, by dsimp only; rw [← hg, hstep, hgood]; simp, fun h => h⟩) (by dsimp only; omega) rfl ?_) | (refine Round.mk' (⟨⟨b, i + 1⟩, by dsimp only; omega, by dsimp only; omega, fun j h1 h2 => by dsimp only at h1 h2; by_cases e : j = i; subst e; rw [List.getElem?_eq_getElem hi']; exact fun h => c2 (by rw [Option.some.inj h]; rfl); exact hns j h1 (by omega), hg, fun h => by dsimp only at h; omega⟩) (by dsimp only; omega) rfl ?_)
      simp (disch := first | omega | (simp <;> omega) | fail) [wrap_i64, wrap_u64, wrap_u8']
    · skip
      dsimp only at hbi hi hns hg hend
      have hbe := hend (by omega)
      have hx2 : (partsV s).all nameOK = true := by rw [← hg, hbe]; unfold allP; rw [if_neg (by omega)]
      refine HT.exit ?_
      simp (disch := first | omega | (simp <;> omega) | fail) [wrap_i64, wrap_u64, wrap_u8']
      refine HT.seq ?_
      refine HT.region ?_   -- R11
      simp (disch := first | omega | (simp <;> omega) | fail) [wrap_i64, wrap_u64, wrap_u8']
      refine HT.ret ?_
      simp (disch := first | omega | (simp <;> omega) | fail) [wrap_i64, wrap_u64, wrap_u8', hx, hx2]
set_option maxRecDepth 20000 in
theorem rName_spec (s : List UInt8) (hs : s.length ≤ 140737488355328) : Spec1 Tryz.prog 85 [.str s] (bo (nameV s)) := by
  refine Spec1.of_HT Tryz.func85 rfl (by rw [Tryz.ntmps85]; simp) rfl ?_
  rw [Tryz.ntmps85]
  refine HT.seq ?_
  refine HT.region ?_   -- R0
  simp (disch := first | omega | (simp <;> omega) | fail) [wrap_i64, wrap_u64, wrap_u8']
  refine HT.seq ?_
  refine HT.seq ?_
  refine HT.region ?_   -- R1
  simp (disch := first | omega | (simp <;> omega) | fail) [wrap_i64, wrap_u64, wrap_u8']
  refine HT.block ?_
  refine HT.loopK (fun k : {k : Nat // k ≤ s.length ∧ UpTo (fun c => decide (c ≠ 47)) s k} => [.s 3 (i64 k)]) [0] [] (fun k => s.length - k) (⟨0, by omega, UpTo.zero _ _⟩) ?_ ?_   -- block 0 turned [3]
  · simp (disch := first | omega | (simp <;> omega) | fail) [wrap_i64, wrap_u64, wrap_u8']
  rintro ⟨k, hk, hg⟩
  simp (disch := first | omega | (simp <;> omega) | fail) [wrap_i64, wrap_u64, wrap_u8']
  refine HT.seq ?_
  refine HT.seq ?_
  refine HT.region ?_   -- R2
  simp (disch := first | omega | (simp <;> omega) | fail) [wrap_i64, wrap_u64, wrap_u8']
  refine HT.cond' ?_   -- if 7
  simp (disch := first | omega | (simp <;> omega) | fail) [wrap_i64, wrap_u64, wrap_u8']
  refine ⟨fun h7 => ?_, fun h7 => ?_⟩
  · skip
    have hk' : k < s.length := by omega
    refine HT.skip ?_
    simp (disch := first | omega | (simp <;> omega) | fail) [wrap_i64, wrap_u64, wrap_u8']
    refine HT.seq ?_
    refine HT.block ?_
    refine HT.seq ?_
    refine HT.region ?_   -- R4
    simp (disch := first | omega | (simp <;> omega) | fail) [wrap_i64, wrap_u64, wrap_u8']
    refine HT.cond' ?_   -- if 13
    simp (disch := first | omega | (simp <;> omega) | fail) [wrap_i64, wrap_u64, wrap_u8']
    refine ⟨fun h13 => ?_, fun h13 => ?_⟩
    · skip
      refine HT.seq ?_
      refine HT.region ?_   -- R5
      simp (disch := first | omega | (simp <;> omega) | fail) [wrap_i64, wrap_u64, wrap_u8']
      refine HT.ret ?_
      have hx : 47 ∈ s := by rw [← u8_47 h13]; exact List.getElem_mem hk'
      simp (disch := first | omega | (simp <;> omega) | fail) [wrap_i64, wrap_u64, wrap_u8', nameV, hx]
    · skip
      refine HT.skip ?_
      simp (disch := first | omega | (simp <;> omega) | fail) [wrap_i64, wrap_u64, wrap_u8']
      refine HT.region ?_   -- R3
      simp (disch := first | omega | (simp <;> omega) | fail) [wrap_i64, wrap_u64, wrap_u8']
      refine Round.mk' (⟨k + 1, by omega, hg.succ hk' (decide_eq_true (fun e => h13 (by rw [e]; rfl)))⟩) (by dsimp only; omega) rfl ?_
      simp (disch := first | omega | (simp <;> omega) | fail) [wrap_i64, wrap_u64, wrap_u8']
  · skip
    obtain rfl : k = s.length := by omega
    have hx : 47 ∉ s := fun h => by have := List.all_eq_true.1 hg.all 47 h; simp at this
    refine HT.exit ?_
    simp (disch := first | omega | (simp <;> omega) | fail) [wrap_i64, wrap_u64, wrap_u8']
    refine HT.seq ?_
    refine HT.region ?_   -- R6
    simp (disch := first | omega | (simp <;> omega) | fail) [wrap_i64, wrap_u64, wrap_u8']
    refine stepK.mk (.call1 _ _ _ _ rfl Ty.hb86 rfl (refPath_spec s hs) rfl rfl) ?_
    simp (disch := first | omega | (simp <;> omega) | fail) [wrap_i64, wrap_u64, wrap_u8']
    refine HT.ret ?_
    simp (disch := first | omega | (simp <;> omega) | fail) [wrap_i64, wrap_u64, wrap_u8', nameV, hx]
set_option maxRecDepth 20000 in
theorem dName_spec (s : List UInt8) (hs : s.length ≤ 140737488355328) : Spec1 Tryz.prog 107 [.str s] (bo (nameV s)) := by
  refine Spec1.of_HT Tryz.func107 rfl (by rw [Tryz.ntmps107]; simp) rfl ?_
  rw [Tryz.ntmps107]
  refine HT.seq ?_
  refine HT.region ?_   -- R0
  simp (disch := first | omega | (simp <;> omega) | fail) [wrap_i64, wrap_u64, wrap_u8']
  refine HT.seq ?_
  by_cases c1 : pathV s = false
  · skip
    refine HT.region ?_   -- R1
    simp (disch := first | omega | (simp <;> omega) | fail) [wrap_i64, wrap_u64, wrap_u8', c1]
    refine stepK.mk (.call1 _ _ _ _ rfl Ty.hb108 rfl (Path_spec s hs) rfl rfl) ?_
    simp (disch := first | omega | (simp <;> omega) | fail) [wrap_i64, wrap_u64, wrap_u8', c1]
    refine HT.ret ?_
    simp (disch := first | omega | (simp <;> omega) | fail) [wrap_i64, wrap_u64, wrap_u8', nameV, c1]
  refine HT.region ?_   -- R1
  simp (disch := first | omega | (simp <;> omega) | fail) [wrap_i64, wrap_u64, wrap_u8', c1]
  refine stepK.mk (.call1 _ _ _ _ rfl Ty.hb108 rfl (Path_spec s hs) rfl rfl) ?_
  simp (disch := first | omega | (simp <;> omega) | fail) [wrap_i64, wrap_u64, wrap_u8', c1]
  refine stepK.mk (.call1 _ _ _ _ rfl Ty.hb130 rfl (ContainsS_spec s) rfl rfl) ?_
  simp (disch := first | omega | (simp <;> omega) | fail) [wrap_i64, wrap_u64, wrap_u8', c1]
  refine HT.ret ?_
  simp (disch := first | omega | (simp <;> omega) | fail) [wrap_i64, wrap_u64, wrap_u8', nameV, c1]
theorem key_spec (d : Doc) : Spec1 Tryz.prog 73 [.agg d.enc] (.agg [.str d.repo, .str d.path, .str d.text]) := by
  refine Spec1.of_HT Tryz.func73 rfl (by rw [Tryz.ntmps73]; simp) rfl ?_
  rw [Tryz.ntmps73]
  refine HT.seq ?_
  refine HT.region ?_   -- R0
  simp (disch := first | omega | (simp <;> omega) | fail) [wrap_i64, wrap_u64, wrap_u8']
  refine HT.seq ?_
  refine HT.region ?_   -- R1
  simp (disch := first | omega | (simp <;> omega) | fail) [wrap_i64, wrap_u64, wrap_u8']
  refine HT.ret ?_
  simp (disch := first | omega | (simp <;> omega) | fail) [wrap_i64, wrap_u64, wrap_u8']
theorem rKey_spec (d : Doc) : Spec1 Tryz.prog 55 [.agg d.enc] (.agg [.str d.repo, .str d.path, .str d.text]) := by
  refine Spec1.of_HT Tryz.func55 rfl (by rw [Tryz.ntmps55]; simp) rfl ?_
  rw [Tryz.ntmps55]
  refine HT.seq ?_
  refine HT.region ?_   -- R0
  simp (disch := first | omega | (simp <;> omega) | fail) [wrap_i64, wrap_u64, wrap_u8']
  refine HT.seq ?_
  refine HT.region ?_   -- R1
  simp (disch := first | omega | (simp <;> omega) | fail) [wrap_i64, wrap_u64, wrap_u8']
  refine HT.ret ?_
  simp (disch := first | omega | (simp <;> omega) | fail) [wrap_i64, wrap_u64, wrap_u8']
end Go.Hv
set_option linter.unusedVariables false
set_option linter.unusedSimpArgs false
namespace Go.Hv
open Go Go.Hv Go.Proofs Go.RowKit
open Go.Proofs.YtlbmbnpknobjdaaGreatDoor
def DocB (B : Nat) (d : Doc) : Prop := d.repo.length ≤ B ∧ d.path.length ≤ B ∧ d.text.length ≤ B ∧ d.on.length ≤ B ∧ ∀ s ∈ d.on, s.length ≤ B
def stepS (a b : List UInt8) : Bool := !(Go.Op.bytesLess b a || decide (b = a))
theorem step_yes {a b : List UInt8} (h : stepS a b = true) : (Go.Op.bytesLess b a || decide (b = a)) = false := by unfold stepS at h; rwa [Bool.not_eq_true'] at h
theorem step_no {a b : List UInt8} (h : ¬ stepS a b = true) : (Go.Op.bytesLess b a || decide (b = a)) = true := by
  cases hb : (Go.Op.bytesLess b a || decide (b = a)) with
  | false => exact absurd (by unfold stepS; rw [hb]; rfl) h
  | true => rfl
theorem incS_cons (a b : List UInt8) (r : List (List UInt8)) : incS (a :: b :: r) = (stepS a b && incS (b :: r)) := rfl
theorem incS_all : ∀ (l : List (List UInt8)), incS l = true ↔ ∀ i (h : i + 1 < l.length), stepS l[i] l[i + 1] = true
  | [] => by simp [incS]
  | [a] => by simp [incS]
  | a :: b :: r => by
    rw [incS_cons, Bool.and_eq_true, incS_all (b :: r)]
    constructor
    · rintro ⟨h1, h2⟩ i h
      match i with
      | 0 => exact h1
      | i + 1 => exact h2 i (by simpa using h)
    · intro h
      exact ⟨h 0 (by simp), fun i hi => h (i + 1) (by simpa using hi)⟩
theorem incS_no {l : List (List UInt8)} {i : Nat} (h : i + 1 < l.length) (hs : ¬ stepS l[i] l[i + 1] = true) : incS l = false := by
  cases hc : incS l with
  | false => rfl
  | true => exact absurd ((incS_all l).1 hc i h) hs
def StepTo (l : List (List UInt8)) (k : Nat) : Prop := ∀ i (h : i + 1 < l.length), i < k → stepS l[i] l[i + 1] = true
theorem StepTo.succ {l : List (List UInt8)} {k : Nat} (h : StepTo l k) (hk : k + 1 < l.length) (hs : stepS l[k] l[k + 1] = true) : StepTo l (k + 1) := fun i hi hik => by
  by_cases e : i = k
  · subst e; exact hs
  · exact h i hi (by omega)
theorem check3 {d : Doc} (h : nameV d.repo = false ∨ pathV d.path = false ∨ textV d.text = false ∨ d.on.all nameV = false) : checkV d = 3 := by
  unfold checkV
  by_cases hc : (nameV d.repo && pathV d.path && textV d.text) = false
  · rw [if_pos hc]
  · rw [if_neg hc]
    have h4 : d.on.all nameV = false := by
      rcases h with h | h | h | h
      · exact absurd (by rw [h]; rfl) hc
      · exact absurd (by rw [h]; simp) hc
      · exact absurd (by rw [h]; simp) hc
      · exact h
    rw [if_pos h4]
theorem check_rest {d : Doc} (h1 : nameV d.repo = true) (h2 : pathV d.path = true) (h3 : textV d.text = true) (h4 : d.on.all nameV = true) : checkV d = if d.on = [] then 1 else if incS d.on = false then 1 else 0 := by
  unfold checkV
  rw [h1, h2, h3, h4]; rfl
theorem on_cons {d : Doc} (h : ¬ d.on.length = 0) : ¬ d.on = [] := fun e => h (by rw [e]; rfl)
set_option maxRecDepth 20000 in
set_option maxHeartbeats 4000000 in
theorem check_spec (d : Doc) (hd : DocB 140737488355328 d) : Spec1 Tryz.prog 72 [.agg d.enc] (i64 (checkV d)) := by
  have hon := hd.2.2.2.1
  refine Spec1.of_HT Tryz.func72 rfl (by rw [Tryz.ntmps72]; simp) rfl ?_
  rw [Tryz.ntmps72]
  refine HT.seq ?_
  refine HT.region ?_   -- R0
  simp (disch := first | omega | (simp <;> omega) | fail) [wrap_i64, wrap_u64, wrap_u8']
  refine HT.seq ?_
  refine HT.seq ?_
  by_cases c1 : nameV d.repo = false
  · skip
    refine HT.region ?_   -- R1
    simp (disch := first | omega | (simp <;> omega) | fail) [wrap_i64, wrap_u64, wrap_u8', c1]
    refine stepK.mk (.call1 _ _ _ _ rfl Ty.hb107 rfl (dName_spec d.repo hd.1) rfl rfl) ?_
    simp (disch := first | omega | (simp <;> omega) | fail) [wrap_i64, wrap_u64, wrap_u8', c1]
    refine HT.cond' ?_   -- if 21
    simp (disch := first | omega | (simp <;> omega) | fail) [wrap_i64, wrap_u64, wrap_u8']
    refine HT.seq ?_
    refine HT.region ?_   -- R2
    simp (disch := first | omega | (simp <;> omega) | fail) [wrap_i64, wrap_u64, wrap_u8']
    refine HT.ret ?_
    have hx : checkV d = 3 := check3 (by first | exact .inl c1 | exact .inr (.inl c2) | exact .inr (.inr (.inl c3)))
    simp (disch := first | omega | (simp <;> omega) | fail) [wrap_i64, wrap_u64, wrap_u8', hx]
  by_cases c2 : pathV d.path = false
  · skip
    refine HT.region ?_   -- R1
    simp (disch := first | omega | (simp <;> omega) | fail) [wrap_i64, wrap_u64, wrap_u8', c1, c2]
    refine stepK.mk (.call1 _ _ _ _ rfl Ty.hb107 rfl (dName_spec d.repo hd.1) rfl rfl) ?_
    simp (disch := first | omega | (simp <;> omega) | fail) [wrap_i64, wrap_u64, wrap_u8', c1, c2]
    refine stepK.mk (.call1 _ _ _ _ rfl Ty.hb108 rfl (Path_spec d.path hd.2.1) rfl rfl) ?_
    simp (disch := first | omega | (simp <;> omega) | fail) [wrap_i64, wrap_u64, wrap_u8', c1, c2]
    refine HT.cond' ?_   -- if 21
    simp (disch := first | omega | (simp <;> omega) | fail) [wrap_i64, wrap_u64, wrap_u8']
    refine HT.seq ?_
    refine HT.region ?_   -- R2
    simp (disch := first | omega | (simp <;> omega) | fail) [wrap_i64, wrap_u64, wrap_u8']
    refine HT.ret ?_
    have hx : checkV d = 3 := check3 (by first | exact .inl c1 | exact .inr (.inl c2) | exact .inr (.inr (.inl c3)))
    simp (disch := first | omega | (simp <;> omega) | fail) [wrap_i64, wrap_u64, wrap_u8', hx]
  by_cases c3 : textV d.text = false
  · skip
    refine HT.region ?_   -- R1
    simp (disch := first | omega | (simp <;> omega) | fail) [wrap_i64, wrap_u64, wrap_u8', c1, c2, c3]
    refine stepK.mk (.call1 _ _ _ _ rfl Ty.hb107 rfl (dName_spec d.repo hd.1) rfl rfl) ?_
    simp (disch := first | omega | (simp <;> omega) | fail) [wrap_i64, wrap_u64, wrap_u8', c1, c2, c3]
    refine stepK.mk (.call1 _ _ _ _ rfl Ty.hb108 rfl (Path_spec d.path hd.2.1) rfl rfl) ?_
    simp (disch := first | omega | (simp <;> omega) | fail) [wrap_i64, wrap_u64, wrap_u8', c1, c2, c3]
    refine stepK.mk (.call1 _ _ _ _ rfl Ty.hb109 rfl (Valid_spec d.text hd.2.2.1) rfl rfl) ?_
    simp (disch := first | omega | (simp <;> omega) | fail) [wrap_i64, wrap_u64, wrap_u8', c1, c2, c3]
    refine HT.cond' ?_   -- if 21
    simp (disch := first | omega | (simp <;> omega) | fail) [wrap_i64, wrap_u64, wrap_u8']
    refine HT.seq ?_
    refine HT.region ?_   -- R2
    simp (disch := first | omega | (simp <;> omega) | fail) [wrap_i64, wrap_u64, wrap_u8']
    refine HT.ret ?_
    have hx : checkV d = 3 := check3 (by first | exact .inl c1 | exact .inr (.inl c2) | exact .inr (.inr (.inl c3)))
    simp (disch := first | omega | (simp <;> omega) | fail) [wrap_i64, wrap_u64, wrap_u8', hx]
  simp only [Bool.not_eq_false] at c1 c2 c3
  refine HT.region ?_   -- R1
  simp (disch := first | omega | (simp <;> omega) | fail) [wrap_i64, wrap_u64, wrap_u8', c1, c2, c3]
  refine stepK.mk (.call1 _ _ _ _ rfl Ty.hb107 rfl (dName_spec d.repo hd.1) rfl rfl) ?_
  simp (disch := first | omega | (simp <;> omega) | fail) [wrap_i64, wrap_u64, wrap_u8', c1, c2, c3]
  refine stepK.mk (.call1 _ _ _ _ rfl Ty.hb108 rfl (Path_spec d.path hd.2.1) rfl rfl) ?_
  simp (disch := first | omega | (simp <;> omega) | fail) [wrap_i64, wrap_u64, wrap_u8', c1, c2, c3]
  refine stepK.mk (.call1 _ _ _ _ rfl Ty.hb109 rfl (Valid_spec d.text hd.2.2.1) rfl rfl) ?_
  simp (disch := first | omega | (simp <;> omega) | fail) [wrap_i64, wrap_u64, wrap_u8', c1, c2, c3]
  refine HT.cond' ?_   -- if 21
  simp (disch := first | omega | (simp <;> omega) | fail) [wrap_i64, wrap_u64, wrap_u8']
  refine HT.skip ?_
  simp (disch := first | omega | (simp <;> omega) | fail) [wrap_i64, wrap_u64, wrap_u8']
  refine HT.seq ?_
  refine HT.seq ?_
  refine HT.region ?_   -- R3
  simp (disch := first | omega | (simp <;> omega) | fail) [wrap_i64, wrap_u64, wrap_u8']
  refine HT.block ?_
  refine HT.loopK (fun k : {k : Nat // k ≤ d.on.length ∧ UpTo nameV d.on k} => [.s 25 (i64 k)]) [1, 23, 24] [1] (fun k => d.on.length - k) (⟨0, by omega, UpTo.zero _ _⟩) ?_ ?_   -- block 0 turned [25]
  · simp (disch := first | omega | (simp <;> omega) | fail) [wrap_i64, wrap_u64, wrap_u8']
  rintro ⟨k, hk, hg⟩
  simp (disch := first | omega | (simp <;> omega) | fail) [wrap_i64, wrap_u64, wrap_u8']
  refine HT.seq ?_
  refine HT.region ?_   -- R4
  simp (disch := first | omega | (simp <;> omega) | fail) [wrap_i64, wrap_u64, wrap_u8']
  refine HT.seq ?_
  refine HT.cond' ?_   -- if 26
  simp (disch := first | omega | (simp <;> omega) | fail) [wrap_i64, wrap_u64, wrap_u8']
  refine ⟨fun h26 => ?_, fun h26 => ?_⟩
  · skip
    have hk' : k < d.on.length := by omega
    refine HT.skip ?_
    simp (disch := first | omega | (simp <;> omega) | fail) [wrap_i64, wrap_u64, wrap_u8']
    refine HT.seq ?_
    refine HT.block ?_
    refine HT.seq ?_
    refine HT.region ?_   -- R5
    simp (disch := first | omega | (simp <;> omega) | fail) [wrap_i64, wrap_u64, wrap_u8']
    refine HT.seq ?_
    refine HT.region ?_   -- R6
    simp (disch := first | omega | (simp <;> omega) | fail) [wrap_i64, wrap_u64, wrap_u8']
    refine stepK.mk (.call1 _ _ _ _ rfl Ty.hb107 rfl (dName_spec d.on[k] (hd.2.2.2.2 _ (List.getElem_mem hk'))) rfl rfl) ?_
    simp (disch := first | omega | (simp <;> omega) | fail) [wrap_i64, wrap_u64, wrap_u8']
    refine HT.cond' ?_   -- if 31
    simp (disch := first | omega | (simp <;> omega) | fail) [wrap_i64, wrap_u64, wrap_u8']
    refine ⟨fun h31 => ?_, fun h31 => ?_⟩
    · skip
      refine HT.seq ?_
      refine HT.region ?_   -- R7
      simp (disch := first | omega | (simp <;> omega) | fail) [wrap_i64, wrap_u64, wrap_u8']
      refine HT.ret ?_
      have hx : checkV d = 3 := check3 (.inr (.inr (.inr (all_not hk' (by simpa using h31)))))
      simp (disch := first | omega | (simp <;> omega) | fail) [wrap_i64, wrap_u64, wrap_u8', hx]
    · skip
      refine HT.skip ?_
      simp (disch := first | omega | (simp <;> omega) | fail) [wrap_i64, wrap_u64, wrap_u8']
      refine HT.region ?_   -- R8
      simp (disch := first | omega | (simp <;> omega) | fail) [wrap_i64, wrap_u64, wrap_u8']
      refine Round.mk' (⟨k + 1, by omega, hg.succ hk' (by simpa using h31)⟩) (by dsimp only; omega) rfl ?_
      simp (disch := first | omega | (simp <;> omega) | fail) [wrap_i64, wrap_u64, wrap_u8']
  · skip
    obtain rfl : k = d.on.length := by omega
    have hx2 := check_rest c1 c2 c3 hg.all
    refine HT.exit ?_
    simp (disch := first | omega | (simp <;> omega) | fail) [wrap_i64, wrap_u64, wrap_u8']
    refine HT.seq ?_
    refine HT.seq ?_
    refine HT.region ?_   -- R9
    simp (disch := first | omega | (simp <;> omega) | fail) [wrap_i64, wrap_u64, wrap_u8']
    refine HT.cond' ?_   -- if 36
    simp (disch := first | omega | (simp <;> omega) | fail) [wrap_i64, wrap_u64, wrap_u8']
    refine ⟨fun h36 => ?_, fun h36 => ?_⟩
    · skip
      refine HT.seq ?_
      refine HT.region ?_   -- R10
      simp (disch := first | omega | (simp <;> omega) | fail) [wrap_i64, wrap_u64, wrap_u8']
      refine HT.ret ?_
      simp (disch := first | omega | (simp <;> omega) | fail) [wrap_i64, wrap_u64, wrap_u8', hx2, h36]
    · skip
      have e1 : ¬ d.on.length = 0 := fun e => h36 (List.eq_nil_of_length_eq_zero e)
      refine HT.skip ?_
      simp (disch := first | omega | (simp <;> omega) | fail) [wrap_i64, wrap_u64, wrap_u8']
      refine HT.seq ?_
      refine HT.seq ?_
      refine HT.region ?_   -- R11
      simp (disch := first | omega | (simp <;> omega) | fail) [wrap_i64, wrap_u64, wrap_u8']
      refine HT.block ?_
      refine HT.loopK (fun k : {k : Nat // k + 1 ≤ d.on.length ∧ StepTo d.on k} => [.s 5 (i64 ((k : Int) + 1))]) [1] [1] (fun k => d.on.length - k) (⟨0, by omega, fun i h hi => absurd hi (Nat.not_lt_zero _)⟩) ?_ ?_   -- block 2 turned [5]
      · simp (disch := first | omega | (simp <;> omega) | fail) [wrap_i64, wrap_u64, wrap_u8']
      rintro ⟨k, hk, hst⟩
      simp (disch := first | omega | (simp <;> omega) | fail) [wrap_i64, wrap_u64, wrap_u8']
      refine HT.seq ?_
      refine HT.seq ?_
      refine HT.region ?_   -- R12
      simp (disch := first | omega | (simp <;> omega) | fail) [wrap_i64, wrap_u64, wrap_u8']
      refine HT.cond' ?_   -- if 41
      simp (disch := first | omega | (simp <;> omega) | fail) [wrap_i64, wrap_u64, wrap_u8']
      refine ⟨fun h41 => ?_, fun h41 => ?_⟩
      · skip
        have hk2 : k + 1 < d.on.length := by omega
        refine HT.skip ?_
        simp (disch := first | omega | (simp <;> omega) | fail) [wrap_i64, wrap_u64, wrap_u8']
        refine HT.seq ?_
        refine HT.block ?_
        refine HT.seq ?_
        by_cases s1 : stepS d.on[k] d.on[k + 1] = true
        · skip
          have hq := step_yes s1
          refine HT.draw [.batch [0, 1, 2, 3, 4, 5, 6, 7, 8, 9, 10, 11]] (by kernel_rfl) ?_   -- R14
          simp (disch := first | omega | (simp <;> omega) | fail) [wrap_i64, wrap_u64, wrap_u8', hq]
          refine HT.cond' ?_   -- if 55
          simp (disch := first | omega | (simp <;> omega) | fail) [wrap_i64, wrap_u64, wrap_u8']
          refine HT.skip ?_
          simp (disch := first | omega | (simp <;> omega) | fail) [wrap_i64, wrap_u64, wrap_u8']
          refine HT.region ?_   -- R13
          simp (disch := first | omega | (simp <;> omega) | fail) [wrap_i64, wrap_u64, wrap_u8']
          refine Round.mk' (⟨k + 1, by omega, hst.succ hk2 s1⟩) (by dsimp only; omega) rfl ?_
          simp (disch := first | omega | (simp <;> omega) | fail) [wrap_i64, wrap_u64, wrap_u8']
        have hq := step_no s1
        refine HT.draw [.batch [0, 1, 2, 3, 4, 5, 6, 7, 8, 9, 10, 11]] (by kernel_rfl) ?_   -- R14
        simp (disch := first | omega | (simp <;> omega) | fail) [wrap_i64, wrap_u64, wrap_u8', hq]
        refine HT.cond' ?_   -- if 55
        simp (disch := first | omega | (simp <;> omega) | fail) [wrap_i64, wrap_u64, wrap_u8']
        refine HT.seq ?_
        refine HT.region ?_   -- R15
        simp (disch := first | omega | (simp <;> omega) | fail) [wrap_i64, wrap_u64, wrap_u8']
        refine HT.ret ?_
        have hx4 : incS d.on = false := incS_no hk2 s1
        simp (disch := first | omega | (simp <;> omega) | fail) [wrap_i64, wrap_u64, wrap_u8', hx2, on_cons e1, hx4]
      · skip
        have hx3 : incS d.on = true := (incS_all _).2 fun i h => hst i h (by omega)
        refine HT.exit ?_
        simp (disch := first | omega | (simp <;> omega) | fail) [wrap_i64, wrap_u64, wrap_u8']
        refine HT.seq ?_
        refine HT.region ?_   -- R16
        simp (disch := first | omega | (simp <;> omega) | fail) [wrap_i64, wrap_u64, wrap_u8']
        refine HT.ret ?_
        simp (disch := first | omega | (simp <;> omega) | fail) [wrap_i64, wrap_u64, wrap_u8', hx2, on_cons e1, hx3]
set_option maxRecDepth 20000 in
set_option maxHeartbeats 4000000 in
theorem fields_spec (d : Doc) (hd : DocB 140737488355328 d) : Spec1 Tryz.prog 54 [.agg d.enc] (i64 (checkV d)) := by
  have hon := hd.2.2.2.1
  refine Spec1.of_HT Tryz.func54 rfl (by rw [Tryz.ntmps54]; simp) rfl ?_
  rw [Tryz.ntmps54]
  refine HT.seq ?_
  refine HT.region ?_   -- R0
  simp (disch := first | omega | (simp <;> omega) | fail) [wrap_i64, wrap_u64, wrap_u8']
  refine HT.seq ?_
  refine HT.seq ?_
  refine HT.region ?_   -- R1
  simp (disch := first | omega | (simp <;> omega) | fail) [wrap_i64, wrap_u64, wrap_u8']
  refine stepK.mk (.call1 _ _ _ _ rfl Ty.hb85 rfl (rName_spec d.repo hd.1) rfl rfl) ?_
  simp (disch := first | omega | (simp <;> omega) | fail) [wrap_i64, wrap_u64, wrap_u8']
  refine HT.cond' ?_   -- if 8
  simp (disch := first | omega | (simp <;> omega) | fail) [wrap_i64, wrap_u64, wrap_u8']
  refine ⟨fun h8 => ?_, fun h8 => ?_⟩
  · skip
    refine HT.seq ?_
    refine HT.region ?_   -- R2
    simp (disch := first | omega | (simp <;> omega) | fail) [wrap_i64, wrap_u64, wrap_u8']
    refine HT.ret ?_
    have hx : checkV d = 3 := check3 (.inl (by simpa using h8))
    simp (disch := first | omega | (simp <;> omega) | fail) [wrap_i64, wrap_u64, wrap_u8', hx]
  · skip
    have c1 : nameV d.repo = true := by simpa using h8
    refine HT.skip ?_
    simp (disch := first | omega | (simp <;> omega) | fail) [wrap_i64, wrap_u64, wrap_u8']
    refine HT.seq ?_
    refine HT.seq ?_
    refine HT.region ?_   -- R3
    simp (disch := first | omega | (simp <;> omega) | fail) [wrap_i64, wrap_u64, wrap_u8']
    refine HT.block ?_
    refine HT.loopK (fun k : {k : Nat // k ≤ d.on.length ∧ UpTo nameV d.on k} => [.s 3 (i64 k)]) [1, 28, 29, 30, 31] [1] (fun k => d.on.length - k) (⟨0, by omega, UpTo.zero _ _⟩) ?_ ?_   -- block 0 turned [3]
    · simp (disch := first | omega | (simp <;> omega) | fail) [wrap_i64, wrap_u64, wrap_u8']
    rintro ⟨k, hk, hg⟩
    simp (disch := first | omega | (simp <;> omega) | fail) [wrap_i64, wrap_u64, wrap_u8']
    refine HT.seq ?_
    refine HT.seq ?_
    refine HT.region ?_   -- R4
    simp (disch := first | omega | (simp <;> omega) | fail) [wrap_i64, wrap_u64, wrap_u8']
    refine HT.cond' ?_   -- if 13
    simp (disch := first | omega | (simp <;> omega) | fail) [wrap_i64, wrap_u64, wrap_u8']
    refine ⟨fun h13 => ?_, fun h13 => ?_⟩
    · skip
      have hk' : k < d.on.length := by omega
      refine HT.skip ?_
      simp (disch := first | omega | (simp <;> omega) | fail) [wrap_i64, wrap_u64, wrap_u8']
      refine HT.seq ?_
      refine HT.block ?_
      refine HT.seq ?_
      refine HT.region ?_   -- R6
      simp (disch := first | omega | (simp <;> omega) | fail) [wrap_i64, wrap_u64, wrap_u8']
      refine stepK.mk (.call1 _ _ _ _ rfl Ty.hb85 rfl (rName_spec d.on[k] (hd.2.2.2.2 _ (List.getElem_mem hk'))) rfl rfl) ?_
      simp (disch := first | omega | (simp <;> omega) | fail) [wrap_i64, wrap_u64, wrap_u8']
      refine HT.cond' ?_   -- if 22
      simp (disch := first | omega | (simp <;> omega) | fail) [wrap_i64, wrap_u64, wrap_u8']
      refine ⟨fun h22 => ?_, fun h22 => ?_⟩
      · skip
        refine HT.seq ?_
        refine HT.region ?_   -- R7
        simp (disch := first | omega | (simp <;> omega) | fail) [wrap_i64, wrap_u64, wrap_u8']
        refine HT.ret ?_
        have hx : checkV d = 3 := check3 (.inr (.inr (.inr (all_not hk' (by simpa using h22)))))
        simp (disch := first | omega | (simp <;> omega) | fail) [wrap_i64, wrap_u64, wrap_u8', hx]
      · skip
        refine HT.skip ?_
        simp (disch := first | omega | (simp <;> omega) | fail) [wrap_i64, wrap_u64, wrap_u8']
        refine HT.region ?_   -- R5
        simp (disch := first | omega | (simp <;> omega) | fail) [wrap_i64, wrap_u64, wrap_u8']
        refine Round.mk' (⟨k + 1, by omega, hg.succ hk' (by simpa using h22)⟩) (by dsimp only; omega) rfl ?_
        simp (disch := first | omega | (simp <;> omega) | fail) [wrap_i64, wrap_u64, wrap_u8']
    · skip
      obtain rfl : k = d.on.length := by omega
      refine HT.exit ?_
      simp (disch := first | omega | (simp <;> omega) | fail) [wrap_i64, wrap_u64, wrap_u8']
      refine HT.seq ?_
      refine HT.seq ?_
      by_cases c2 : pathV d.path = false
      · skip
        refine HT.region ?_   -- R8
        simp (disch := first | omega | (simp <;> omega) | fail) [wrap_i64, wrap_u64, wrap_u8', c2]
        refine stepK.mk (.call1 _ _ _ _ rfl Ty.hb86 rfl (refPath_spec d.path hd.2.1) rfl rfl) ?_
        simp (disch := first | omega | (simp <;> omega) | fail) [wrap_i64, wrap_u64, wrap_u8', c2]
        refine HT.cond' ?_   -- if 32
        simp (disch := first | omega | (simp <;> omega) | fail) [wrap_i64, wrap_u64, wrap_u8']
        refine HT.seq ?_
        refine HT.region ?_   -- R9
        simp (disch := first | omega | (simp <;> omega) | fail) [wrap_i64, wrap_u64, wrap_u8']
        refine HT.ret ?_
        have hx : checkV d = 3 := check3 (by first | exact .inr (.inl c2) | exact .inr (.inr (.inl c3)))
        simp (disch := first | omega | (simp <;> omega) | fail) [wrap_i64, wrap_u64, wrap_u8', hx]
      by_cases c3 : textV d.text = false
      · skip
        refine HT.region ?_   -- R8
        simp (disch := first | omega | (simp <;> omega) | fail) [wrap_i64, wrap_u64, wrap_u8', c2, c3]
        refine stepK.mk (.call1 _ _ _ _ rfl Ty.hb86 rfl (refPath_spec d.path hd.2.1) rfl rfl) ?_
        simp (disch := first | omega | (simp <;> omega) | fail) [wrap_i64, wrap_u64, wrap_u8', c2, c3]
        refine stepK.mk (.call1 _ _ _ _ rfl Ty.hb87 rfl (refValid_spec d.text hd.2.2.1) rfl rfl) ?_
        simp (disch := first | omega | (simp <;> omega) | fail) [wrap_i64, wrap_u64, wrap_u8', c2, c3]
        refine HT.cond' ?_   -- if 32
        simp (disch := first | omega | (simp <;> omega) | fail) [wrap_i64, wrap_u64, wrap_u8']
        refine HT.seq ?_
        refine HT.region ?_   -- R9
        simp (disch := first | omega | (simp <;> omega) | fail) [wrap_i64, wrap_u64, wrap_u8']
        refine HT.ret ?_
        have hx : checkV d = 3 := check3 (by first | exact .inr (.inl c2) | exact .inr (.inr (.inl c3)))
        simp (disch := first | omega | (simp <;> omega) | fail) [wrap_i64, wrap_u64, wrap_u8', hx]
      simp only [Bool.not_eq_false] at c2 c3
      have hx2 := check_rest c1 c2 c3 hg.all
      refine HT.region ?_   -- R8
      simp (disch := first | omega | (simp <;> omega) | fail) [wrap_i64, wrap_u64, wrap_u8', c2, c3]
      refine stepK.mk (.call1 _ _ _ _ rfl Ty.hb86 rfl (refPath_spec d.path hd.2.1) rfl rfl) ?_
      simp (disch := first | omega | (simp <;> omega) | fail) [wrap_i64, wrap_u64, wrap_u8', c2, c3]
      refine stepK.mk (.call1 _ _ _ _ rfl Ty.hb87 rfl (refValid_spec d.text hd.2.2.1) rfl rfl) ?_
      simp (disch := first | omega | (simp <;> omega) | fail) [wrap_i64, wrap_u64, wrap_u8', c2, c3]
      refine HT.cond' ?_   -- if 32
      simp (disch := first | omega | (simp <;> omega) | fail) [wrap_i64, wrap_u64, wrap_u8']
      refine HT.skip ?_
      simp (disch := first | omega | (simp <;> omega) | fail) [wrap_i64, wrap_u64, wrap_u8']
      refine HT.seq ?_
      refine HT.seq ?_
      refine HT.region ?_   -- R10
      simp (disch := first | omega | (simp <;> omega) | fail) [wrap_i64, wrap_u64, wrap_u8']
      refine HT.block ?_
      refine HT.loopK (fun k : {k : Nat // (k + 1 ≤ d.on.length ∨ k = 0) ∧ StepTo d.on k} => [.s 4 (i64 ((k : Int) + 1))]) [1] [1] (fun k => d.on.length - k) (⟨0, .inr rfl, fun i h hi => absurd hi (Nat.not_lt_zero _)⟩) ?_ ?_   -- block 2 turned [4]
      · simp (disch := first | omega | (simp <;> omega) | fail) [wrap_i64, wrap_u64, wrap_u8']
      rintro ⟨k, hk, hst⟩
      simp (disch := first | omega | (simp <;> omega) | fail) [wrap_i64, wrap_u64, wrap_u8']
      refine HT.seq ?_
      refine HT.seq ?_
      refine HT.region ?_   -- R11
      simp (disch := first | omega | (simp <;> omega) | fail) [wrap_i64, wrap_u64, wrap_u8']
      refine HT.cond' ?_   -- if 37
      simp (disch := first | omega | (simp <;> omega) | fail) [wrap_i64, wrap_u64, wrap_u8']
      refine ⟨fun h37 => ?_, fun h37 => ?_⟩
      · skip
        have hk2 : k + 1 < d.on.length := by omega
        refine HT.skip ?_
        simp (disch := first | omega | (simp <;> omega) | fail) [wrap_i64, wrap_u64, wrap_u8']
        refine HT.seq ?_
        refine HT.block ?_
        refine HT.seq ?_
        by_cases s1 : stepS d.on[k] d.on[k + 1] = true
        · skip
          have hq := step_yes s1
          refine HT.draw [.batch [0, 1, 2, 3, 4, 5, 6, 7, 8, 9, 10, 11]] (by kernel_rfl) ?_   -- R13
          simp (disch := first | omega | (simp <;> omega) | fail) [wrap_i64, wrap_u64, wrap_u8', hq]
          refine HT.cond' ?_   -- if 51
          simp (disch := first | omega | (simp <;> omega) | fail) [wrap_i64, wrap_u64, wrap_u8']
          refine HT.skip ?_
          simp (disch := first | omega | (simp <;> omega) | fail) [wrap_i64, wrap_u64, wrap_u8']
          refine HT.region ?_   -- R12
          simp (disch := first | omega | (simp <;> omega) | fail) [wrap_i64, wrap_u64, wrap_u8']
          refine Round.mk' (⟨k + 1, .inl (by omega), hst.succ hk2 s1⟩) (by dsimp only; omega) rfl ?_
          simp (disch := first | omega | (simp <;> omega) | fail) [wrap_i64, wrap_u64, wrap_u8']
        have hq := step_no s1
        refine HT.draw [.batch [0, 1, 2, 3, 4, 5, 6, 7, 8, 9, 10, 11]] (by kernel_rfl) ?_   -- R13
        simp (disch := first | omega | (simp <;> omega) | fail) [wrap_i64, wrap_u64, wrap_u8', hq]
        refine HT.cond' ?_   -- if 51
        simp (disch := first | omega | (simp <;> omega) | fail) [wrap_i64, wrap_u64, wrap_u8']
        refine HT.seq ?_
        refine HT.region ?_   -- R14
        simp (disch := first | omega | (simp <;> omega) | fail) [wrap_i64, wrap_u64, wrap_u8']
        refine HT.ret ?_
        have hx4 : incS d.on = false := incS_no hk2 s1
        have e1 : ¬ d.on = [] := fun e => by rw [e] at hk2; simp at hk2
        simp (disch := first | omega | (simp <;> omega) | fail) [wrap_i64, wrap_u64, wrap_u8', hx2, e1, hx4]
      · skip
        have hx3 : incS d.on = true := (incS_all _).2 fun i h => hst i h (by omega)
        refine HT.exit ?_
        simp (disch := first | omega | (simp <;> omega) | fail) [wrap_i64, wrap_u64, wrap_u8']
        refine HT.seq ?_
        refine HT.seq ?_
        refine HT.region ?_   -- R15
        simp (disch := first | omega | (simp <;> omega) | fail) [wrap_i64, wrap_u64, wrap_u8']
        refine HT.cond' ?_   -- if 55
        simp (disch := first | omega | (simp <;> omega) | fail) [wrap_i64, wrap_u64, wrap_u8']
        refine ⟨fun h55 => ?_, fun h55 => ?_⟩
        · skip
          refine HT.seq ?_
          refine HT.region ?_   -- R16
          simp (disch := first | omega | (simp <;> omega) | fail) [wrap_i64, wrap_u64, wrap_u8']
          refine HT.ret ?_
          simp (disch := first | omega | (simp <;> omega) | fail) [wrap_i64, wrap_u64, wrap_u8', hx2, h55]
        · skip
          refine HT.skip ?_
          simp (disch := first | omega | (simp <;> omega) | fail) [wrap_i64, wrap_u64, wrap_u8']
          refine HT.seq ?_
          refine HT.region ?_   -- R17
          simp (disch := first | omega | (simp <;> omega) | fail) [wrap_i64, wrap_u64, wrap_u8']
          refine HT.ret ?_
          simp (disch := first | omega | (simp <;> omega) | fail) [wrap_i64, wrap_u64, wrap_u8', hx2, h55, hx3]
end Go.Hv
set_option linter.unusedVariables false
set_option linter.unusedSimpArgs false
namespace Go.Hv
open Go Go.Hv Go.Proofs Go.RowKit
open Go.Proofs.YtlbmbnpknobjdaaGreatDoor
@[simp] theorem ak85 : aggKey Tryz.prog 81 = true := by kernel_rfl
theorem cells9x : Tryz.prog.cellsOf 9 = 1 := by kernel_rfl
theorem cells85 : Tryz.prog.cellsOf 81 = 3 := by kernel_rfl
abbrev Key3 := List UInt8 × List UInt8 × List UInt8
def kk (k : Key3) : HV := .agg [.str k.1, .str k.2.1, .str k.2.2]
def KB (k : Key3) : Prop := k.1.length ≤ 1048576 ∧ k.2.1.length ≤ 1048576 ∧ k.2.2.length ≤ 1048576
theorem key85 {k : Key3} (h : KB k) : keyH Tryz.prog 10 81 [.str k.1, .str k.2.1, .str k.2.2] = some [.string k.1, .string k.2.1, .string k.2.2] := by
  have hh : ∀ x : List UInt8, x.length ≤ 1048576 → x.length ≤ maxLen := fun x hx => by unfold maxLen; omega
  simp [keyH, Tryz.underlying81, Tryz.underlying9, cells9x, cells85, hh _ h.1, hh _ h.2.1, hh _ h.2.2, List.mapM_cons]
theorem aggEq85 {a b : Key3} (ha : KB a) (hb : KB b) : aggEq Tryz.prog 81 [.str a.1, .str a.2.1, .str a.2.2] [.str b.1, .str b.2.1, .str b.2.2] = some (decide (a = b)) := by
  unfold aggEq
  rw [if_pos ak85, key85 ha, key85 hb]
  obtain ⟨a1, a2, a3⟩ := a; obtain ⟨b1, b2, b3⟩ := b
  simp
theorem keyEq85 {a b : Key3} (ha : KB a) (hb : KB b) : keyEq Tryz.prog 81 (kk a) (kk b) = some (decide (a = b)) := by rw [kk, kk, keyEq]; exact aggEq85 ha hb
def seenE (ks : List Key3) : List (HV × HV) := ks.map fun k => (kk k, bo true)
theorem find_seen {c : Key3} (hc : KB c) : ∀ (ks : List Key3) (i : Nat), (∀ k ∈ ks, KB k) → findHV Tryz.prog 81 (kk c) (seenE ks) i = some (if c ∈ ks then some (i + ks.idxOf c, bo true) else none)
  | [], i, _ => by simp [seenE, findHV]
  | k :: ks, i, h => by
    have ih := find_seen hc ks (i + 1) (fun x hx => h x (by simp [hx]))
    unfold seenE at ih ⊢
    rw [List.map_cons, findHV, keyEq85 hc (h k (by simp))]
    by_cases e : c = k
    · subst e; simp
    · simp only [e, decide_false, ih, List.mem_cons, false_or]
      have e2 : (k == c) = false := by simpa using fun x : k = c => e x.symm
      split
      · rw [List.idxOf_cons, e2]; simp only [cond_false]; rw [show i + 1 + ks.idxOf c = i + (ks.idxOf c + 1) by omega]
      · rfl
@[simp] theorem subM_seenE (id : Nat) (x y : HV) (ks : List Key3) : subM id x y (seenE ks) = seenE ks := by
  unfold subM seenE
  rw [List.map_map]
  exact List.map_congr_left fun k _ => by simp [kk, HV.sub]
theorem seenE_length (ks : List Key3) : (seenE ks).length = ks.length := by simp [seenE]
theorem seenE_snoc (ks : List Key3) (c : Key3) : seenE ks ++ [(.agg [.str c.1, .str c.2.1, .str c.2.2], .lit (.bool true))] = seenE (ks ++ [c]) := by simp [seenE, kk]
theorem seenE_get {ks : List Key3} {c : Key3} (h : c ∈ ks) : (seenE ks)[ks.idxOf c]? = some (.agg [.str c.1, .str c.2.1, .str c.2.2], .lit (.bool true)) := by
  have hlt := List.idxOf_lt_length_iff.2 h
  unfold seenE
  rw [List.getElem?_map, List.getElem?_eq_getElem hlt, List.getElem_idxOf hlt]; rfl
theorem seenE_set {ks : List Key3} {c : Key3} (h : c ∈ ks) : (seenE ks).set (ks.idxOf c) (.agg [.str c.1, .str c.2.1, .str c.2.2], .lit (.bool true)) = seenE ks := by
  apply List.ext_getElem?
  intro i
  rw [List.getElem?_set]
  split
  · next e =>
    subst e
    rw [if_pos (by rw [seenE_length]; exact List.idxOf_lt_length_iff.2 h), seenE_get h]
  · rfl
def addA (l : List Key3) (c : Key3) : List Key3 := if c ∈ l then l else l ++ [c]
theorem addA_mem (l : List Key3) (c x : Key3) : x ∈ addA l c ↔ x ∈ l ∨ x = c := by
  unfold addA
  split
  · next h => constructor
              · exact .inl
              · rintro (h' | rfl); exact h'; exact h
  · simp
theorem addA_fold : ∀ (xs acc : List Key3), (xs.foldl addA acc).length ≤ acc.length + xs.length ∧ ((xs.foldl addA acc).length = acc.length + xs.length ↔ xs.Nodup ∧ ∀ x ∈ xs, x ∉ acc)
  | [], acc => by simp
  | x :: xs, acc => by
    obtain ⟨h1, h2⟩ := addA_fold xs (addA acc x)
    rw [List.foldl_cons]
    by_cases hx : x ∈ acc
    · have e : addA acc x = acc := by unfold addA; rw [if_pos hx]
      rw [e] at h1 h2 ⊢
      refine ⟨by simp; omega, ?_⟩
      constructor
      · intro h; simp at h; omega
      · rintro ⟨_, h⟩; exact absurd hx (h x (by simp))
    · have e : addA acc x = acc ++ [x] := by unfold addA; rw [if_neg hx]
      rw [e] at h1 h2 ⊢
      have hl : (acc ++ [x]).length + xs.length = acc.length + (x :: xs).length := by simp; omega
      rw [hl] at h1 h2
      refine ⟨h1, h2.trans ?_⟩
      rw [List.nodup_cons]
      constructor
      · rintro ⟨a, b⟩
        refine ⟨⟨fun h => (b x h) (by simp), a⟩, fun y hy => ?_⟩
        rcases List.mem_cons.1 hy with rfl | hy
        · exact hx
        · exact fun h => b y hy (by simp [h])
      · rintro ⟨⟨a, b⟩, c⟩
        refine ⟨b, fun y hy h => ?_⟩
        rcases List.mem_append.1 h with h | h
        · exact c y (by simp [hy]) h
        · simp at h; subst h; exact a hy
def keysK (l : List Doc) (k : Nat) : List Key3 := ((l.take k).map keyV).foldl addA []
theorem keysK_succ {l : List Doc} {k : Nat} (hk : k < l.length) : keysK l (k + 1) = addA (keysK l k) (keyV l[k]) := by
  unfold keysK; rw [List.take_succ_eq_append_getElem hk, List.map_append, List.foldl_append]; rfl
theorem keysK_len (l : List Doc) : (keysK l l.length).length < l.length ↔ ¬ (l.map keyV).Nodup := by
  obtain ⟨h1, h2⟩ := addA_fold (l.map keyV) []
  unfold keysK
  rw [List.take_length]
  simp only [List.length_nil, Nat.zero_add, List.length_map, List.not_mem_nil, not_false_eq_true, implies_true, and_true] at h1 h2
  rw [← h2]; omega
theorem check0_KB {d : Doc} (h : checkV d = 0) : KB (keyV d) := by
  have h1 : nameV d.repo = true := by cases e : nameV d.repo with
    | true => rfl
    | false => rw [check3 (.inl e)] at h; cases h
  have h2 : pathV d.path = true := by cases e : pathV d.path with
    | true => rfl
    | false => rw [check3 (.inr (.inl e))] at h; cases h
  have h3 : textV d.text = true := by cases e : textV d.text with
    | true => rfl
    | false => rw [check3 (.inr (.inr (.inl e)))] at h; cases h
  unfold nameV at h1
  rw [Bool.and_eq_true] at h1
  unfold pathV at h1 h2
  unfold textV at h3
  simp only [Bool.and_eq_true] at h1 h2 h3
  exact ⟨Nat.le_trans (of_decide_eq_true h1.1.1) (by decide), Nat.le_trans (of_decide_eq_true h2.1) (by decide), Nat.le_trans (of_decide_eq_true h3.1) (by decide)⟩
theorem scan_two {last : Int} {l : List Doc} {k : Nat} (hk : k < l.length) (h : l[k].id ≤ last ∨ 9999 < l[k].id) : scanV last (l.drop k) = 2 := by
  rw [List.drop_eq_getElem_cons hk, scanV, if_pos h]
theorem scan_chk {last : Int} {l : List Doc} {k : Nat} (hk : k < l.length) (h : ¬ (l[k].id ≤ last ∨ 9999 < l[k].id)) (h2 : ¬ checkV l[k] = 0) : scanV last (l.drop k) = checkV l[k] := by
  rw [List.drop_eq_getElem_cons hk, scanV, if_neg h, if_pos h2]
theorem scan_go {last : Int} {l : List Doc} {k : Nat} (hk : k < l.length) (h : ¬ (l[k].id ≤ last ∨ 9999 < l[k].id)) (h2 : checkV l[k] = 0) : scanV last (l.drop k) = scanV l[k].id (l.drop (k + 1)) := by
  rw [List.drop_eq_getElem_cons hk, scanV, if_neg h, if_neg (by simpa using h2)]
theorem right_long {l : List Doc} (h : 64 < l.length) : rightV l = 4 := by unfold rightV; rw [if_pos h]
theorem right_scan {l : List Doc} {n : Int} (h : l.length ≤ 64) (hs : scanV 0 l = n) (hn : n ≠ 0) : rightV l = n := by
  unfold rightV; rw [if_neg (by omega), if_pos (by rw [hs]; exact hn), hs]
theorem right_end {l : List Doc} (h : l.length ≤ 64) (hs : scanV 0 l = 0) : rightV l = if (l.map keyV).Nodup then 0 else 7 := by
  unfold rightV; rw [if_neg (by omega), if_neg (by rw [hs]; simp)]
def DocsB (B : Nat) (l : List Doc) : Prop := l.length ≤ B ∧ ∀ d ∈ l, DocB B d
set_option maxRecDepth 20000 in
set_option maxHeartbeats 4000000 in
theorem Right_spec (l : List Doc) (hl : DocsB 140737488355328 l) : Spec1 Tryz.prog 40 [.sl 5 false (docsHV l)] (i64 (rightV l)) := by
  have hl0 := hl.1
  refine Spec1.of_HT Tryz.func40 rfl (by rw [Tryz.ntmps40]; simp) rfl ?_
  rw [Tryz.ntmps40]
  refine HT.seq ?_
  refine HT.region ?_   -- R0
  simp (disch := first | omega | (simp <;> omega) | fail) [wrap_i64, wrap_u64, wrap_u8']
  refine HT.seq ?_
  refine HT.seq ?_
  refine HT.region ?_   -- R1
  simp (disch := first | omega | (simp <;> omega) | fail) [wrap_i64, wrap_u64, wrap_u8']
  refine HT.cond' ?_   -- if 10
  simp (disch := first | omega | (simp <;> omega) | fail) [wrap_i64, wrap_u64, wrap_u8']
  refine ⟨fun h10 => ?_, fun h10 => ?_⟩
  · skip
    have hx := right_long (show 64 < l.length by omega)
    refine HT.seq ?_
    refine HT.region ?_   -- R2
    simp (disch := first | omega | (simp <;> omega) | fail) [wrap_i64, wrap_u64, wrap_u8']
    refine HT.ret ?_
    simp (disch := first | omega | (simp <;> omega) | fail) [wrap_i64, wrap_u64, wrap_u8', hx]
  · skip
    have hl64 : l.length ≤ 64 := by omega
    refine HT.skip ?_
    simp (disch := first | omega | (simp <;> omega) | fail) [wrap_i64, wrap_u64, wrap_u8']
    refine HT.seq ?_
    refine HT.region ?_   -- R3
    simp (disch := first | omega | (simp <;> omega) | fail) [wrap_i64, wrap_u64, wrap_u8']
    refine HT.seq ?_
    refine HT.region ?_   -- R4
    simp (disch := first | omega | (simp <;> omega) | fail) [wrap_i64, wrap_u64, wrap_u8']
    refine HT.seq ?_
    refine HT.seq ?_
    refine HT.region ?_   -- R5
    simp (disch := first | omega | (simp <;> omega) | fail) [wrap_i64, wrap_u64, wrap_u8']
    refine HT.block ?_
    refine HT.loopK (fun k : {k : Nat × Int // k.1 ≤ l.length ∧ scanV 0 l = scanV k.2 (l.drop k.1) ∧ (∀ x ∈ keysK l k.1, KB x) ∧ (keysK l k.1).length ≤ k.1} => [.s 14 (i64 k.1.1), .s 3 (i64 k.1.2), .o 11 (.map (seenE (keysK l k.1.1)))]) [0, 4, 12, 13] [] (fun k => l.length - k.1.1) (⟨⟨0, 0⟩, by simp, by simp, by simp [keysK], by simp [keysK]⟩) ?_ ?_   -- block 0 turned [3, 14, 23, 24, 25]
    · simp (disch := first | omega | (simp <;> omega) | fail) [wrap_i64, wrap_u64, wrap_u8', keysK, seenE]
    rintro ⟨⟨k, last⟩, hk, hsc, hkb, hks⟩
    simp (disch := first | omega | (simp <;> omega) | fail) [wrap_i64, wrap_u64, wrap_u8']
    refine HT.seq ?_
    refine HT.region ?_   -- R6
    simp (disch := first | omega | (simp <;> omega) | fail) [wrap_i64, wrap_u64, wrap_u8']
    refine HT.seq ?_
    refine HT.cond' ?_   -- if 15
    simp (disch := first | omega | (simp <;> omega) | fail) [wrap_i64, wrap_u64, wrap_u8']
    refine ⟨fun h15 => ?_, fun h15 => ?_⟩
    · skip
      dsimp only at hk hsc hkb hks
      have hk' : k < l.length := by omega
      refine HT.skip ?_
      simp (disch := first | omega | (simp <;> omega) | fail) [wrap_i64, wrap_u64, wrap_u8']
      refine HT.seq ?_
      refine HT.block ?_
      refine HT.seq ?_
      refine HT.region ?_   -- R7
      simp (disch := first | omega | (simp <;> omega) | fail) [wrap_i64, wrap_u64, wrap_u8']
      refine HT.seq ?_
      refine HT.seq ?_
      by_cases a1 : l[k].id ≤ last
      · skip
        refine HT.region ?_   -- R8
        simp (disch := first | omega | (simp <;> omega) | fail) [wrap_i64, wrap_u64, wrap_u8']
        refine HT.cond' ?_   -- if 26
        simp (disch := first | omega | (simp <;> omega) | fail) [wrap_i64, wrap_u64, wrap_u8']
        refine HT.seq ?_
        refine HT.region ?_   -- R9
        simp (disch := first | omega | (simp <;> omega) | fail) [wrap_i64, wrap_u64, wrap_u8']
        refine HT.ret ?_
        have hx := right_scan hl64 (hsc.trans (scan_two hk' (by omega))) (by decide)
        simp (disch := first | omega | (simp <;> omega) | fail) [wrap_i64, wrap_u64, wrap_u8', hx]
      by_cases a2 : 9999 < l[k].id
      · skip
        refine HT.region ?_   -- R8
        simp (disch := first | omega | (simp <;> omega) | fail) [wrap_i64, wrap_u64, wrap_u8']
        refine HT.cond' ?_   -- if 26
        simp (disch := first | omega | (simp <;> omega) | fail) [wrap_i64, wrap_u64, wrap_u8']
        refine HT.seq ?_
        refine HT.region ?_   -- R9
        simp (disch := first | omega | (simp <;> omega) | fail) [wrap_i64, wrap_u64, wrap_u8']
        refine HT.ret ?_
        have hx := right_scan hl64 (hsc.trans (scan_two hk' (by omega))) (by decide)
        simp (disch := first | omega | (simp <;> omega) | fail) [wrap_i64, wrap_u64, wrap_u8', hx]
      have hn32 : ¬ (l[k].id ≤ last ∨ 9999 < l[k].id) := by omega
      refine HT.region ?_   -- R8
      simp (disch := first | omega | (simp <;> omega) | fail) [wrap_i64, wrap_u64, wrap_u8']
      refine HT.cond' ?_   -- if 26
      simp (disch := first | omega | (simp <;> omega) | fail) [wrap_i64, wrap_u64, wrap_u8']
      refine HT.skip ?_
      simp (disch := first | omega | (simp <;> omega) | fail) [wrap_i64, wrap_u64, wrap_u8']
      refine HT.seq ?_
      refine HT.region ?_   -- R10
      simp (disch := first | omega | (simp <;> omega) | fail) [wrap_i64, wrap_u64, wrap_u8']
      refine HT.seq ?_
      refine HT.seq ?_
      refine HT.region ?_   -- R11
      simp (disch := first | omega | (simp <;> omega) | fail) [wrap_i64, wrap_u64, wrap_u8']
      refine stepK.mk (.call1 _ _ _ _ rfl Ty.hb72 rfl (check_spec l[k] (hl.2 _ (List.getElem_mem hk'))) rfl rfl) ?_
      simp (disch := first | omega | (simp <;> omega) | fail) [wrap_i64, wrap_u64, wrap_u8']
      refine HT.seq ?_
      refine HT.region ?_   -- R12
      simp (disch := first | omega | (simp <;> omega) | fail) [wrap_i64, wrap_u64, wrap_u8']
      refine HT.cond' ?_   -- if 32
      simp (disch := first | omega | (simp <;> omega) | fail) [wrap_i64, wrap_u64, wrap_u8']
      refine ⟨fun h32 => ?_, fun h32 => ?_⟩
      · skip
        refine HT.seq ?_
        refine HT.region ?_   -- R13
        simp (disch := first | omega | (simp <;> omega) | fail) [wrap_i64, wrap_u64, wrap_u8']
        refine HT.ret ?_
        have hx := right_scan hl64 (hsc.trans (scan_chk hk' hn32 h32)) h32
        simp (disch := first | omega | (simp <;> omega) | fail) [wrap_i64, wrap_u64, wrap_u8', hx]
      · skip
        refine HT.skip ?_
        simp (disch := first | omega | (simp <;> omega) | fail) [wrap_i64, wrap_u64, wrap_u8']
        have hok : keyH Tryz.prog 10 81 [.str l[k].repo, .str l[k].path, .str l[k].text] = some [.string l[k].repo, .string l[k].path, .string l[k].text] := key85 (check0_KB h32)
        by_cases cf : keyV l[k] ∈ keysK l k
        · skip
          have hf1 : findHV Tryz.prog 81 (.agg [.str l[k].repo, .str l[k].path, .str l[k].text]) (seenE (keysK l k)) 0 = some (some ((keysK l k).idxOf (keyV l[k]), bo true)) := (find_seen (check0_KB h32) (keysK l k) 0 hkb).trans (by rw [if_pos cf, Nat.zero_add])
          have hg1 : (seenE (keysK l k))[(keysK l k).idxOf (keyV l[k])]? = some (.agg [.str l[k].repo, .str l[k].path, .str l[k].text], .lit (.bool true)) := seenE_get cf
          have hs1 : (seenE (keysK l k)).set ((keysK l k).idxOf (keyV l[k])) (.agg [.str l[k].repo, .str l[k].path, .str l[k].text], .lit (.bool true)) = seenE (keysK l k) := seenE_set cf
          refine HT.region ?_   -- R14
          simp (disch := first | omega | (simp <;> omega) | fail) [wrap_i64, wrap_u64, wrap_u8', hf1, hok, hg1, hs1]
          refine stepK.mk (.call1f _ _ _ _ _ rfl Ty.hb73 rfl rfl (key_spec l[k]) rfl) ?_
          simp (disch := first | omega | (simp <;> omega) | fail) [wrap_i64, wrap_u64, wrap_u8', hf1, hok, hg1, hs1]
          refine HT.region ?_   -- R15
          simp (disch := first | omega | (simp <;> omega) | fail) [wrap_i64, wrap_u64, wrap_u8']
          refine Round.mk' (⟨⟨k + 1, l[k].id⟩, by dsimp only; omega, by dsimp only; rw [hsc, scan_go hk' hn32 h32], by dsimp only; rw [keysK_succ hk']; intro x hx; rcases (addA_mem _ _ _).1 hx with hx | rfl; exact hkb x hx; exact check0_KB h32, by dsimp only; rw [keysK_succ hk']; unfold addA; split <;> (try simp only [List.length_append, List.length_singleton]) <;> omega⟩) (by dsimp only; omega) rfl ?_
          simp (disch := first | omega | (simp <;> omega) | fail) [wrap_i64, wrap_u64, wrap_u8']
          rw [keysK_succ hk', addA]
          simp [cf]
          try exact seenE_snoc _ (keyV l[k])
        have hf1 : findHV Tryz.prog 81 (.agg [.str l[k].repo, .str l[k].path, .str l[k].text]) (seenE (keysK l k)) 0 = some none := (find_seen (check0_KB h32) (keysK l k) 0 hkb).trans (by rw [if_neg cf])
        refine HT.region ?_   -- R14
        simp (disch := first | omega | (simp <;> omega) | fail) [wrap_i64, wrap_u64, wrap_u8', hf1, hok]
        refine stepK.mk (.call1f _ _ _ _ _ rfl Ty.hb73 rfl rfl (key_spec l[k]) rfl) ?_
        simp (disch := first | omega | (simp <;> omega) | fail) [wrap_i64, wrap_u64, wrap_u8', hf1, hok]
        refine HT.region ?_   -- R15
        simp (disch := first | omega | (simp <;> omega) | fail) [wrap_i64, wrap_u64, wrap_u8']
        refine Round.mk' (⟨⟨k + 1, l[k].id⟩, by dsimp only; omega, by dsimp only; rw [hsc, scan_go hk' hn32 h32], by dsimp only; rw [keysK_succ hk']; intro x hx; rcases (addA_mem _ _ _).1 hx with hx | rfl; exact hkb x hx; exact check0_KB h32, by dsimp only; rw [keysK_succ hk']; unfold addA; split <;> (try simp only [List.length_append, List.length_singleton]) <;> omega⟩) (by dsimp only; omega) rfl ?_
        simp (disch := first | omega | (simp <;> omega) | fail) [wrap_i64, wrap_u64, wrap_u8']
        rw [keysK_succ hk', addA]
        simp [cf]
        try exact seenE_snoc _ (keyV l[k])
    · skip
      dsimp only at hk hsc hkb hks
      obtain rfl : k = l.length := by omega
      have hs0 : scanV 0 l = 0 := by rw [hsc, List.drop_length]; rfl
      have hre := right_end hl64 hs0
      have hkl := keysK_len l
      refine HT.exit ?_
      simp (disch := first | omega | (simp <;> omega) | fail) [wrap_i64, wrap_u64, wrap_u8']
      refine HT.seq ?_
      refine HT.seq ?_
      refine HT.region ?_   -- R16
      simp (disch := first | omega | (simp <;> omega) | fail) [wrap_i64, wrap_u64, wrap_u8']
      refine HT.cond' ?_   -- if 42
      simp (disch := first | omega | (simp <;> omega) | fail) [wrap_i64, wrap_u64, wrap_u8']
      refine ⟨fun h42 => ?_, fun h42 => ?_⟩
      · skip
        refine HT.seq ?_
        refine HT.region ?_   -- R17
        simp (disch := first | omega | (simp <;> omega) | fail) [wrap_i64, wrap_u64, wrap_u8']
        refine HT.ret ?_
        have hx : rightV l = 7 := by rw [hre, if_neg (hkl.1 (by simpa [seenE_length] using h42))]
        simp (disch := first | omega | (simp <;> omega) | fail) [wrap_i64, wrap_u64, wrap_u8', hx]
      · skip
        refine HT.skip ?_
        simp (disch := first | omega | (simp <;> omega) | fail) [wrap_i64, wrap_u64, wrap_u8']
        refine HT.seq ?_
        refine HT.region ?_   -- R18
        simp (disch := first | omega | (simp <;> omega) | fail) [wrap_i64, wrap_u64, wrap_u8']
        refine HT.ret ?_
        have hx : rightV l = 0 := by
          rw [hre, if_pos (Classical.byContradiction fun h => absurd (hkl.2 h) (by simpa [seenE_length] using h42))]
        simp (disch := first | omega | (simp <;> omega) | fail) [wrap_i64, wrap_u64, wrap_u8', hx]
def NodTo (l : List Doc) (i : Nat) : Prop := ((l.take i).map keyV).Nodup
def NotTo (l : List Doc) (i k : Nat) : Prop := ∀ (a : Nat) (x : Doc), a < k → l[a]? = some x → ∀ y, l[i]? = some y → ¬ keyV y = keyV x
theorem NotTo.succ {l : List Doc} {i k : Nat} (h : NotTo l i k) (hi : i < l.length) (hk : k < l.length) (hne : ¬ keyV l[i] = keyV l[k]) : NotTo l i (k + 1) := fun a x ha hx y hy => by
  by_cases e : a = k
  · subst e
    rw [List.getElem?_eq_getElem hk] at hx
    rw [List.getElem?_eq_getElem hi] at hy
    cases hx; cases hy; exact hne
  · exact h a x (by omega) hx y hy
theorem NodTo.succ {l : List Doc} {i : Nat} (h : NodTo l i) (hi : i < l.length) (hn : NotTo l i i) : NodTo l (i + 1) := by
  unfold NodTo at h ⊢
  rw [List.take_succ_eq_append_getElem hi, List.map_append, List.nodup_append]
  refine ⟨h, by simp, fun x hx y hy => ?_⟩
  obtain ⟨d, hd, rfl⟩ := List.mem_map.1 hx
  obtain ⟨a, ha⟩ := List.mem_iff_getElem?.1 hd
  have hal := getElem?_lt ha
  rw [List.length_take] at hal
  rw [List.getElem?_take_of_lt (by omega)] at ha
  simp at hy
  subst hy
  exact fun e => hn a d (by omega) ha l[i] (List.getElem?_eq_getElem hi) e.symm
theorem not_nod {l : List Doc} {i k : Nat} (hk : k < i) (hi : i < l.length) (h : keyV l[i] = keyV l[k]) : ¬ (l.map keyV).Nodup := fun hn => by
  have h2 := List.pairwise_iff_getElem.1 hn k i (by rw [List.length_map]; omega) (by rw [List.length_map]; exact hi) hk
  rw [List.getElem_map, List.getElem_map] at h2
  exact h2 h.symm
def ChkTo (l : List Doc) (k : Nat) : Prop := ∀ (i : Nat) (h : i < l.length), i < k → checkV l[i] = 0
theorem ChkTo.succ {l : List Doc} {k : Nat} (h : ChkTo l k) (hk : k < l.length) (hc : checkV l[k] = 0) : ChkTo l (k + 1) := fun i hi hik => by
  by_cases e : i = k
  · subst e; exact hc
  · exact h i hi (by omega)
def lastV (l : List Doc) : Nat → Int
  | 0 => 0
  | k + 1 => match l[k]? with
    | some d => d.id
    | none => 0
theorem lastV_succ {l : List Doc} {k : Nat} (hk : k < l.length) : lastV l (k + 1) = l[k].id := by simp only [lastV, List.getElem?_eq_getElem hk]
set_option maxRecDepth 20000 in
set_option maxHeartbeats 8000000 in
theorem refRight_spec (l : List Doc) (hl : DocsB 140737488355328 l) : Spec1 Tryz.prog 21 [.sl 5 false (docsHV l)] (i64 (rightV l)) := by
  have hl0 := hl.1
  refine Spec1.of_HT Tryz.func21 rfl (by rw [Tryz.ntmps21]; simp) rfl ?_
  rw [Tryz.ntmps21]
  refine HT.seq ?_
  refine HT.region ?_   -- R0
  simp (disch := first | omega | (simp <;> omega) | fail) [wrap_i64, wrap_u64, wrap_u8']
  refine HT.seq ?_
  refine HT.seq ?_
  refine HT.region ?_   -- R1
  simp (disch := first | omega | (simp <;> omega) | fail) [wrap_i64, wrap_u64, wrap_u8']
  refine HT.cond' ?_   -- if 9
  simp (disch := first | omega | (simp <;> omega) | fail) [wrap_i64, wrap_u64, wrap_u8']
  refine ⟨fun h9 => ?_, fun h9 => ?_⟩
  · skip
    have hx := right_long (show 64 < l.length by omega)
    refine HT.seq ?_
    refine HT.region ?_   -- R2
    simp (disch := first | omega | (simp <;> omega) | fail) [wrap_i64, wrap_u64, wrap_u8']
    refine HT.ret ?_
    simp (disch := first | omega | (simp <;> omega) | fail) [wrap_i64, wrap_u64, wrap_u8', hx]
  · skip
    have hl64 : l.length ≤ 64 := by omega
    refine HT.skip ?_
    simp (disch := first | omega | (simp <;> omega) | fail) [wrap_i64, wrap_u64, wrap_u8']
    refine HT.seq ?_
    refine HT.seq ?_
    refine HT.region ?_   -- R3
    simp (disch := first | omega | (simp <;> omega) | fail) [wrap_i64, wrap_u64, wrap_u8']
    refine HT.block ?_
    refine HT.loopK (fun k : {k : Nat // k ≤ l.length ∧ scanV 0 l = scanV (lastV l k) (l.drop k) ∧ ChkTo l k ∧ 0 ≤ lastV l k} => [.s 3 (i64 k)]) [0] [] (fun k => l.length - k) (⟨0, by omega, rfl, fun i h hi => absurd hi (Nat.not_lt_zero _), by simp [lastV]⟩) ?_ ?_   -- block 0 turned [3, 23, 24, 25, 26, 27, 28, 31, 32, 33, 34, 35, 36, 37, 38, 39, 40, 41, 42, 43, 44, 45, 46]
    · simp (disch := first | omega | (simp <;> omega) | fail) [wrap_i64, wrap_u64, wrap_u8']
    rintro ⟨k, hk, hsc, hck, hla⟩
    simp (disch := first | omega | (simp <;> omega) | fail) [wrap_i64, wrap_u64, wrap_u8']
    refine HT.seq ?_
    refine HT.seq ?_
    refine HT.region ?_   -- R4
    simp (disch := first | omega | (simp <;> omega) | fail) [wrap_i64, wrap_u64, wrap_u8']
    refine HT.cond' ?_   -- if 13
    simp (disch := first | omega | (simp <;> omega) | fail) [wrap_i64, wrap_u64, wrap_u8']
    refine ⟨fun h13 => ?_, fun h13 => ?_⟩
    · skip
      have hk' : k < l.length := by omega
      refine HT.skip ?_
      simp (disch := first | omega | (simp <;> omega) | fail) [wrap_i64, wrap_u64, wrap_u8']
      refine HT.seq ?_
      refine HT.block ?_
      refine HT.seq ?_
      refine HT.seq ?_
      by_cases a1 : l[k].id < 1
      · skip
        refine HT.draw [.batch [0, 1, 2, 3, 4, 5, 6, 7, 8, 9, 10, 11, 12, 13, 14, 15, 16, 17, 18, 19, 20, 21, 22, 23, 24, 25, 26, 27, 28, 29, 30, 31]] (by kernel_rfl) ?_   -- R6
        simp (disch := first | omega | (simp <;> omega) | fail) [wrap_i64, wrap_u64, wrap_u8']
        refine HT.cond' ?_   -- if 47
        simp (disch := first | omega | (simp <;> omega) | fail) [wrap_i64, wrap_u64, wrap_u8']
        refine HT.seq ?_
        refine HT.region ?_   -- R7
        simp (disch := first | omega | (simp <;> omega) | fail) [wrap_i64, wrap_u64, wrap_u8']
        refine HT.ret ?_
        have hx := right_scan hl64 (hsc.trans (scan_two hk' (by omega))) (by decide)
        simp (disch := first | omega | (simp <;> omega) | fail) [wrap_i64, wrap_u64, wrap_u8', hx]
      by_cases a2 : 9999 < l[k].id
      · skip
        refine HT.draw [.batch [0, 1, 2, 3, 4, 5, 6, 7, 8, 9, 10, 11, 12, 13, 14, 15, 16, 17, 18, 19, 20, 21, 22, 23, 24, 25, 26, 27, 28, 29, 30, 31]] (by kernel_rfl) ?_   -- R6
        simp (disch := first | omega | (simp <;> omega) | fail) [wrap_i64, wrap_u64, wrap_u8']
        refine HT.cond' ?_   -- if 47
        simp (disch := first | omega | (simp <;> omega) | fail) [wrap_i64, wrap_u64, wrap_u8']
        refine HT.seq ?_
        refine HT.region ?_   -- R7
        simp (disch := first | omega | (simp <;> omega) | fail) [wrap_i64, wrap_u64, wrap_u8']
        refine HT.ret ?_
        have hx := right_scan hl64 (hsc.trans (scan_two hk' (by omega))) (by decide)
        simp (disch := first | omega | (simp <;> omega) | fail) [wrap_i64, wrap_u64, wrap_u8', hx]
      by_cases a0 : k = 0
      · skip
        have hn32 : ¬ (l[k].id ≤ lastV l k ∨ 9999 < l[k].id) := by subst a0; simp only [lastV]; omega
        refine HT.draw [.batch [0, 1, 2, 3, 4, 5, 6, 7, 8, 9, 10, 11, 12, 13, 14, 15, 16, 17, 18, 19, 20, 21, 22, 23, 24, 25, 26, 27, 28, 29, 30, 31]] (by kernel_rfl) ?_   -- R6
        simp (disch := first | omega | (simp <;> omega) | fail) [wrap_i64, wrap_u64, wrap_u8']
        refine HT.cond' ?_   -- if 47
        simp (disch := first | omega | (simp <;> omega) | fail) [wrap_i64, wrap_u64, wrap_u8']
        refine HT.skip ?_
        simp (disch := first | omega | (simp <;> omega) | fail) [wrap_i64, wrap_u64, wrap_u8']
        refine HT.seq ?_
        refine HT.region ?_   -- R8
        simp (disch := first | omega | (simp <;> omega) | fail) [wrap_i64, wrap_u64, wrap_u8']
        refine stepK.mk (.call1 _ _ _ _ rfl Ty.hb54 rfl (fields_spec l[k] (hl.2 _ (List.getElem_mem hk'))) rfl rfl) ?_
        simp (disch := first | omega | (simp <;> omega) | fail) [wrap_i64, wrap_u64, wrap_u8']
        refine HT.seq ?_
        refine HT.region ?_   -- R9
        simp (disch := first | omega | (simp <;> omega) | fail) [wrap_i64, wrap_u64, wrap_u8']
        refine HT.cond' ?_   -- if 54
        simp (disch := first | omega | (simp <;> omega) | fail) [wrap_i64, wrap_u64, wrap_u8']
        refine ⟨fun h54 => ?_, fun h54 => ?_⟩
        · skip
          refine HT.seq ?_
          refine HT.region ?_   -- R10
          simp (disch := first | omega | (simp <;> omega) | fail) [wrap_i64, wrap_u64, wrap_u8']
          refine HT.ret ?_
          have hx := right_scan hl64 (hsc.trans (scan_chk hk' hn32 h54)) h54
          simp (disch := first | omega | (simp <;> omega) | fail) [wrap_i64, wrap_u64, wrap_u8', hx]
        · skip
          refine HT.skip ?_
          simp (disch := first | omega | (simp <;> omega) | fail) [wrap_i64, wrap_u64, wrap_u8']
          refine HT.region ?_   -- R5
          simp (disch := first | omega | (simp <;> omega) | fail) [wrap_i64, wrap_u64, wrap_u8']
          refine Round.mk' (⟨k + 1, by omega, by rw [hsc, scan_go hk' hn32 h54, lastV_succ hk'], hck.succ hk' h54, by rw [lastV_succ hk']; omega⟩) (by dsimp only; omega) rfl ?_
          simp (disch := first | omega | (simp <;> omega) | fail) [wrap_i64, wrap_u64, wrap_u8']
      have hj' : k - 1 < l.length := by omega
      have hll : lastV l k = l[k - 1].id := by have := lastV_succ hj'; rwa [show k - 1 + 1 = k by omega] at this
      have hk1 : ((k : Int) - 1).toNat = k - 1 := by omega
      by_cases a3 : l[k].id ≤ l[k - 1].id
      · skip
        rw [← hll] at a3
        refine HT.draw [.batch [0, 1, 2, 3, 4, 5, 6, 7, 8, 9, 10, 11, 12, 13, 14, 15, 16, 17, 18, 19, 20, 21, 22, 23, 24, 25, 26, 27, 28, 29, 30, 31]] (by kernel_rfl) ?_   -- R6
        simp (disch := first | omega | (simp <;> omega) | fail) [wrap_i64, wrap_u64, wrap_u8', hk1]
        refine HT.cond' ?_   -- if 47
        simp (disch := first | omega | (simp <;> omega) | fail) [wrap_i64, wrap_u64, wrap_u8']
        refine HT.seq ?_
        refine HT.region ?_   -- R7
        simp (disch := first | omega | (simp <;> omega) | fail) [wrap_i64, wrap_u64, wrap_u8']
        refine HT.ret ?_
        have hx := right_scan hl64 (hsc.trans (scan_two hk' (by omega))) (by decide)
        simp (disch := first | omega | (simp <;> omega) | fail) [wrap_i64, wrap_u64, wrap_u8', hx]
      have hn32 : ¬ (l[k].id ≤ lastV l k ∨ 9999 < l[k].id) := by omega
      refine HT.draw [.batch [0, 1, 2, 3, 4, 5, 6, 7, 8, 9, 10, 11, 12, 13, 14, 15, 16, 17, 18, 19, 20, 21, 22, 23, 24, 25, 26, 27, 28, 29, 30, 31]] (by kernel_rfl) ?_   -- R6
      simp (disch := first | omega | (simp <;> omega) | fail) [wrap_i64, wrap_u64, wrap_u8', hk1]
      refine HT.cond' ?_   -- if 47
      simp (disch := first | omega | (simp <;> omega) | fail) [wrap_i64, wrap_u64, wrap_u8']
      refine HT.skip ?_
      simp (disch := first | omega | (simp <;> omega) | fail) [wrap_i64, wrap_u64, wrap_u8']
      refine HT.seq ?_
      refine HT.region ?_   -- R8
      simp (disch := first | omega | (simp <;> omega) | fail) [wrap_i64, wrap_u64, wrap_u8']
      refine stepK.mk (.call1 _ _ _ _ rfl Ty.hb54 rfl (fields_spec l[k] (hl.2 _ (List.getElem_mem hk'))) rfl rfl) ?_
      simp (disch := first | omega | (simp <;> omega) | fail) [wrap_i64, wrap_u64, wrap_u8']
      refine HT.seq ?_
      refine HT.region ?_   -- R9
      simp (disch := first | omega | (simp <;> omega) | fail) [wrap_i64, wrap_u64, wrap_u8']
      refine HT.cond' ?_   -- if 54
      simp (disch := first | omega | (simp <;> omega) | fail) [wrap_i64, wrap_u64, wrap_u8']
      refine ⟨fun h54 => ?_, fun h54 => ?_⟩
      · skip
        refine HT.seq ?_
        refine HT.region ?_   -- R10
        simp (disch := first | omega | (simp <;> omega) | fail) [wrap_i64, wrap_u64, wrap_u8']
        refine HT.ret ?_
        have hx := right_scan hl64 (hsc.trans (scan_chk hk' hn32 h54)) h54
        simp (disch := first | omega | (simp <;> omega) | fail) [wrap_i64, wrap_u64, wrap_u8', hx]
      · skip
        refine HT.skip ?_
        simp (disch := first | omega | (simp <;> omega) | fail) [wrap_i64, wrap_u64, wrap_u8']
        refine HT.region ?_   -- R5
        simp (disch := first | omega | (simp <;> omega) | fail) [wrap_i64, wrap_u64, wrap_u8']
        refine Round.mk' (⟨k + 1, by omega, by rw [hsc, scan_go hk' hn32 h54, lastV_succ hk'], hck.succ hk' h54, by rw [lastV_succ hk']; omega⟩) (by dsimp only; omega) rfl ?_
        simp (disch := first | omega | (simp <;> omega) | fail) [wrap_i64, wrap_u64, wrap_u8']
    · skip
      obtain rfl : k = l.length := by omega
      have hs0 : scanV 0 l = 0 := by rw [hsc, List.drop_length]; rfl
      have hre := right_end hl64 hs0
      refine HT.exit ?_
      simp (disch := first | omega | (simp <;> omega) | fail) [wrap_i64, wrap_u64, wrap_u8']
      refine HT.seq ?_
      refine HT.seq ?_
      refine HT.region ?_   -- R11
      simp (disch := first | omega | (simp <;> omega) | fail) [wrap_i64, wrap_u64, wrap_u8']
      refine HT.block ?_
      refine HT.loopK (fun i : {i : Nat // i ≤ l.length ∧ NodTo l i} => [.s 5 (i64 i)]) [0] [] (fun i => l.length - i) (⟨0, by omega, by simp [NodTo]⟩) ?_ ?_   -- block 2 turned [5]
      · simp (disch := first | omega | (simp <;> omega) | fail) [wrap_i64, wrap_u64, wrap_u8']
      rintro ⟨i, hi, hno⟩
      simp (disch := first | omega | (simp <;> omega) | fail) [wrap_i64, wrap_u64, wrap_u8']
      refine HT.seq ?_
      refine HT.seq ?_
      refine HT.region ?_   -- R12
      simp (disch := first | omega | (simp <;> omega) | fail) [wrap_i64, wrap_u64, wrap_u8']
      refine HT.cond' ?_   -- if 59
      simp (disch := first | omega | (simp <;> omega) | fail) [wrap_i64, wrap_u64, wrap_u8']
      refine ⟨fun h59 => ?_, fun h59 => ?_⟩
      · skip
        have hi' : i < l.length := by omega
        refine HT.skip ?_
        simp (disch := first | omega | (simp <;> omega) | fail) [wrap_i64, wrap_u64, wrap_u8']
        refine HT.seq ?_
        refine HT.block ?_
        refine HT.seq ?_
        refine HT.region ?_   -- R14
        simp (disch := first | omega | (simp <;> omega) | fail) [wrap_i64, wrap_u64, wrap_u8']
        refine HT.block ?_
        refine HT.loopK (fun k : {k : Nat // k ≤ i ∧ NotTo l i k} => [.s 6 (i64 k)]) [0, 5] [] (fun k => i - k) (⟨0, by omega, fun a x ha => absurd ha (Nat.not_lt_zero _)⟩) ?_ ?_   -- block 4 turned [6]
        · simp (disch := first | omega | (simp <;> omega) | fail) [wrap_i64, wrap_u64, wrap_u8']
        rintro ⟨k, hk2, hnt⟩
        simp (disch := first | omega | (simp <;> omega) | fail) [wrap_i64, wrap_u64, wrap_u8']
        refine HT.seq ?_
        refine HT.seq ?_
        refine HT.region ?_   -- R15
        simp (disch := first | omega | (simp <;> omega) | fail) [wrap_i64, wrap_u64, wrap_u8']
        refine HT.cond' ?_   -- if 64
        simp (disch := first | omega | (simp <;> omega) | fail) [wrap_i64, wrap_u64, wrap_u8']
        refine ⟨fun h64 => ?_, fun h64 => ?_⟩
        · skip
          have hki : k < i := by omega
          have hkl : k < l.length := by omega
          refine HT.skip ?_
          simp (disch := first | omega | (simp <;> omega) | fail) [wrap_i64, wrap_u64, wrap_u8']
          refine HT.seq ?_
          refine HT.block ?_
          refine HT.seq ?_
          have hke : aggEq Tryz.prog 81 [.str l[i].repo, .str l[i].path, .str l[i].text] [.str l[k].repo, .str l[k].path, .str l[k].text] = some (decide (keyV l[i] = keyV l[k])) := aggEq85 (check0_KB (hck i hi' hi')) (check0_KB (hck k hkl hkl))
          by_cases c77 : keyV l[i] = keyV l[k]
          · skip
            refine HT.draw [.batch [0, 1, 2, 3, 4, 5, 6, 7, 8, 9, 10]] (by kernel_rfl) ?_   -- R17
            simp (disch := first | omega | (simp <;> omega) | fail) [wrap_i64, wrap_u64, wrap_u8', hke, c77]
            refine stepK.mk (.call1 _ _ _ rfl Ty.hb55 rfl rfl (rKey_spec l[i])) ?_
            simp (disch := first | omega | (simp <;> omega) | fail) [wrap_i64, wrap_u64, wrap_u8', hke, c77]
            refine stepK.mk (.call1 _ _ _ rfl Ty.hb55 rfl rfl (rKey_spec l[k])) ?_
            simp (disch := first | omega | (simp <;> omega) | fail) [wrap_i64, wrap_u64, wrap_u8', hke, c77]
            refine HT.cond' ?_   -- if 77
            simp (disch := first | omega | (simp <;> omega) | fail) [wrap_i64, wrap_u64, wrap_u8']
            refine HT.seq ?_
            refine HT.region ?_   -- R18
            simp (disch := first | omega | (simp <;> omega) | fail) [wrap_i64, wrap_u64, wrap_u8']
            refine HT.ret ?_
            have hx : rightV l = 7 := by rw [hre, if_neg (not_nod hki hi' c77)]
            simp (disch := first | omega | (simp <;> omega) | fail) [wrap_i64, wrap_u64, wrap_u8', hx]
          refine HT.draw [.batch [0, 1, 2, 3, 4, 5, 6, 7, 8, 9, 10]] (by kernel_rfl) ?_   -- R17
          simp (disch := first | omega | (simp <;> omega) | fail) [wrap_i64, wrap_u64, wrap_u8', hke, c77]
          refine stepK.mk (.call1 _ _ _ rfl Ty.hb55 rfl rfl (rKey_spec l[i])) ?_
          simp (disch := first | omega | (simp <;> omega) | fail) [wrap_i64, wrap_u64, wrap_u8', hke, c77]
          refine stepK.mk (.call1 _ _ _ rfl Ty.hb55 rfl rfl (rKey_spec l[k])) ?_
          simp (disch := first | omega | (simp <;> omega) | fail) [wrap_i64, wrap_u64, wrap_u8', hke, c77]
          refine HT.cond' ?_   -- if 77
          simp (disch := first | omega | (simp <;> omega) | fail) [wrap_i64, wrap_u64, wrap_u8']
          refine HT.skip ?_
          simp (disch := first | omega | (simp <;> omega) | fail) [wrap_i64, wrap_u64, wrap_u8']
          refine HT.region ?_   -- R16
          simp (disch := first | omega | (simp <;> omega) | fail) [wrap_i64, wrap_u64, wrap_u8']
          refine Round.mk' (⟨k + 1, by omega, hnt.succ hi' (by omega) c77⟩) (by dsimp only; omega) rfl ?_
          simp (disch := first | omega | (simp <;> omega) | fail) [wrap_i64, wrap_u64, wrap_u8']
        · skip
          obtain rfl : i = k := by omega
          refine HT.exit ?_
          simp (disch := first | omega | (simp <;> omega) | fail) [wrap_i64, wrap_u64, wrap_u8']
          refine HT.region ?_   -- R13
          simp (disch := first | omega | (simp <;> omega) | fail) [wrap_i64, wrap_u64, wrap_u8']
          refine Round.mk' (⟨i + 1, by omega, hno.succ hi' hnt⟩) (by dsimp only; omega) rfl ?_
          simp (disch := first | omega | (simp <;> omega) | fail) [wrap_i64, wrap_u64, wrap_u8']
      · skip
        obtain rfl : i = l.length := by omega
        have hnod : (l.map keyV).Nodup := by unfold NodTo at hno; rwa [List.take_length] at hno
        refine HT.exit ?_
        simp (disch := first | omega | (simp <;> omega) | fail) [wrap_i64, wrap_u64, wrap_u8']
        refine HT.seq ?_
        refine HT.region ?_   -- R19
        simp (disch := first | omega | (simp <;> omega) | fail) [wrap_i64, wrap_u64, wrap_u8']
        refine HT.ret ?_
        have hx : rightV l = 0 := by rw [hre, if_pos hnod]
        simp (disch := first | omega | (simp <;> omega) | fail) [wrap_i64, wrap_u64, wrap_u8', hx]
end Go.Hv
set_option linter.unusedVariables false
set_option linter.unusedSimpArgs false
namespace Go.Hv
open Go Go.Hv Go.Proofs Go.RowKit
open Go.Proofs.YtlbmbnpknobjdaaGreatDoor
theorem ins_lt {x n : Int} {r : List Int} (h : x < n) : ins (x :: r) n = x :: ins r n := by rw [ins, if_pos h]
theorem ins_gt {x n : Int} {r : List Int} (h : n < x) : ins (x :: r) n = n :: x :: r := by rw [ins, if_neg (by omega), if_neg (by omega)]
theorem ins_eq {x n : Int} {r : List Int} (h : x = n) : ins (x :: r) n = x :: r := by rw [ins, if_neg (by omega), if_pos h]
set_option maxHeartbeats 4000000 in
theorem Put_spec (l : List Int) (n : Int) (hl : l.length ≤ 1000000) : Spec1 Tryz.prog 122 [.sl 1 false (intsHV l), i64 n] (.sl 1 false (intsHV (ins l n))) := by
  refine Spec1.of_HT Tryz.func122 rfl (by rw [Tryz.ntmps122]; simp) rfl ?_
  rw [Tryz.ntmps122]
  refine HT.seq ?_
  refine HT.region ?_   -- R0
  simp (disch := first | omega | (simp <;> omega) | fail) [wrap_i64, wrap_u64, wrap_u8']
  refine HT.seq ?_
  refine HT.region ?_   -- R1
  simp (disch := first | omega | (simp <;> omega) | fail) [wrap_i64, wrap_u64, wrap_u8']
  refine HT.weaken (HS.le_own (t := 5) 200 3 1 _ (by decide) rfl (by decide)) ?_
  refine HT.seq ?_
  refine HT.region ?_   -- R2
  simp (disch := first | omega | (simp <;> omega) | fail) [wrap_i64, wrap_u64, wrap_u8']
  refine HT.seq ?_
  refine HT.seq ?_
  refine HT.region ?_   -- R3
  simp (disch := first | omega | (simp <;> omega) | fail) [wrap_i64, wrap_u64, wrap_u8']
  refine HT.block ?_
  refine HT.loopK (fun k : {k : Nat × Bool × List Int // k.1 ≤ l.length ∧ k.2.2 ++ (if k.2.1 = true then l.drop k.1 else ins (l.drop k.1) n) = ins l n ∧ k.2.2.length ≤ k.1 + 1 ∧ (k.2.1 = false → k.2.2.length ≤ k.1)} => [.s 7 (i64 k.1.1), .s 6 (bo k.1.2.1), .s 5 (.ref 200), .o 200 (.row 3 1 (intsHV k.1.2.2))]) [0, 1] [] (fun k => l.length - k.1.1) (⟨⟨0, false, []⟩, by simp⟩) ?_ ?_   -- block 0 turned [5, 6, 7, 18, 19, 20, 21, 22, 23]
  · simp (disch := first | omega | (simp <;> omega) | fail) [wrap_i64, wrap_u64, wrap_u8']
  rintro ⟨⟨k, dn, o⟩, hk, hh, hlen, hlen2⟩
  simp (disch := first | omega | (simp <;> omega) | fail) [wrap_i64, wrap_u64, wrap_u8']
  refine HT.seq ?_
  refine HT.seq ?_
  refine HT.region ?_   -- R4
  simp (disch := first | omega | (simp <;> omega) | fail) [wrap_i64, wrap_u64, wrap_u8']
  refine HT.cond' ?_   -- if 12
  simp (disch := first | omega | (simp <;> omega) | fail) [wrap_i64, wrap_u64, wrap_u8']
  refine ⟨fun h12 => ?_, fun h12 => ?_⟩
  · skip
    dsimp only at hk hh hlen hlen2
    have hk' : k < l.length := by omega
    have hdr := List.drop_eq_getElem_cons hk'
    refine HT.skip ?_
    simp (disch := first | omega | (simp <;> omega) | fail) [wrap_i64, wrap_u64, wrap_u8']
    refine HT.seq ?_
    refine HT.block ?_
    refine HT.seq ?_
    refine HT.seq ?_
    by_cases d1 : dn = true
    · skip
      subst d1
      have dt := hk'
      refine HT.region ?_   -- R6
      simp (disch := first | omega | (simp <;> omega) | fail) [wrap_i64, wrap_u64, wrap_u8']
      refine HT.cond' ?_   -- if 24
      simp (disch := first | omega | (simp <;> omega) | fail) [wrap_i64, wrap_u64, wrap_u8']
      refine HT.skip ?_
      simp (disch := first | omega | (simp <;> omega) | fail) [wrap_i64, wrap_u64, wrap_u8']
      refine HT.region ?_   -- R10
      simp (disch := first | omega | (simp <;> omega) | fail) [wrap_i64, wrap_u64, wrap_u8']
      refine HT.region ?_   -- R5
      simp (disch := first | omega | (simp <;> omega) | fail) [wrap_i64, wrap_u64, wrap_u8']
      first | (have _t := dt; refine Round.mk' (⟨⟨k + 1, true, o ++ [l[k]]⟩, by dsimp only; omega, by dsimp only; rw [if_pos rfl, ← hh, if_pos rfl, hdr]; simp, by dsimp only; rw [List.length_append]; simp; omega, fun h => by simp at h⟩) (by dsimp only; omega) rfl ?_) | (have _t := ct; refine Round.mk' (⟨⟨k + 1, false, o ++ [l[k]]⟩, by dsimp only; omega, by dsimp only; rw [if_neg (by simp), ← hh, if_neg (by simp), hdr, ins_lt ct]; simp, by dsimp only; rw [List.length_append]; simp; omega, fun h => by dsimp only; rw [List.length_append]; have := hlen2 rfl; simp; omega⟩) (by dsimp only; omega) rfl ?_) | (have _t := cg; refine Round.mk' (⟨⟨k + 1, true, o ++ [n, l[k]]⟩, by dsimp only; omega, by dsimp only; rw [if_pos rfl, ← hh, if_neg (by simp), hdr, ins_gt cg]; simp, by dsimp only; rw [List.length_append]; have := hlen2 rfl; simp; omega, fun h => by simp at h⟩) (by dsimp only; omega) rfl ?_) | (refine Round.mk' (⟨⟨k + 1, true, o ++ [l[k]]⟩, by dsimp only; omega, by dsimp only; rw [if_pos rfl, ← hh, if_neg (by simp), hdr, ins_eq ce]; simp, by dsimp only; rw [List.length_append]; simp; omega, fun h => by simp at h⟩) (by dsimp only; omega) rfl ?_)
      simp (disch := first | omega | (simp <;> omega) | fail) [wrap_i64, wrap_u64, wrap_u8']
    obtain rfl : dn = false := by simpa using d1
    by_cases c1 : l[k] < n
    · skip
      have ct := c1
      refine HT.region ?_   -- R6
      simp (disch := first | omega | (simp <;> omega) | fail) [wrap_i64, wrap_u64, wrap_u8']
      refine HT.cond' ?_   -- if 24
      simp (disch := first | omega | (simp <;> omega) | fail) [wrap_i64, wrap_u64, wrap_u8']
      refine HT.skip ?_
      simp (disch := first | omega | (simp <;> omega) | fail) [wrap_i64, wrap_u64, wrap_u8']
      refine HT.region ?_   -- R10
      simp (disch := first | omega | (simp <;> omega) | fail) [wrap_i64, wrap_u64, wrap_u8']
      refine HT.region ?_   -- R5
      simp (disch := first | omega | (simp <;> omega) | fail) [wrap_i64, wrap_u64, wrap_u8']
      first | (have _t := dt; refine Round.mk' (⟨⟨k + 1, true, o ++ [l[k]]⟩, by dsimp only; omega, by dsimp only; rw [if_pos rfl, ← hh, if_pos rfl, hdr]; simp, by dsimp only; rw [List.length_append]; simp; omega, fun h => by simp at h⟩) (by dsimp only; omega) rfl ?_) | (have _t := ct; refine Round.mk' (⟨⟨k + 1, false, o ++ [l[k]]⟩, by dsimp only; omega, by dsimp only; rw [if_neg (by simp), ← hh, if_neg (by simp), hdr, ins_lt ct]; simp, by dsimp only; rw [List.length_append]; simp; omega, fun h => by dsimp only; rw [List.length_append]; have := hlen2 rfl; simp; omega⟩) (by dsimp only; omega) rfl ?_) | (have _t := cg; refine Round.mk' (⟨⟨k + 1, true, o ++ [n, l[k]]⟩, by dsimp only; omega, by dsimp only; rw [if_pos rfl, ← hh, if_neg (by simp), hdr, ins_gt cg]; simp, by dsimp only; rw [List.length_append]; have := hlen2 rfl; simp; omega, fun h => by simp at h⟩) (by dsimp only; omega) rfl ?_) | (refine Round.mk' (⟨⟨k + 1, true, o ++ [l[k]]⟩, by dsimp only; omega, by dsimp only; rw [if_pos rfl, ← hh, if_neg (by simp), hdr, ins_eq ce]; simp, by dsimp only; rw [List.length_append]; simp; omega, fun h => by simp at h⟩) (by dsimp only; omega) rfl ?_)
      simp (disch := first | omega | (simp <;> omega) | fail) [wrap_i64, wrap_u64, wrap_u8']
    by_cases c2 : n < l[k]
    · skip
      have cg := c2
      refine HT.region ?_   -- R6
      simp (disch := first | omega | (simp <;> omega) | fail) [wrap_i64, wrap_u64, wrap_u8']
      refine HT.cond' ?_   -- if 24
      simp (disch := first | omega | (simp <;> omega) | fail) [wrap_i64, wrap_u64, wrap_u8']
      refine HT.seq ?_
      refine HT.seq ?_
      refine HT.region ?_   -- R7
      simp (disch := first | omega | (simp <;> omega) | fail) [wrap_i64, wrap_u64, wrap_u8']
      refine HT.cond' ?_   -- if 30
      simp (disch := first | omega | (simp <;> omega) | fail) [wrap_i64, wrap_u64, wrap_u8']
      refine HT.region ?_   -- R8
      simp (disch := first | omega | (simp <;> omega) | fail) [wrap_i64, wrap_u64, wrap_u8']
      refine HT.region ?_   -- R9
      simp (disch := first | omega | (simp <;> omega) | fail) [wrap_i64, wrap_u64, wrap_u8']
      refine HT.region ?_   -- R10
      simp (disch := first | omega | (simp <;> omega) | fail) [wrap_i64, wrap_u64, wrap_u8']
      refine HT.region ?_   -- R5
      simp (disch := first | omega | (simp <;> omega) | fail) [wrap_i64, wrap_u64, wrap_u8']
      first | (have _t := dt; refine Round.mk' (⟨⟨k + 1, true, o ++ [l[k]]⟩, by dsimp only; omega, by dsimp only; rw [if_pos rfl, ← hh, if_pos rfl, hdr]; simp, by dsimp only; rw [List.length_append]; simp; omega, fun h => by simp at h⟩) (by dsimp only; omega) rfl ?_) | (have _t := ct; refine Round.mk' (⟨⟨k + 1, false, o ++ [l[k]]⟩, by dsimp only; omega, by dsimp only; rw [if_neg (by simp), ← hh, if_neg (by simp), hdr, ins_lt ct]; simp, by dsimp only; rw [List.length_append]; simp; omega, fun h => by dsimp only; rw [List.length_append]; have := hlen2 rfl; simp; omega⟩) (by dsimp only; omega) rfl ?_) | (have _t := cg; refine Round.mk' (⟨⟨k + 1, true, o ++ [n, l[k]]⟩, by dsimp only; omega, by dsimp only; rw [if_pos rfl, ← hh, if_neg (by simp), hdr, ins_gt cg]; simp, by dsimp only; rw [List.length_append]; have := hlen2 rfl; simp; omega, fun h => by simp at h⟩) (by dsimp only; omega) rfl ?_) | (refine Round.mk' (⟨⟨k + 1, true, o ++ [l[k]]⟩, by dsimp only; omega, by dsimp only; rw [if_pos rfl, ← hh, if_neg (by simp), hdr, ins_eq ce]; simp, by dsimp only; rw [List.length_append]; simp; omega, fun h => by simp at h⟩) (by dsimp only; omega) rfl ?_)
      simp (disch := first | omega | (simp <;> omega) | fail) [wrap_i64, wrap_u64, wrap_u8']
    have ce : l[k] = n := by omega
    refine HT.region ?_   -- R6
    simp (disch := first | omega | (simp <;> omega) | fail) [wrap_i64, wrap_u64, wrap_u8']
    refine HT.cond' ?_   -- if 24
    simp (disch := first | omega | (simp <;> omega) | fail) [wrap_i64, wrap_u64, wrap_u8']
    refine HT.seq ?_
    refine HT.seq ?_
    refine HT.region ?_   -- R7
    simp (disch := first | omega | (simp <;> omega) | fail) [wrap_i64, wrap_u64, wrap_u8']
    refine HT.cond' ?_   -- if 30
    simp (disch := first | omega | (simp <;> omega) | fail) [wrap_i64, wrap_u64, wrap_u8']
    refine HT.skip ?_
    simp (disch := first | omega | (simp <;> omega) | fail) [wrap_i64, wrap_u64, wrap_u8']
    refine HT.region ?_   -- R9
    simp (disch := first | omega | (simp <;> omega) | fail) [wrap_i64, wrap_u64, wrap_u8']
    refine HT.region ?_   -- R10
    simp (disch := first | omega | (simp <;> omega) | fail) [wrap_i64, wrap_u64, wrap_u8']
    refine HT.region ?_   -- R5
    simp (disch := first | omega | (simp <;> omega) | fail) [wrap_i64, wrap_u64, wrap_u8']
    first | (have _t := dt; refine Round.mk' (⟨⟨k + 1, true, o ++ [l[k]]⟩, by dsimp only; omega, by dsimp only; rw [if_pos rfl, ← hh, if_pos rfl, hdr]; simp, by dsimp only; rw [List.length_append]; simp; omega, fun h => by simp at h⟩) (by dsimp only; omega) rfl ?_) | (have _t := ct; refine Round.mk' (⟨⟨k + 1, false, o ++ [l[k]]⟩, by dsimp only; omega, by dsimp only; rw [if_neg (by simp), ← hh, if_neg (by simp), hdr, ins_lt ct]; simp, by dsimp only; rw [List.length_append]; simp; omega, fun h => by dsimp only; rw [List.length_append]; have := hlen2 rfl; simp; omega⟩) (by dsimp only; omega) rfl ?_) | (have _t := cg; refine Round.mk' (⟨⟨k + 1, true, o ++ [n, l[k]]⟩, by dsimp only; omega, by dsimp only; rw [if_pos rfl, ← hh, if_neg (by simp), hdr, ins_gt cg]; simp, by dsimp only; rw [List.length_append]; have := hlen2 rfl; simp; omega, fun h => by simp at h⟩) (by dsimp only; omega) rfl ?_) | (refine Round.mk' (⟨⟨k + 1, true, o ++ [l[k]]⟩, by dsimp only; omega, by dsimp only; rw [if_pos rfl, ← hh, if_neg (by simp), hdr, ins_eq ce]; simp, by dsimp only; rw [List.length_append]; simp; omega, fun h => by simp at h⟩) (by dsimp only; omega) rfl ?_)
    simp (disch := first | omega | (simp <;> omega) | fail) [wrap_i64, wrap_u64, wrap_u8']
  · skip
    dsimp only at hk hh hlen hlen2
    obtain rfl : k = l.length := by omega
    rw [List.drop_length] at hh
    refine HT.exit ?_
    simp (disch := first | omega | (simp <;> omega) | fail) [wrap_i64, wrap_u64, wrap_u8']
    refine HT.seq ?_
    refine HT.seq ?_
    by_cases d2 : dn = true
    · skip
      subst d2
      have hx : o = ins l n := by rw [← hh]; simp
      refine HT.region ?_   -- R11
      simp (disch := first | omega | (simp <;> omega) | fail) [wrap_i64, wrap_u64, wrap_u8']
      refine HT.cond' ?_   -- if 43
      simp (disch := first | omega | (simp <;> omega) | fail) [wrap_i64, wrap_u64, wrap_u8']
      refine HT.skip ?_
      simp (disch := first | omega | (simp <;> omega) | fail) [wrap_i64, wrap_u64, wrap_u8']
      refine HT.seq ?_
      refine HT.region ?_   -- R13
      simp (disch := first | omega | (simp <;> omega) | fail) [wrap_i64, wrap_u64, wrap_u8']
      refine HT.ret ?_
      simp (disch := first | omega | (simp <;> omega) | fail) [wrap_i64, wrap_u64, wrap_u8', hx]
    obtain rfl : dn = false := by simpa using d2
    have hx : o ++ [n] = ins l n := by rw [← hh]; simp [ins]
    refine HT.region ?_   -- R11
    simp (disch := first | omega | (simp <;> omega) | fail) [wrap_i64, wrap_u64, wrap_u8']
    refine HT.cond' ?_   -- if 43
    simp (disch := first | omega | (simp <;> omega) | fail) [wrap_i64, wrap_u64, wrap_u8']
    refine HT.region ?_   -- R12
    simp (disch := first | omega | (simp <;> omega) | fail) [wrap_i64, wrap_u64, wrap_u8']
    refine HT.seq ?_
    refine HT.region ?_   -- R13
    simp (disch := first | omega | (simp <;> omega) | fail) [wrap_i64, wrap_u64, wrap_u8']
    refine HT.ret ?_
    simp (disch := first | omega | (simp <;> omega) | fail) [wrap_i64, wrap_u64, wrap_u8', hx]
end Go.Hv
set_option linter.unusedVariables false
set_option linter.unusedSimpArgs false
namespace Go.Hv
open Go Go.Hv Go.Proofs Go.RowKit
open Go.Proofs.YtlbmbnpknobjdaaGreatDoor
theorem foldl_ins_len : ∀ (b a : List Int), (b.foldl ins a).length ≤ a.length + b.length
  | [], a => by simp
  | x :: b, a => by
    rw [List.foldl_cons]
    have := foldl_ins_len b (ins a x)
    have := ins_length a x
    simp only [List.length_cons]; omega
theorem foldl_ins_self {a : List Int} (h : Inc a) : a.foldl ins [] = a := by
  apply inc_unique (foldl_ins_inc a List.Pairwise.nil) h
  intro c; rw [foldl_ins_mem]; simp
theorem foldl_take {a z : List Int} {k : Nat} (hk : k < a.length) : (a.take (k + 1)).foldl ins z = ins ((a.take k).foldl ins z) a[k] := by
  rw [List.take_succ_eq_append_getElem hk, List.foldl_append]; rfl
theorem foldl_take_len (a z : List Int) (k : Nat) : ((a.take k).foldl ins z).length ≤ z.length + a.length := by
  have := foldl_ins_len (a.take k) z
  rw [List.length_take] at this; omega
set_option maxHeartbeats 4000000 in
theorem Or_spec (a b : List Int) (hab : a.length + b.length ≤ 1000000) : Spec1 Tryz.prog 79 [.sl 1 false (intsHV a), .sl 1 false (intsHV b)] (.sl 1 false (intsHV (b.foldl ins (a.foldl ins [])))) := by
  have hlA := foldl_ins_len a []
  simp only [List.length_nil, Nat.zero_add] at hlA
  refine Spec1.of_HT Tryz.func79 rfl (by rw [Tryz.ntmps79]; simp) rfl ?_
  rw [Tryz.ntmps79]
  refine HT.seq ?_
  refine HT.region ?_   -- R0
  simp (disch := first | omega | (simp <;> omega) | fail) [wrap_i64, wrap_u64, wrap_u8']
  refine HT.seq ?_
  refine HT.region ?_   -- R1
  simp (disch := first | omega | (simp <;> omega) | fail) [wrap_i64, wrap_u64, wrap_u8']
  refine HT.weaken (HS.le_wk 5 (.sl 1 false []) (by decide) rfl rfl (HLe.nilf 1 1 true)) ?_
  refine HT.seq ?_
  refine HT.seq ?_
  refine HT.region ?_   -- R2
  simp (disch := first | omega | (simp <;> omega) | fail) [wrap_i64, wrap_u64, wrap_u8']
  refine HT.block ?_
  refine HT.loopK (fun k : {k : Nat // k ≤ a.length} => [.s 6 (i64 k), .s 5 (.sl 1 false (intsHV ((a.take k).foldl ins [])))]) [0, 1] [] (fun k => a.length - k) (⟨0, by omega⟩) ?_ ?_   -- block 0 turned [5, 6]
  · simp (disch := first | omega | (simp <;> omega) | fail) [wrap_i64, wrap_u64, wrap_u8']
  rintro ⟨k, hk⟩
  simp (disch := first | omega | (simp <;> omega) | fail) [wrap_i64, wrap_u64, wrap_u8']
  refine HT.seq ?_
  refine HT.seq ?_
  refine HT.region ?_   -- R3
  simp (disch := first | omega | (simp <;> omega) | fail) [wrap_i64, wrap_u64, wrap_u8']
  refine HT.cond' ?_   -- if 12
  simp (disch := first | omega | (simp <;> omega) | fail) [wrap_i64, wrap_u64, wrap_u8']
  refine ⟨fun h12 => ?_, fun h12 => ?_⟩
  · skip
    have hk' : k < a.length := by omega
    have hl1 := foldl_take_len a [] k
    simp only [List.length_nil, Nat.zero_add] at hl1
    refine HT.skip ?_
    simp (disch := first | omega | (simp <;> omega) | fail) [wrap_i64, wrap_u64, wrap_u8']
    refine HT.seq ?_
    refine HT.block ?_
    refine HT.region ?_   -- R5
    simp (disch := first | omega | (simp <;> omega) | fail) [wrap_i64, wrap_u64, wrap_u8']
    refine stepK.mk (.call1f _ _ _ _ _ rfl Ty.hb122 rfl rfl (Put_spec ((a.take k).foldl ins []) a[k] (by omega)) rfl) ?_
    simp (disch := first | omega | (simp <;> omega) | fail) [wrap_i64, wrap_u64, wrap_u8']
    refine HT.region ?_   -- R4
    simp (disch := first | omega | (simp <;> omega) | fail) [wrap_i64, wrap_u64, wrap_u8']
    refine Round.mk' (⟨k + 1, by omega⟩) (by dsimp only; omega) rfl ?_
    simp (disch := first | omega | (simp <;> omega) | fail) [wrap_i64, wrap_u64, wrap_u8', foldl_take hk']
  · skip
    obtain rfl : k = a.length := by omega
    refine HT.exit ?_
    simp (disch := first | omega | (simp <;> omega) | fail) [wrap_i64, wrap_u64, wrap_u8']
    refine HT.seq ?_
    refine HT.seq ?_
    refine HT.region ?_   -- R6
    simp (disch := first | omega | (simp <;> omega) | fail) [wrap_i64, wrap_u64, wrap_u8']
    refine HT.block ?_
    refine HT.loopK (fun k : {k : Nat // k ≤ b.length} => [.s 7 (i64 k), .s 5 (.sl 1 false (intsHV ((b.take k).foldl ins (a.foldl ins []))))]) [1] [] (fun k => b.length - k) (⟨0, by omega⟩) ?_ ?_   -- block 2 turned [5, 7]
    · simp (disch := first | omega | (simp <;> omega) | fail) [wrap_i64, wrap_u64, wrap_u8']
    rintro ⟨k, hk⟩
    simp (disch := first | omega | (simp <;> omega) | fail) [wrap_i64, wrap_u64, wrap_u8']
    refine HT.seq ?_
    refine HT.seq ?_
    refine HT.region ?_   -- R7
    simp (disch := first | omega | (simp <;> omega) | fail) [wrap_i64, wrap_u64, wrap_u8']
    refine HT.cond' ?_   -- if 24
    simp (disch := first | omega | (simp <;> omega) | fail) [wrap_i64, wrap_u64, wrap_u8']
    refine ⟨fun h24 => ?_, fun h24 => ?_⟩
    · skip
      have hk' : k < b.length := by omega
      have hl1 := foldl_take_len b (a.foldl ins []) k
      refine HT.skip ?_
      simp (disch := first | omega | (simp <;> omega) | fail) [wrap_i64, wrap_u64, wrap_u8']
      refine HT.seq ?_
      refine HT.block ?_
      refine HT.region ?_   -- R9
      simp (disch := first | omega | (simp <;> omega) | fail) [wrap_i64, wrap_u64, wrap_u8']
      refine stepK.mk (.call1f _ _ _ _ _ rfl Ty.hb122 rfl rfl (Put_spec ((b.take k).foldl ins (a.foldl ins [])) b[k] (by omega)) rfl) ?_
      simp (disch := first | omega | (simp <;> omega) | fail) [wrap_i64, wrap_u64, wrap_u8']
      refine HT.region ?_   -- R8
      simp (disch := first | omega | (simp <;> omega) | fail) [wrap_i64, wrap_u64, wrap_u8']
      refine Round.mk' (⟨k + 1, by omega⟩) (by dsimp only; omega) rfl ?_
      simp (disch := first | omega | (simp <;> omega) | fail) [wrap_i64, wrap_u64, wrap_u8', foldl_take hk']
    · skip
      obtain rfl : k = b.length := by omega
      refine HT.exit ?_
      simp (disch := first | omega | (simp <;> omega) | fail) [wrap_i64, wrap_u64, wrap_u8']
      refine HT.seq ?_
      refine HT.region ?_   -- R10
      simp (disch := first | omega | (simp <;> omega) | fail) [wrap_i64, wrap_u64, wrap_u8']
      refine HT.ret ?_
      simp (disch := first | omega | (simp <;> omega) | fail) [wrap_i64, wrap_u64, wrap_u8']
def TxtB (l : List Doc) : Prop := l.length ≤ 64 ∧ ∀ d ∈ l, d.text.length ≤ 2000
theorem codesV_take {l : List Doc} {k : Nat} (hk : k < l.length) : codesV (l.take (k + 1)) = (ofV l[k].text).foldl ins ((codesV (l.take k)).foldl ins []) := by
  rw [foldl_ins_self (codesV_inc _)]
  unfold codesV
  rw [List.take_succ_eq_append_getElem hk, List.foldl_append]; rfl
theorem codesV_len {l : List Doc} (h : TxtB l) : ∀ (k : Nat), k ≤ l.length → (codesV (l.take k)).length ≤ 2000 * k
  | 0, _ => by simp [codesV]
  | k + 1, hk => by
    have ih := codesV_len h k (by omega)
    rw [codesV_take (by omega), foldl_ins_self (codesV_inc _)]
    have h1 := foldl_ins_len (ofV (l[k]'(by omega)).text) (codesV (l.take k))
    have h2 := ofV_length (l[k]'(by omega)).text
    have h3 := h.2 _ (List.getElem_mem (show k < l.length by omega))
    omega
set_option maxHeartbeats 4000000 in
theorem codes_spec (l : List Doc) (hl : TxtB l) : Spec1 Tryz.prog 45 [.sl 5 false (docsHV l)] (.sl 1 false (intsHV (codesV l))) := by
  have hl64 := hl.1
  refine Spec1.of_HT Tryz.func45 rfl (by rw [Tryz.ntmps45]; simp) rfl ?_
  rw [Tryz.ntmps45]
  refine HT.seq ?_
  refine HT.region ?_   -- R0
  simp (disch := first | omega | (simp <;> omega) | fail) [wrap_i64, wrap_u64, wrap_u8']
  refine HT.seq ?_
  refine HT.region ?_   -- R1
  simp (disch := first | omega | (simp <;> omega) | fail) [wrap_i64, wrap_u64, wrap_u8']
  refine HT.weaken (HS.le_wk 3 (.sl 1 false []) (by decide) rfl rfl (HLe.nilf 1 1 true)) ?_
  refine HT.seq ?_
  refine HT.seq ?_
  refine HT.region ?_   -- R2
  simp (disch := first | omega | (simp <;> omega) | fail) [wrap_i64, wrap_u64, wrap_u8']
  refine HT.block ?_
  refine HT.loopK (fun k : {k : Nat // k ≤ l.length} => [.s 4 (i64 k), .s 3 (.sl 1 false (intsHV (codesV (l.take k))))]) [0] [] (fun k => l.length - k) (⟨0, by omega⟩) ?_ ?_   -- block 0 turned [3, 4]
  · simp (disch := first | omega | (simp <;> omega) | fail) [wrap_i64, wrap_u64, wrap_u8', show codesV [] = [] from rfl]
  rintro ⟨k, hk⟩
  simp (disch := first | omega | (simp <;> omega) | fail) [wrap_i64, wrap_u64, wrap_u8']
  refine HT.seq ?_
  refine HT.seq ?_
  refine HT.region ?_   -- R3
  simp (disch := first | omega | (simp <;> omega) | fail) [wrap_i64, wrap_u64, wrap_u8']
  refine HT.cond' ?_   -- if 9
  simp (disch := first | omega | (simp <;> omega) | fail) [wrap_i64, wrap_u64, wrap_u8']
  refine ⟨fun h9 => ?_, fun h9 => ?_⟩
  · skip
    have hk' : k < l.length := by omega
    have hcl := codesV_len hl k (by omega)
    have htx := hl.2 _ (List.getElem_mem hk')
    have hol := ofV_length l[k].text
    refine HT.skip ?_
    simp (disch := first | omega | (simp <;> omega) | fail) [wrap_i64, wrap_u64, wrap_u8']
    refine HT.seq ?_
    refine HT.block ?_
    refine HT.region ?_   -- R5
    simp (disch := first | omega | (simp <;> omega) | fail) [wrap_i64, wrap_u64, wrap_u8']
    refine stepK.mk (.call1f _ _ _ _ _ rfl Ty.hb38 rfl rfl (refOf_spec l[k].text (by omega)) rfl) ?_
    simp (disch := first | omega | (simp <;> omega) | fail) [wrap_i64, wrap_u64, wrap_u8']
    refine stepK.mk (.call1f _ _ _ _ _ rfl Ty.hb79 rfl rfl (Or_spec (codesV (l.take k)) (ofV l[k].text) (by omega)) rfl) ?_
    simp (disch := first | omega | (simp <;> omega) | fail) [wrap_i64, wrap_u64, wrap_u8']
    refine HT.region ?_   -- R4
    simp (disch := first | omega | (simp <;> omega) | fail) [wrap_i64, wrap_u64, wrap_u8']
    refine Round.mk' (⟨k + 1, by omega⟩) (by dsimp only; omega) rfl ?_
    simp (disch := first | omega | (simp <;> omega) | fail) [wrap_i64, wrap_u64, wrap_u8', codesV_take hk']
  · skip
    obtain rfl : k = l.length := by omega
    refine HT.exit ?_
    simp (disch := first | omega | (simp <;> omega) | fail) [wrap_i64, wrap_u64, wrap_u8']
    refine HT.seq ?_
    refine HT.region ?_   -- R6
    simp (disch := first | omega | (simp <;> omega) | fail) [wrap_i64, wrap_u64, wrap_u8']
    refine HT.ret ?_
    simp (disch := first | omega | (simp <;> omega) | fail) [wrap_i64, wrap_u64, wrap_u8']
theorem CloneD_spec (f : Bool) (l : List Doc) (hl : l.length ≤ 1000000) : SpecO Tryz.prog 42 [.sl 5 f (docsHV l)] 52 5 (docsHV l) := by
  refine SpecO.of_HT Tryz.func42 rfl (by rw [Tryz.ntmps42]; simp) rfl ?_
  rw [Tryz.ntmps42]
  refine HT.seq ?_
  refine HT.region ?_   -- R0
  simp (disch := first | omega | (simp <;> omega) | fail) [wrap_i64, wrap_u64, wrap_u8']
  refine HT.seq ?_
  refine HT.seq ?_
  refine HT.region ?_   -- R1
  simp (disch := first | omega | (simp <;> omega) | fail) [wrap_i64, wrap_u64, wrap_u8']
  refine ⟨fun hnil => ?_, ?_⟩
  · skip
    refine HT.cond' ?_   -- if 4
    simp (disch := first | omega | (simp <;> omega) | fail) [wrap_i64, wrap_u64, wrap_u8']
    refine HT.seq ?_
    refine HT.region ?_   -- R2
    simp (disch := first | omega | (simp <;> omega) | fail) [wrap_i64, wrap_u64, wrap_u8']
    refine HT.weaken (HS.le_own (t := 2) 200 52 5 _ (by decide) rfl (by decide)) ?_
    refine HT.ret ?_
    simp (disch := first | omega | (simp <;> omega) | fail) [wrap_i64, wrap_u64, wrap_u8', hnil]
  · skip
    refine HT.cond' ?_   -- if 4
    simp (disch := first | omega | (simp <;> omega) | fail) [wrap_i64, wrap_u64, wrap_u8']
    refine HT.skip ?_
    simp (disch := first | omega | (simp <;> omega) | fail) [wrap_i64, wrap_u64, wrap_u8']
    refine HT.seq ?_
    refine HT.region ?_   -- R3
    simp (disch := first | omega | (simp <;> omega) | fail) [wrap_i64, wrap_u64, wrap_u8']
    refine HT.ret ?_
    simp (disch := first | omega | (simp <;> omega) | fail) [wrap_i64, wrap_u64, wrap_u8']
end Go.Hv
set_option linter.unusedVariables false
set_option linter.unusedSimpArgs false
namespace Go.Hv
open Go Go.Hv Go.Proofs Go.RowKit
open Go.Proofs.YtlbmbnpknobjdaaGreatDoor
theorem gramsV_le (s : List UInt8) : (gramsV s).length ≤ s.length := by
  have h1 := ofV_length s
  have h2 : (gramsV s).length = (ofV s).length := by simp [gramsV]
  omega
theorem right_txt {l : List Doc} (h : rightV l = 0) : TxtB l := by
  obtain ⟨h1, _, _, h4, _⟩ := (rightV_zero l).1 h
  refine ⟨h1, fun d hd => ?_⟩
  have hc := (h4 d hd).2
  have h3 : textV d.text = true := by cases e : textV d.text with
    | true => rfl
    | false => rw [check3 (.inr (.inr (.inl e)))] at hc; cases hc
  unfold textV at h3
  simp only [Bool.and_eq_true] at h3
  exact of_decide_eq_true h3.1
theorem offV_nil {s : List UInt8} {c : Int} (h : c ∉ ofV s) : offV s c = [] := Classical.byContradiction fun h2 => h ((offV_ne s c).1 h2)
theorem atV_map (s : List UInt8) (c : Int) : ∀ (cs : List Int), atV (cs.map fun x => ⟨x, offV s x⟩) c = if c ∈ cs then offV s c else []
  | [] => by simp [atV]
  | x :: cs => by
    have ih := atV_map s c cs
    unfold atV at ih ⊢
    rw [List.map_cons, List.find?_cons]
    by_cases e : x = c
    · subst e; simp
    · have e' : ¬ c = x := fun h => e h.symm
      simp only [e, decide_false, List.mem_cons, e', false_or]
      exact ih
theorem atV_grams (s : List UInt8) (c : Int) : atV (gramsV s) c = offV s c := by
  have h : gramsV s = (ofV s).map fun x => ⟨x, offV s x⟩ := rfl
  rw [h, atV_map]
  split
  · rfl
  · next hc => exact (offV_nil hc).symm
theorem postV_succ {l : List Doc} {j : Nat} {c : Int} (hj : j < l.length) : postV (l.take (j + 1)) c = postV (l.take j) c ++ if offV l[j].text c = [] then [] else [⟨l[j].id, offV l[j].text c⟩] := by
  unfold postV
  rw [List.take_succ_eq_append_getElem hj, List.map_append, List.filter_append]
  congr 1
  by_cases h : offV l[j].text c = [] <;> simp [h]
theorem postV_len (l : List Doc) (j : Nat) (c : Int) : (postV (l.take j) c).length ≤ l.length := by
  unfold postV
  have h1 := List.length_filter_le (fun g : Gram => decide (g.off ≠ [])) ((l.take j).map fun d => (⟨d.id, offV d.text c⟩ : Gram))
  rw [List.length_map, List.length_take] at h1; omega
theorem gramsOf_length (l : List Doc) : (gramsOf l).length = (codesV l).length := by simp [gramsOf]
theorem gramsOf_succ {l : List Doc} {k : Nat} (hk : k < (codesV l).length) : (gramsOf l).take (k + 1) = (gramsOf l).take k ++ [⟨(codesV l)[k], postV l (codesV l)[k]⟩] := by
  have hg : k < (gramsOf l).length := by rw [gramsOf_length]; exact hk
  rw [List.take_succ_eq_append_getElem hg]
  congr 1
  simp [gramsOf]
theorem gramsOf_all (l : List Doc) : (gramsOf l).take (codesV l).length = gramsOf l := by rw [← gramsOf_length, List.take_length]
theorem build_no {l : List Doc} (h : ¬ rightV l = 0) : buildV l = (emptySeg, 1) := by unfold buildV; rw [if_neg h]
theorem build_yes {l : List Doc} (h : rightV l = 0) : buildV l = (segV l, 0) := by unfold buildV; rw [if_pos h]
set_option maxRecDepth 20000 in
set_option maxHeartbeats 8000000 in
theorem refBuild_spec (l : List Doc) (hl : DocsB 140737488355328 l) : SpecT Tryz.prog 13 [.sl 5 false (docsHV l)] [.agg (buildV l).1.enc, i64 (buildV l).2] := by
  refine SpecT.of_HT Tryz.func13 rfl (by rw [Tryz.ntmps13]; simp) (rs := [.cell 2 27, .tmp 3]) rfl (by decide) ?_
  rw [Tryz.ntmps13]
  refine HT.seq ?_
  refine HT.region ?_   -- R0
  simp (disch := first | omega | (simp <;> omega) | fail) [wrap_i64, wrap_u64, wrap_u8']
  refine HT.seq ?_
  refine HT.seq ?_
  refine HT.region ?_   -- R1
  simp (disch := first | omega | (simp <;> omega) | fail) [wrap_i64, wrap_u64, wrap_u8']
  refine stepK.mk (.call1f _ _ _ _ _ rfl Ty.hb21 rfl rfl (refRight_spec l hl) rfl) ?_
  simp (disch := first | omega | (simp <;> omega) | fail) [wrap_i64, wrap_u64, wrap_u8']
  refine HT.cond' ?_   -- if 12
  simp (disch := first | omega | (simp <;> omega) | fail) [wrap_i64, wrap_u64, wrap_u8']
  refine ⟨fun h12 => ?_, fun h12 => ?_⟩
  · skip
    have hb := build_no h12
    refine HT.seq ?_
    refine HT.region ?_   -- R2
    simp (disch := first | omega | (simp <;> omega) | fail) [wrap_i64, wrap_u64, wrap_u8']
    refine HT.weaken (HS.le_boxown 2 0 200 52 5 0 rfl rfl (by decide) (by decide)) ?_
    simp
    refine HT.weaken (HS.le_boxown 2 1 201 70 2 0 (by rfl) (by rfl) (by decide) (by decide)) ?_
    refine HT.ret ?_
    simp (disch := first | omega | (simp <;> omega) | fail) [wrap_i64, wrap_u64, wrap_u8', hb, emptySeg]
  · skip
    have hb := build_yes h12
    have htx := right_txt h12
    have hl64 := htx.1
    have hcl := codesV_len htx l.length (Nat.le_refl _)
    rw [List.take_length] at hcl
    have hgl := gramsOf_length l
    refine HT.skip ?_
    simp (disch := first | omega | (simp <;> omega) | fail) [wrap_i64, wrap_u64, wrap_u8']
    refine HT.seq ?_
    refine HT.region ?_   -- R3
    simp (disch := first | omega | (simp <;> omega) | fail) [wrap_i64, wrap_u64, wrap_u8']
    refine HT.weaken (HS.le_boxown 4 1 200 70 2 0 rfl rfl (by decide) (by decide)) ?_
    refine HT.seq ?_
    refine HT.region ?_   -- R4
    simp (disch := first | omega | (simp <;> omega) | fail) [wrap_i64, wrap_u64, wrap_u8']
    refine stepK.mk (.call1f _ _ _ _ _ rfl Ty.hb45 rfl rfl (codes_spec l htx) rfl) ?_
    simp (disch := first | omega | (simp <;> omega) | fail) [wrap_i64, wrap_u64, wrap_u8']
    refine HT.seq ?_
    refine HT.seq ?_
    refine HT.region ?_   -- R5
    simp (disch := first | omega | (simp <;> omega) | fail) [wrap_i64, wrap_u64, wrap_u8']
    refine HT.block ?_
    refine HT.loopK (fun k : {k : Nat // k ≤ (codesV l).length} => [.s 6 (i64 k), .o 4 (.box [.sl 5 false (docsHV l), .ref 200]), .o 200 (.row 70 2 (postsHV ((gramsOf l).take k)))]) [0, 2, 4, 5] [2] (fun k => (codesV l).length - k) (⟨0, by omega⟩) ?_ ?_   -- block 0 turned [6]
    · simp (disch := first | omega | (simp <;> omega) | fail) [wrap_i64, wrap_u64, wrap_u8']
    rintro ⟨k, hk⟩
    simp (disch := first | omega | (simp <;> omega) | fail) [wrap_i64, wrap_u64, wrap_u8']
    refine HT.seq ?_
    refine HT.seq ?_
    refine HT.region ?_   -- R6
    simp (disch := first | omega | (simp <;> omega) | fail) [wrap_i64, wrap_u64, wrap_u8']
    refine HT.cond' ?_   -- if 21
    simp (disch := first | omega | (simp <;> omega) | fail) [wrap_i64, wrap_u64, wrap_u8']
    refine ⟨fun h21 => ?_, fun h21 => ?_⟩
    · skip
      have hk' : k < (codesV l).length := by omega
      refine HT.skip ?_
      simp (disch := first | omega | (simp <;> omega) | fail) [wrap_i64, wrap_u64, wrap_u8']
      refine HT.seq ?_
      refine HT.block ?_
      refine HT.seq ?_
      refine HT.region ?_   -- R8
      simp (disch := first | omega | (simp <;> omega) | fail) [wrap_i64, wrap_u64, wrap_u8']
      refine HT.weaken (HS.le_boxown 7 1 201 62 2 0 rfl rfl (by decide) (by decide)) ?_
      refine HT.seq ?_
      refine HT.seq ?_
      refine HT.region ?_   -- R9
      simp (disch := first | omega | (simp <;> omega) | fail) [wrap_i64, wrap_u64, wrap_u8']
      refine HT.block ?_
      refine HT.loopK (fun j : {j : Nat // j ≤ l.length} => [.s 8 (i64 j), .o 7 (.box [i64 (codesV l)[k], .ref 201]), .o 201 (.row 62 2 (gramsHV (postV (l.take j) (codesV l)[k])))]) [0, 2, 4, 5, 6, 7] [2, 4, 200] (fun j => l.length - j) (⟨0, by omega⟩) ?_ ?_   -- block 2 turned [8]
      · simp (disch := first | omega | (simp <;> omega) | fail) [wrap_i64, wrap_u64, wrap_u8', postV]
      rintro ⟨j, hj⟩
      simp (disch := first | omega | (simp <;> omega) | fail) [wrap_i64, wrap_u64, wrap_u8']
      refine HT.seq ?_
      refine HT.seq ?_
      refine HT.region ?_   -- R10
      simp (disch := first | omega | (simp <;> omega) | fail) [wrap_i64, wrap_u64, wrap_u8']
      refine HT.cond' ?_   -- if 32
      simp (disch := first | omega | (simp <;> omega) | fail) [wrap_i64, wrap_u64, wrap_u8']
      refine ⟨fun h32 => ?_, fun h32 => ?_⟩
      · skip
        have hj' : j < l.length := by omega
        have hpl := postV_len l j (codesV l)[k]
        have htj := htx.2 _ (List.getElem_mem hj')
        have hgj := gramsV_le l[j].text
        refine HT.skip ?_
        simp (disch := first | omega | (simp <;> omega) | fail) [wrap_i64, wrap_u64, wrap_u8']
        refine HT.seq ?_
        refine HT.block ?_
        refine HT.seq ?_
        refine HT.draw [.batch [0, 1, 2, 3, 4, 5, 6, 7, 8, 9, 10, 11]] (by kernel_rfl) ?_   -- R12
        simp (disch := first | omega | (simp <;> omega) | fail) [wrap_i64, wrap_u64, wrap_u8']
        refine stepK.mk (.call1 _ _ _ rfl Ty.hb47 rfl rfl (refGrams_spec l[j].text (by omega))) ?_
        simp (disch := first | omega | (simp <;> omega) | fail) [wrap_i64, wrap_u64, wrap_u8']
        refine stepK.mk (.call1 _ _ _ rfl Ty.hb46 rfl rfl (refAt_spec false (gramsV l[j].text) (codesV l)[k] (by omega))) ?_
        simp (disch := first | omega | (simp <;> omega) | fail) [wrap_i64, wrap_u64, wrap_u8', atV_grams]
        refine HT.seq ?_
        refine HT.region ?_   -- R13
        simp (disch := first | omega | (simp <;> omega) | fail) [wrap_i64, wrap_u64, wrap_u8']
        refine HT.cond' ?_   -- if 48
        simp (disch := first | omega | (simp <;> omega) | fail) [wrap_i64, wrap_u64, wrap_u8']
        refine ⟨fun h48 => ?_, fun h48 => ?_⟩
        · skip
          have hT48 : ¬ offV l[j].text (codesV l)[k] = [] := by first | exact h48 | exact pos_ne h48 | (intro e; simp [e] at h48)
          refine HT.draw [.take 2, .take 3, .take 7, .batch [0, 1, 4, 5, 6, 8, 9], .one 10, .batch [11], .one 12] (by kernel_rfl) ?_   -- R14
          simp (disch := first | omega | (simp <;> omega) | fail) [wrap_i64, wrap_u64, wrap_u8']
          refine HT.region ?_   -- R11
          simp (disch := first | omega | (simp <;> omega) | fail) [wrap_i64, wrap_u64, wrap_u8']
          refine Round.mk' (⟨j + 1, by omega⟩) (by dsimp only; omega) rfl ?_
          simp (disch := first | omega | (simp <;> omega) | fail) [wrap_i64, wrap_u64, wrap_u8']
          first
          | (rw [postV_succ hj', if_neg hT48]; try simp [gramsHV])
          | (rw [postV_succ hj', if_pos hF48]; try simp)
        · skip
          have hF48 : offV l[j].text (codesV l)[k] = [] := by first | exact h48 | exact npos_eq h48 | simpa using h48
          refine HT.skip ?_
          simp (disch := first | omega | (simp <;> omega) | fail) [wrap_i64, wrap_u64, wrap_u8']
          refine HT.region ?_   -- R11
          simp (disch := first | omega | (simp <;> omega) | fail) [wrap_i64, wrap_u64, wrap_u8']
          refine Round.mk' (⟨j + 1, by omega⟩) (by dsimp only; omega) rfl ?_
          simp (disch := first | omega | (simp <;> omega) | fail) [wrap_i64, wrap_u64, wrap_u8']
          first
          | (rw [postV_succ hj', if_neg hT48]; try simp [gramsHV])
          | (rw [postV_succ hj', if_pos hF48]; try simp)
      · skip
        obtain rfl : j = l.length := by omega
        refine HT.exit ?_
        simp (disch := first | omega | (simp <;> omega) | fail) [wrap_i64, wrap_u64, wrap_u8']
        refine HT.region ?_   -- R15
        simp (disch := first | omega | (simp <;> omega) | fail) [wrap_i64, wrap_u64, wrap_u8']
        refine HT.region ?_   -- R7
        simp (disch := first | omega | (simp <;> omega) | fail) [wrap_i64, wrap_u64, wrap_u8']
        refine Round.mk' (⟨k + 1, by omega⟩) (by dsimp only; omega) rfl ?_
        simp (disch := first | omega | (simp <;> omega) | fail) [wrap_i64, wrap_u64, wrap_u8', gramsOf_succ hk']
    · skip
      obtain rfl : k = (codesV l).length := by omega
      refine HT.exit ?_
      simp (disch := first | omega | (simp <;> omega) | fail) [wrap_i64, wrap_u64, wrap_u8']
      refine HT.seq ?_
      refine HT.region ?_   -- R16
      simp (disch := first | omega | (simp <;> omega) | fail) [wrap_i64, wrap_u64, wrap_u8']
      refine HT.ret ?_
      simp (disch := first | omega | (simp <;> omega) | fail) [wrap_i64, wrap_u64, wrap_u8', hb, segV, gramsOf_all]
end Go.Hv
