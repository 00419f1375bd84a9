import Derived.Test.YtmpgljmmjipioaaT3
set_option linter.unusedVariables false
set_option linter.unusedSimpArgs false
namespace Go.Hv
open Go Go.Hv Go.Proofs
open Go.Proofs.Ytmpgljmmjipioaa
theorem tabL_get {y : BitVec 32} (h : y.toNat < 16) : (tabL 16)[y.toNat]? = some (u32 (stepN 4 y)) := by
  unfold tabL
  rw [List.getElem?_append_left (by simpa using h)]
  simp [h]
theorem and15 (x : BitVec 32) : (x &&& 15#32).toNat < 16 := by
  rw [BitVec.toNat_and]; have := Nat.and_le_right (n := x.toNat) (m := (15#32).toNat); simp at this ⊢; omega
theorem and15i (x : BitVec 32) : ((x &&& 15#32).toNat : Int) < 16 := by have := and15 x; omega
theorem and15l (x : BitVec 32) : (x &&& 15#32).toNat ≤ 15 := by have := and15 x; omega
theorem take1_drop {α : Type} {l : List α} {k : Nat} {x : α} (h : l[k]? = some x) : (l.drop k).take 1 = [x] := by
  obtain ⟨hl, rfl⟩ := List.getElem?_eq_some_iff.1 h
  rw [List.drop_eq_getElem_cons hl]; rfl
theorem tabL_cut (x : BitVec 32) : ((tabL 16).drop ((x &&& 15#32).toNat)).take 1 = [u32 (stepN 4 (x &&& 15#32))] := take1_drop (tabL_get (and15 x))
theorem subL_tab (id : Nat) (a b : HV) : subL id a b (tabL 16) = tabL 16 := subL_isI _ _ _ _ (by simp [tabL, isIL_iff, isI])
theorem f28_spec (full : Bool) (r : BitVec 32) (l : List UInt8) (hl : l.length < 2 ^ 62) : Spec1 Try.prog 28 [u32 r, .sl 1 full (bytesHV l)] (u32 (extendV r l)) := by
  refine Spec1.of_HT Try.func28 rfl (by rw [Try.ntmps28]; simp) rfl ?_
  rw [Try.ntmps28]
  refine HT.seq ?_
  refine HT.region ?_   -- R0
  simp
  refine HT.seq ?_
  refine HT.region ?_   -- R1 calls [32]
  simp
  refine ⟨_, .call1 _ _ _ _ rfl Ty.hb32 rfl f32_spec (by simp [scalL_iff, tabL, scal]) rfl, ?_⟩
  simp [subL_tab, tabL_one', tabL_length (Nat.le_refl 16)]
  refine HT.seq ?_
  refine HT.region ?_   -- R2
  simp
  refine HT.seq ?_
  refine HT.seq ?_
  refine HT.region ?_   -- R3
  simp
  refine HT.block ?_
  refine HT.loop (fun k : {k : Nat // k ≤ l.length} => ⟨[.s 12 (.sl 1 full (bytesHV l)), .s 13 (i64 l.length), .s 5 (.ptr 5 0), .o 5 (.box (tabL 16)), .s 6 (u32 ((l.take k).foldl takeV (~~~ r))), .s 14 (i64 k)], 39⟩) (fun k => l.length - k) ⟨0, by omega⟩ (HS.le_fits ?_) ?_   -- turned: [6, 8, 14, 15, 16, 17, 18, 19, 20, 21, 22, 23, 24, 25, 26, 27, 28, 29, 30, 31, 32, 33, 34, 35, 36]
  · simp [subL_tab]
  rintro ⟨k, hk⟩
  refine HT.seq ?_
  refine HT.region ?_   -- R4
  simp
  refine HT.seq ?_
  refine HT.cond' ?_
  simp
  constructor
  · intro h
    have hk' : k < l.length := by omega
    refine HT.skip ?_
    simp
    refine HT.seq ?_
    refine HT.block ?_
    refine HT.seq ?_
    refine HT.region ?_   -- R5
    simp [hk', h]
    refine HT.seq ?_
    refine HT.region ?_   -- R6
    simp
    refine HT.seq ?_
    refine HT.region ?_   -- R7
    simp [-BitVec.toNat_and, and15i, and15l, tabL_length (Nat.le_refl 16), tabL_cut]
    refine HT.region ?_   -- R8
    simp [-BitVec.toNat_and, and15i, and15l, tabL_length (Nat.le_refl 16), tabL_cut]
    refine HT.region ?_   -- R9
    simp
    refine ⟨k + 1, by omega, by omega, HS.le_fits ?_⟩
    simp [foldl_take_succ _ _ _ _ hk', takeV_two]
    rw [wrap_i64] <;> omega
  · intro h
    refine HT.exit ?_
    simp
    refine HT.seq ?_
    refine HT.region ?_   -- R10
    simp
    refine HT.ret ?_
    simp [extendV, show k = l.length by omega]
theorem f29_spec (full : Bool) (r : BitVec 32) (l : List UInt8) (hl : l.length < 2 ^ 62) : Spec1 Try.prog 29 [u32 r, .sl 1 full (bytesHV l)] (u32 (extendV r l)) := by
  refine Spec1.of_HT Try.func29 rfl (by rw [Try.ntmps29]; simp) rfl ?_
  rw [Try.ntmps29]
  refine HT.seq ?_
  refine HT.region ?_   -- R0
  simp
  refine HT.seq ?_
  refine HT.region ?_   -- R1
  simp
  refine HT.seq ?_
  refine HT.seq ?_
  refine HT.region ?_   -- R2
  simp
  refine HT.block ?_
  refine HT.loop (fun k : {k : Nat // k ≤ l.length} => ⟨[.s 1 (.sl 1 full (bytesHV l)), .s 5 (u32 ((l.take k).foldl takeV (~~~ r))), .s 6 (i64 k)], 23⟩) (fun k => l.length - k) ⟨0, by omega⟩ (HS.le_fits ?_) ?_   -- turned: [5, 6, 9, 10, 11, 12, 13, 14, 15, 16, 17, 18, 19, 20]
  · simp
  rintro ⟨k, hk⟩
  refine HT.seq ?_
  refine HT.seq ?_
  refine HT.region ?_   -- R3
  simp
  refine HT.cond' ?_
  simp
  constructor
  · intro h
    have hk' : k < l.length := by omega
    refine HT.skip ?_
    simp
    refine HT.seq ?_
    refine HT.block ?_
    refine HT.region ?_   -- R5 calls [33]
    simp [hk', h]
    refine ⟨_, .call1 _ _ _ _ rfl Ty.hb33 rfl (take_spec _ _) rfl rfl, ?_⟩
    simp
    refine HT.region ?_   -- R4
    simp
    refine ⟨k + 1, by omega, by omega, HS.le_fits ?_⟩
    simp [foldl_take_succ _ _ _ _ hk']
    rw [wrap_i64] <;> omega
  · intro h
    refine HT.exit ?_
    simp
    refine HT.seq ?_
    refine HT.region ?_   -- R6
    simp
    refine HT.ret ?_
    simp [extendV, show k = l.length by omega]
theorem f22_spec (full : Bool) (l : List UInt8) (hl : l.length < 2 ^ 62) : Spec1 Try.prog 22 [.sl 1 full (bytesHV l)] (u32 (sumV l)) := by
  refine Spec1.of_HT Try.func22 rfl (by rw [Try.ntmps22]; simp) rfl ?_
  rw [Try.ntmps22]
  refine HT.seq ?_
  refine HT.region ?_   -- R0
  simp
  refine HT.seq ?_
  refine HT.region ?_   -- R1 calls [28]
  simp
  refine ⟨_, .call1 _ _ _ _ rfl Ty.hb28 rfl (by rw [U_zero]; exact f28_spec full 0#32 l hl) rfl rfl, ?_⟩
  simp
  refine HT.ret ?_
  simp [sumV]
theorem f23_spec (full : Bool) (l : List UInt8) (hl : l.length < 2 ^ 62) : Spec1 Try.prog 23 [.sl 1 full (bytesHV l)] (u32 (sumV l)) := by
  refine Spec1.of_HT Try.func23 rfl (by rw [Try.ntmps23]; simp) rfl ?_
  rw [Try.ntmps23]
  refine HT.seq ?_
  refine HT.region ?_   -- R0
  simp
  refine HT.seq ?_
  refine HT.region ?_   -- R1 calls [29]
  simp
  refine ⟨_, .call1 _ _ _ _ rfl Ty.hb29 rfl (by rw [U_zero]; exact f29_spec full 0#32 l hl) rfl rfl, ?_⟩
  simp
  refine HT.ret ?_
  simp [sumV]
end Go.Hv
