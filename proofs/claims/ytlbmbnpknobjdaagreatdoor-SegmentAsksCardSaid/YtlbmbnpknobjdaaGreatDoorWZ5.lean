import Derived.Test.YtlbmbnpknobjdaaGreatDoorWZ4
set_option linter.unusedVariables false
set_option linter.unusedSimpArgs false
namespace Go.Hv
open Go Go.Hv Go.Proofs
open Go.Proofs.YtlbmbnpknobjdaaGreatDoor
def srt (l : List Int) : List Int := l.mergeSort leI
theorem srt_mem (l : List Int) (x : Int) : x ∈ srt l ↔ x ∈ l := List.mem_mergeSort
theorem srt_length (l : List Int) : (srt l).length = l.length := List.length_mergeSort l
theorem srt_sorted (l : List Int) : (srt l).Pairwise (· ≤ ·) := mergeSort_leI l
theorem Cand11_spec (l : List Int) (x : Int) (hl : l.length ≤ 1000000) (hs : l.Pairwise (· ≤ ·)) : Spec1 Tryz.prog 96 [i64 x, .cptr [.sl 1 false (intsHV l)]] (bo (decide (x ∈ l))) := by
  refine Spec1.of_HT Tryz.func96 rfl (by rw [Tryz.ntmps96]; simp) rfl ?_
  rw [Tryz.ntmps96]
  refine HT.seq ?_
  refine HT.region ?_   -- R0
  simp (disch := first | omega | (simp <;> omega) | fail) [wrap_i64, wrap_u64, wrap_u8']
  refine HT.seq ?_
  refine HT.region ?_   -- R1
  simp (disch := first | omega | (simp <;> omega) | fail) [wrap_i64, wrap_u64, wrap_u8']
  refine stepK.mk (.callT _ _ _ _ rfl Ty.hb97 rfl (BinarySearch_spec false l x hl hs) rfl rfl) ?_
  simp (disch := first | omega | (simp <;> omega) | fail) [wrap_i64, wrap_u64, wrap_u8']
  refine HT.seq ?_
  refine HT.region ?_   -- R2
  simp (disch := first | omega | (simp <;> omega) | fail) [wrap_i64, wrap_u64, wrap_u8']
  refine HT.ret ?_
  simp (disch := first | omega | (simp <;> omega) | fail) [wrap_i64, wrap_u64, wrap_u8']
theorem Cand2_spec (x : Int) : Spec1 Tryz.prog 99 [i64 x] (bo (decide (x < 0))) := by
  refine Spec1.of_HT Tryz.func99 rfl (by rw [Tryz.ntmps99]; simp) rfl ?_
  rw [Tryz.ntmps99]
  refine HT.seq ?_
  refine HT.region ?_   -- R0
  simp (disch := first | omega | (simp <;> omega) | fail) [wrap_i64, wrap_u64, wrap_u8']
  refine HT.seq ?_
  refine HT.region ?_   -- R1
  simp (disch := first | omega | (simp <;> omega) | fail) [wrap_i64, wrap_u64, wrap_u8']
  refine HT.ret ?_
  simp (disch := first | omega | (simp <;> omega) | fail) [wrap_i64, wrap_u64, wrap_u8']
theorem Cand3_spec (l : List Int) (x : Int) (k : Nat) (hl : l.length ≤ 1000000) (hs : l.Pairwise (· ≤ ·)) (hk : k ≤ 1000000) (hx : -9223372036854775808 ≤ x ∧ x < 9223372036854775808) : Spec1 Tryz.prog 100 [i64 x, .cptr [i64 k], .cptr [.fn (.func 96) [.cptr [.sl 1 false (intsHV l)]]]] (bo (!decide (x + k ∈ l ∧ x ≤ 9223372036854775807 - k))) := by
  refine Spec1.of_HT Tryz.func100 rfl (by rw [Tryz.ntmps100]; simp) rfl ?_
  rw [Tryz.ntmps100]
  refine HT.seq ?_
  refine HT.region ?_   -- R0
  simp (disch := first | omega | (simp <;> omega) | fail) [wrap_i64, wrap_u64, wrap_u8']
  refine HT.seq ?_
  by_cases c : x > 9223372036854775807 - k
  · skip
    refine HT.region ?_   -- R1
    simp (disch := first | omega | (simp <;> omega) | fail) [wrap_i64, wrap_u64, wrap_u8', c]
    refine HT.ret ?_
    simp (disch := first | omega | (simp <;> omega) | fail) [wrap_i64, wrap_u64, wrap_u8']
  refine HT.region ?_   -- R1
  simp (disch := first | omega | (simp <;> omega) | fail) [wrap_i64, wrap_u64, wrap_u8', c]
  refine stepK.mk (.call1 _ _ _ _ rfl Ty.hb96 rfl (Cand11_spec l (x + k) hl hs) rfl rfl) ?_
  simp (disch := first | omega | (simp <;> omega) | fail) [wrap_i64, wrap_u64, wrap_u8', c]
  refine HT.ret ?_
  simp (disch := first | omega | (simp <;> omega) | fail) [wrap_i64, wrap_u64, wrap_u8']
@[simp] def candFn (l : List Int) : HV := .fn (.func 96) [.cptr [.sl 1 false (intsHV l)]]
theorem Cand1_spec (f : Bool) (l : List Gram) (s : List UInt8) (i : Nat) (hl : GB l) (hs : s.length ≤ 900000) (hi : i + 2 < s.length) : Spec1 Tryz.prog 94 [i64 i, .cptr [.str s], .cptr [.sl 2 f (gramsHV l)]] (.fn (.func 96) [.cptr [.sl 1 false (intsHV (srt (atV l (codeAt s i))))]]) := by
  have hcu := codeV_cut (s := s) (k := i) (by omega)
  have hcu3 := cut3_length (s := s) (k := i) (by omega)
  have hat := atV_GB hl (codeAt s i)
  refine Spec1.of_HT Tryz.func94 rfl (by rw [Tryz.ntmps94]; simp) rfl ?_
  rw [Tryz.ntmps94]
  refine HT.seq ?_
  refine HT.region ?_   -- R0
  simp (disch := first | omega | (simp <;> omega) | fail) [wrap_i64, wrap_u64, wrap_u8']
  refine HT.seq ?_
  refine HT.region ?_   -- R1
  simp (disch := first | omega | (simp <;> omega) | fail) [wrap_i64, wrap_u64, wrap_u8', hcu, hcu3]
  refine stepK.mk (.callT _ _ _ _ rfl Ty.hb91 rfl (Code_spec (List.drop i (List.take (i + 3) s)) (by simp; omega)) rfl rfl) ?_
  simp (disch := first | omega | (simp <;> omega) | fail) [wrap_i64, wrap_u64, wrap_u8', hcu, hcu3]
  refine HT.seq ?_
  refine HT.region ?_   -- R2
  simp (disch := first | omega | (simp <;> omega) | fail) [wrap_i64, wrap_u64, wrap_u8']
  refine stepK.mk (.call1f _ _ _ _ _ rfl Ty.hb95 rfl rfl (At_spec f l (codeAt s i) hl.1) rfl) ?_
  simp (disch := first | omega | (simp <;> omega) | fail) [wrap_i64, wrap_u64, wrap_u8']
  refine stepK.mk (.callO _ _ _ _ _ _ _ _ rfl Ty.hb58 rfl rfl (Clone_spec false (atV l (codeAt s i)) (by omega)) rfl rfl) ?_
  simp (disch := first | omega | (simp <;> omega) | fail) [wrap_i64, wrap_u64, wrap_u8']
  refine HT.seq ?_
  refine HT.region ?_   -- R3
  simp (disch := first | omega | (simp <;> omega) | fail) [wrap_i64, wrap_u64, wrap_u8']
  refine stepK.mk (.callS _ _ _ _ _ _ _ rfl Ty.hb92 (by simp) (by simp) (by first | rfl | simp) (Sort_spec (atV l (codeAt s i)) (by omega)) rfl) ?_
  simp (disch := first | omega | (simp <;> omega) | fail) [wrap_i64, wrap_u64, wrap_u8']
  refine HT.weaken (HS.le_frzref (id := 20) (xr := .sl 1 false (intsHV (srt (atV l (codeAt s i))))) (xm := .any) (by simp [srt])) ?_
  refine HT.weaken (HS.le_frzbox 7 7 (by decide) rfl rfl (by simp [isIL, isI])) ?_
  refine HT.seq ?_
  refine HT.region ?_   -- R4
  simp (disch := first | omega | (simp <;> omega) | fail) [wrap_i64, wrap_u64, wrap_u8']
  refine HT.ret ?_
  simp (disch := first | omega | (simp <;> omega) | fail) [wrap_i64, wrap_u64, wrap_u8']
def r0V (l : List Gram) (s : List UInt8) : List Int := (Lib.compact (srt (atV l (codeAt s 0)))).filter fun x => !decide (x < 0)
def offP (l : List Gram) (s : List UInt8) (i : Nat) (x : Int) : Bool := !decide (x + i ∈ srt (atV l (codeAt s i)) ∧ x ≤ 9223372036854775807 - i)
def candK (l : List Gram) (s : List UInt8) : Nat → List Int
  | 0 => r0V l s
  | k + 1 => (candK l s k).filter fun x => !offP l s (k + 1) x
theorem candK_mem (l : List Gram) (s : List UInt8) : ∀ (k : Nat) (x : Int), x ∈ candK l s k ↔ (x ∈ atV l (codeAt s 0) ∧ 0 ≤ x) ∧ ∀ i, 1 ≤ i → i ≤ k → x + i ∈ atV l (codeAt s i) ∧ x ≤ 9223372036854775807 - i
  | 0, x => by
    unfold candK r0V
    have hc : ∀ y, y ∈ Lib.compact (srt (atV l (codeAt s 0))) ↔ y ∈ atV l (codeAt s 0) := (compact_sort _).2
    rw [List.mem_filter, hc]
    simp only [Bool.not_eq_true', decide_eq_false_iff_not, Int.not_lt]
    constructor
    · intro h; exact ⟨h, fun i h1 h2 => by omega⟩
    · intro h; exact h.1
  | k + 1, x => by
    unfold candK
    rw [List.mem_filter, candK_mem l s k]
    unfold offP
    simp only [Bool.not_not, decide_eq_true_eq, srt_mem]
    constructor
    · rintro ⟨⟨h1, h2⟩, h3⟩
      refine ⟨h1, fun i a b => ?_⟩
      by_cases e : i = k + 1
      · subst e; exact h3
      · exact h2 i a (by omega)
    · rintro ⟨h1, h2⟩
      exact ⟨⟨h1, fun i a b => h2 i a (by omega)⟩, h2 (k + 1) (by omega) (Nat.le_refl _)⟩
theorem candK_inc (l : List Gram) (s : List UInt8) : ∀ k, Inc (candK l s k)
  | 0 => (compact_sort _).1.sublist List.filter_sublist
  | k + 1 => (candK_inc l s k).sublist List.filter_sublist
theorem candK_len (l : List Gram) (s : List UInt8) : ∀ k, (candK l s k).length ≤ (atV l (codeAt s 0)).length
  | 0 => by
    have h1 := List.length_filter_le (fun x => !decide (x < 0)) (Lib.compact (srt (atV l (codeAt s 0))))
    have h2 := Lib.compact_length_le (srt (atV l (codeAt s 0)))
    have h3 := srt_length (atV l (codeAt s 0))
    unfold candK r0V; omega
  | k + 1 => by
    have h1 := List.length_filter_le (fun x => !offP l s (k + 1) x) (candK l s k)
    have h2 := candK_len l s k
    unfold candK; omega
theorem ins_foldl_mem (r : List Int) : ∀ (a : List Int) (x : Int), x ∈ r.foldl ins a ↔ x ∈ a ∨ x ∈ r := by
  induction r with
  | nil => intro a x; simp
  | cons y r ih => intro a x; rw [List.foldl_cons, ih, ins_mem]; simp [or_assoc, or_comm, or_left_comm]
theorem candJ_iff (l : List Gram) (s : List UInt8) (x : Int) (j : Nat) : candJ l s x j = true ↔ 0 ≤ x ∧ ∀ i, i < j → x + i ∈ atV l (codeAt s i) := by
  unfold candJ folV folB
  simp only [Bool.and_eq_true, decide_eq_true_eq, List.all_eq_true, List.mem_range, List.any_eq_true]
  constructor
  · rintro ⟨h0, h⟩
    refine ⟨h0, fun i hi => ?_⟩
    obtain ⟨y, hy, h1, h2⟩ := h i hi
    have : x + i = y := by omega
    rw [this]; exact hy
  · rintro ⟨h0, h⟩
    exact ⟨h0, fun i hi => ⟨x + i, h i hi, by omega, by omega⟩⟩
theorem cand_eq {l : List Gram} {s : List UInt8} (hl : GB l) (h : ¬ s.length < 3) : candK l s (s.length - 3) = candV l s := by
  unfold candV
  rw [if_neg h]
  refine inc_unique (candK_inc l s _) (candI_inc l s _) fun x => ?_
  rw [candK_mem]
  unfold candI
  rw [ins_foldl_mem, List.take_length, List.mem_filter, candJ_iff]
  constructor
  · rintro ⟨⟨h1, h2⟩, h3⟩
    refine .inr ⟨h1, h2, fun i hi => ?_⟩
    by_cases e : i = 0
    · subst e; simpa using h1
    · exact (h3 i (by omega) (by omega)).1
  · rintro (h1 | ⟨h1, h2, h3⟩)
    · cases h1
    · refine ⟨⟨h1, h2⟩, fun i a b => ?_⟩
      have hm := h3 i (by omega)
      have := ((atV_GB hl (codeAt s i)).2 _ hm).2
      exact ⟨hm, by omega⟩
theorem take_drop0 (s : List UInt8) (h : 3 ≤ s.length) : (List.take 3 s).length = 3 ∧ codeV (List.take 3 s) = codeAt s 0 := by
  have h1 := cut3_length (s := s) (k := 0) (by omega)
  have h2 := codeV_cut (s := s) (k := 0) (by omega)
  simp only [List.drop_zero, Nat.zero_add] at h1 h2
  exact ⟨h1, h2⟩
set_option maxHeartbeats 4000000 in
set_option maxRecDepth 20000 in
theorem Cand_spec (f : Bool) (l : List Gram) (s : List UInt8) (hl : GB l) (hs : s.length ≤ 900000) : SpecT Tryz.prog 61 [.sl 2 f (gramsHV l), .str s] [.sl 1 false (intsHV (candV l s)), bo (decide (¬ s.length < 3))] := by
  have hfirst := atV_GB hl (codeAt s 0)
  have hcl := candK_len l s
  have hc1 : ∀ x : List Int, (Lib.compact x).length ≤ x.length := Lib.compact_length_le
  have hsl := srt_length (atV l (codeAt s 0))
  refine SpecT.of_HT Tryz.func61 rfl (by rw [Tryz.ntmps61]; simp) (rs := [.tmp 4, .tmp 5]) rfl (by decide) ?_
  rw [Tryz.ntmps61]
  refine HT.seq ?_
  refine HT.region ?_   -- R0
  simp (disch := first | omega | (simp <;> omega) | fail) [wrap_i64, wrap_u64, wrap_u8']
  refine HT.weaken (HS.le_frzbox 2 2 (by decide) rfl rfl (by simp [isIL, isI])) ?_
  simp
  refine HT.weaken (HS.le_frzbox 3 3 (by decide) rfl rfl (by simp [isIL, isI])) ?_
  simp
  refine HT.seq ?_
  refine HT.seq ?_
  by_cases c0 : s.length < 3
  · skip
    refine HT.region ?_   -- R1
    simp (disch := first | omega | (simp <;> omega) | fail) [wrap_i64, wrap_u64, wrap_u8']
    refine HT.cond' ?_   -- if 14
    simp (disch := first | omega | (simp <;> omega) | fail) [wrap_i64, wrap_u64, wrap_u8']
    refine HT.seq ?_
    refine HT.region ?_   -- R2
    simp (disch := first | omega | (simp <;> omega) | fail) [wrap_i64, wrap_u64, wrap_u8']
    refine HT.weaken (HS.le_wk 4 (.sl 1 false []) (by decide) rfl rfl (HLe.nilf 0 1 true)) ?_
    refine HT.ret ?_
    simp (disch := first | omega | (simp <;> omega) | fail) [wrap_i64, wrap_u64, wrap_u8', candV, c0]
  have ht3 := take_drop0 s (by omega)
  refine HT.region ?_   -- R1
  simp (disch := first | omega | (simp <;> omega) | fail) [wrap_i64, wrap_u64, wrap_u8']
  refine HT.cond' ?_   -- if 14
  simp (disch := first | omega | (simp <;> omega) | fail) [wrap_i64, wrap_u64, wrap_u8']
  refine HT.skip ?_
  simp (disch := first | omega | (simp <;> omega) | fail) [wrap_i64, wrap_u64, wrap_u8']
  refine HT.seq ?_
  refine HT.region ?_   -- R3
  simp (disch := first | omega | (simp <;> omega) | fail) [wrap_i64, wrap_u64, wrap_u8']
  refine HT.seq ?_
  refine HT.region ?_   -- R4
  simp (disch := first | omega | (simp <;> omega) | fail) [wrap_i64, wrap_u64, wrap_u8', ht3.1, ht3.2]
  refine stepK.mk (.callT _ _ _ _ rfl Ty.hb91 rfl (Code_spec (List.take 3 s) (by simp; omega)) rfl rfl) ?_
  simp (disch := first | omega | (simp <;> omega) | fail) [wrap_i64, wrap_u64, wrap_u8', ht3.1, ht3.2]
  refine HT.seq ?_
  refine HT.region ?_   -- R5
  simp (disch := first | omega | (simp <;> omega) | fail) [wrap_i64, wrap_u64, wrap_u8']
  refine stepK.mk (.call1f _ _ _ _ _ rfl Ty.hb95 rfl rfl (At_spec f l (codeAt s 0) hl.1) rfl) ?_
  simp (disch := first | omega | (simp <;> omega) | fail) [wrap_i64, wrap_u64, wrap_u8']
  refine stepK.mk (.callO _ _ _ _ _ _ _ _ rfl Ty.hb58 rfl rfl (Clone_spec false (atV l (codeAt s 0)) (by omega)) rfl rfl) ?_
  simp (disch := first | omega | (simp <;> omega) | fail) [wrap_i64, wrap_u64, wrap_u8']
  refine HT.seq ?_
  refine HT.region ?_   -- R6
  simp (disch := first | omega | (simp <;> omega) | fail) [wrap_i64, wrap_u64, wrap_u8']
  refine stepK.mk (.callS _ _ _ _ _ _ _ rfl Ty.hb92 (by first | rfl | simp) (by simp) (by first | rfl | simp) (Sort_spec (atV l (codeAt s 0)) (by omega)) rfl) ?_
  simp (disch := first | omega | (simp <;> omega) | fail) [wrap_i64, wrap_u64, wrap_u8']
  refine HT.seq ?_
  refine HT.region ?_   -- R7
  simp (disch := first | omega | (simp <;> omega) | fail) [wrap_i64, wrap_u64, wrap_u8']
  refine stepK.mk (.callR _ _ _ _ _ _ _ rfl Ty.hb93 (by first | rfl | simp) (by simp) (by first | rfl | simp) (Compact_spec (srt (atV l (codeAt s 0))) (by omega) (hc1 _)) rfl) ?_
  simp (disch := first | omega | (simp <;> omega) | fail) [wrap_i64, wrap_u64, wrap_u8']
  refine stepK.mk (.callR _ _ _ _ _ _ _ rfl Ty.hb98 (by first | rfl | simp) (by simp) (by first | rfl | simp) (DeleteFunc_spec 99 Ty.hb99 [] rfl (fun x => decide (x < 0)) (Lib.compact (srt (atV l (codeAt s 0)))) (by have := hc1 (srt (atV l (codeAt s 0))); omega) (fun x _ => Cand2_spec x)) rfl) ?_
  simp (disch := first | omega | (simp <;> omega) | fail) [wrap_i64, wrap_u64, wrap_u8']
  refine HT.seq ?_
  refine HT.seq ?_
  refine HT.region ?_   -- R8
  simp (disch := first | omega | (simp <;> omega) | fail) [wrap_i64, wrap_u64, wrap_u8']
  refine HT.block ?_
  refine HT.loopK (fun k : {k : Nat // k ≤ s.length - 3} => [.s 9 (.ref 25), .o 25 (.row 3 1 (intsHV (candK l s k))), .s 10 (.ptr 10 0), .o 10 (.box [i64 (k + 1)])]) [3, 6] [3] (fun k => s.length - k) (⟨0, by omega⟩) ?_ ?_   -- block 0 turned [9, 10]
  · simp (disch := first | omega | (simp <;> omega) | fail) [wrap_i64, wrap_u64, wrap_u8', candK, r0V]
  rintro ⟨k, hk⟩
  simp (disch := first | omega | (simp <;> omega) | fail) [wrap_i64, wrap_u64, wrap_u8']
  refine HT.seq ?_
  refine HT.seq ?_
  refine HT.region ?_   -- R9
  simp (disch := first | omega | (simp <;> omega) | fail) [wrap_i64, wrap_u64, wrap_u8']
  refine HT.cond' ?_   -- if 35
  simp (disch := first | omega | (simp <;> omega) | fail) [wrap_i64, wrap_u64, wrap_u8']
  refine ⟨fun h35 => ?_, fun h35 => ?_⟩
  · skip
    have hk' : k + 4 ≤ s.length := by omega
    have hat := atV_GB hl (codeAt s (k + 1))
    have hlk := hcl k
    have hsk := srt_length (atV l (codeAt s (k + 1)))
    refine HT.skip ?_
    simp (disch := first | omega | (simp <;> omega) | fail) [wrap_i64, wrap_u64, wrap_u8']
    refine HT.seq ?_
    refine HT.block ?_
    refine HT.seq ?_
    refine HT.region ?_   -- R11
    simp (disch := first | omega | (simp <;> omega) | fail) [wrap_i64, wrap_u64, wrap_u8']
    refine stepK.mk (.call1f _ _ _ _ _ rfl Ty.hb94 rfl rfl (Cand1_spec f l s (k + 1) hl hs (by omega)) rfl) ?_
    simp (disch := first | omega | (simp <;> omega) | fail) [wrap_i64, wrap_u64, wrap_u8']
    refine HT.weaken (HS.le_frzbox 10 10 (by show (10 : Nat) < 46; decide) rfl rfl (by simp [isIL, isI])) ?_
    simp
    refine HT.weaken (HS.le_frzbox 11 11 (by show (11 : Nat) < 46; decide) rfl rfl (by simp [isIL, isI])) ?_
    simp
    refine HT.region ?_   -- R12
    simp (disch := first | omega | (simp <;> omega) | fail) [wrap_i64, wrap_u64, wrap_u8']
    refine stepK.mk (.callR _ _ _ _ _ _ _ rfl Ty.hb98 (by first | rfl | simp) (by simp) (by first | rfl | simp) (DeleteFunc_spec 100 Ty.hb100 [.cptr [i64 (k + 1)], .cptr [candFn (srt (atV l (codeAt s (k + 1))))]] (by simp [isIL, isI]) (offP l s (k + 1)) (candK l s k) (by omega) (fun x hx => Cand3_spec _ x (k + 1) (by omega) (srt_sorted _) (by omega) (hfirst.2 x ((candK_mem l s k x).1 hx).1.1))) rfl) ?_
    simp (disch := first | omega | (simp <;> omega) | fail) [wrap_i64, wrap_u64, wrap_u8']
    refine HT.seq ?_
    refine HT.seq ?_
    refine HT.region ?_   -- R13
    simp (disch := first | omega | (simp <;> omega) | fail) [wrap_i64, wrap_u64, wrap_u8']
    refine HT.region ?_   -- R14
    simp (disch := first | omega | (simp <;> omega) | fail) [wrap_i64, wrap_u64, wrap_u8']
    refine HT.region ?_   -- R10
    simp (disch := first | omega | (simp <;> omega) | fail) [wrap_i64, wrap_u64, wrap_u8']
    refine Round.mk' (⟨k + 1, by omega⟩) (by dsimp only; omega) rfl ?_
    simp (disch := first | omega | (simp <;> omega) | fail) [wrap_i64, wrap_u64, wrap_u8', candK, offP]
  · skip
    obtain rfl : k = s.length - 3 := by omega
    refine HT.exit ?_
    simp (disch := first | omega | (simp <;> omega) | fail) [wrap_i64, wrap_u64, wrap_u8']
    refine HT.seq ?_
    refine HT.region ?_   -- R15
    simp (disch := first | omega | (simp <;> omega) | fail) [wrap_i64, wrap_u64, wrap_u8']
    refine HT.ret ?_
    simp (disch := first | omega | (simp <;> omega) | fail) [wrap_i64, wrap_u64, wrap_u8', cand_eq hl c0, c0]
end Go.Hv
set_option linter.unusedVariables false
set_option linter.unusedSectionVars false
set_option linter.unusedSimpArgs false
/- Conditions: trees of a kind, a number and parts. -/
namespace Go.Hv
open Go Go.RowKit
variable [GI]
inductive NeedT where
  | mk (kind gram : Int) (subs : List NeedT)
def NeedT.kind : NeedT → Int | .mk k _ _ => k
def NeedT.gram : NeedT → Int | .mk _ g _ => g
def NeedT.subs : NeedT → List NeedT | .mk _ _ s => s
mutual
def NeedT.enc (n : NeedT) : List HV :=
  match n with
  | .mk k g s => [i64 k, i64 g, .sl 3 false (needsHV s)]
  termination_by structural n
def needsHV (l : List NeedT) : List (List HV) :=
  match l with
  | [] => []
  | x :: r => x.enc :: needsHV r
  termination_by structural l
end
theorem needsHV_map (l : List NeedT) : needsHV l = l.map NeedT.enc := by
  induction l with
  | nil => rfl
  | cons x r ih => rw [needsHV, ih]; rfl
@[simp] theorem needsHV_length (l : List NeedT) : (needsHV l).length = l.length := by rw [needsHV_map]; simp
theorem NeedT.enc_eq (n : NeedT) : n.enc = [i64 n.kind, i64 n.gram, .sl 3 false (needsHV n.subs)] := by cases n; rw [NeedT.enc]; rfl
@[simp] theorem needsHV_getElem (l : List NeedT) (k : Nat) (h : k < (needsHV l).length) : (needsHV l)[k] = (l[k]'(by simpa using h)).enc := by simp [needsHV_map]
mutual
theorem isIL_need (n : NeedT) : isIL n.enc = true := by
  match n with
  | .mk k g s => rw [NeedT.enc]; simp [isIL, isI, isILL_needs s]
theorem isILL_needs (l : List NeedT) : isILL (needsHV l) = true := by
  match l with
  | [] => rfl
  | x :: r =>
    rw [needsHV, isILL_iff]
    have h := isILL_iff.1 (isILL_needs r)
    intro y hy
    rcases List.mem_cons.1 hy with rfl | hy
    · exact isIL_need x
    · exact h y hy
end
attribute [simp] isIL_need isILL_needs
inductive NeedB (B : Nat) : NeedT → Prop
  | mk (k g : Int) (s : List NeedT) (hl : s.length ≤ B) (h : ∀ x ∈ s, NeedB B x) : NeedB B (.mk k g s)
theorem NeedB.len {B : Nat} {n : NeedT} (h : NeedB B n) : n.subs.length ≤ B := by cases h with | mk k g s hl h => exact hl
theorem NeedB.sub {B : Nat} {n x : NeedT} (h : NeedB B n) (hx : x ∈ n.subs) : NeedB B x := by cases h with | mk k g s hl h => exact h x hx
/-! ### Conditions that are handed in -/
variable {H : Type} {enc : TypeId × Value → H} {P : Program} {w : World} {sp : Nat → Bool} {held : Bool} {B : Nat}
end Go.Hv
set_option linter.unusedVariables false
set_option linter.unusedSectionVars false
set_option linter.unusedSimpArgs false
/- Conditions, in plain words: whether one is valid, whether it holds, its nodes. -/
namespace Go.Hv
open Go
mutual
theorem needInd {p : NeedT → Prop} (h : ∀ k g s, (∀ x ∈ s, p x) → p (.mk k g s)) (n : NeedT) : p n := by
  match n with
  | .mk k g s => exact h k g s (needIndL h s)
theorem needIndL {p : NeedT → Prop} (h : ∀ k g s, (∀ x ∈ s, p x) → p (.mk k g s)) (l : List NeedT) : ∀ x ∈ l, p x := by
  match l with
  | [] => intro x hx; simp at hx
  | y :: r =>
    intro x hx
    rcases List.mem_cons.1 hx with e | hx
    · rw [e]; exact needInd h y
    · exact needIndL h r x hx
end
mutual
def validN (n : NeedT) (lv : Int) : Bool :=
  match n with
  | .mk k g s => decide (lv ≤ 40) && (if k = 1 ∨ k = 2 then decide (g = 0 ∧ s.length = 0) else if k = 3 then decide (0 ≤ g ∧ g < 16777216 ∧ s.length = 0) else if k = 4 ∨ k = 5 then decide (g = 0 ∧ 2 ≤ s.length) && validsN s (lv + 1) else false)
  termination_by structural n
def validsN (l : List NeedT) (lv : Int) : Bool :=
  match l with
  | [] => true
  | x :: r => validN x lv && validsN r lv
  termination_by structural l
end
theorem validsN_iff (l : List NeedT) (lv : Int) : validsN l lv = true ↔ ∀ x ∈ l, validN x lv = true := by
  induction l with
  | nil => simp [validsN]
  | cons x r ih => rw [validsN, Bool.and_eq_true, ih]; simp
theorem validsN_take {l : List NeedT} {lv : Int} {i : Nat} (hi : i < l.length) : validsN (l.take (i + 1)) lv = (validsN (l.take i) lv && validN l[i] lv) := by
  have h : ∀ a b : List NeedT, validsN (a ++ b) lv = (validsN a lv && validsN b lv) := by
    intro a b
    induction a with
    | nil => simp [validsN]
    | cons x a ih => rw [List.cons_append, validsN, validsN, ih, Bool.and_assoc]
  rw [List.take_succ_eq_append_getElem hi, h, validsN, validsN, Bool.and_true]
mutual
def holdsN (n : NeedT) (codes : List Int) : Bool :=
  match n with
  | .mk k g s => if k = 1 then true else if k = 2 then false else if k = 3 then decide (g ∈ codes) else holdL (decide (k = 5)) (decide (k = 4)) s codes
  termination_by structural n
def holdL (o d : Bool) (l : List NeedT) (codes : List Int) : Bool :=
  match l with
  | [] => d
  | x :: r => if holdsN x codes = o then o else holdL o d r codes
  termination_by structural l
end
theorem holdL_none {o d : Bool} {codes : List Int} : ∀ {l : List NeedT}, (∀ x ∈ l, holdsN x codes ≠ o) → holdL o d l codes = d
  | [], _ => by rw [holdL]
  | x :: r, h => by rw [holdL, if_neg (h x (by simp))]; exact holdL_none fun y hy => h y (by simp [hy])
theorem holdL_some {o d : Bool} {codes : List Int} : ∀ {l : List NeedT} {x : NeedT}, x ∈ l → holdsN x codes = o → holdL o d l codes = o
  | y :: r, x, hx, h => by
    rw [holdL]
    split
    · rfl
    · next hy =>
      rcases List.mem_cons.1 hx with e | hx
      · rw [← e] at hy; exact absurd h hy
      · exact holdL_some hx h
def Undec (o : Bool) (codes : List Int) (l : List NeedT) (i : Nat) : Prop := ∀ x ∈ l.take i, holdsN x codes ≠ o
theorem Undec.zero (o : Bool) (codes : List Int) (l : List NeedT) : Undec o codes l 0 := by simp [Undec]
theorem Undec.succ {o : Bool} {codes : List Int} {l : List NeedT} {i : Nat} (h : Undec o codes l i) (hi : i < l.length) (hx : holdsN l[i] codes ≠ o) : Undec o codes l (i + 1) := by
  unfold Undec at h ⊢
  rw [List.take_succ_eq_append_getElem hi]
  intro x hm
  rcases List.mem_append.1 hm with hm | hm
  · exact h x hm
  · rw [List.mem_singleton.1 hm]; exact hx
mutual
def nodesN (n : NeedT) (lim : Int) : Int :=
  match n with
  | .mk _ _ s => nodesL s 1 lim
  termination_by structural n
def nodesL (l : List NeedT) (k lim : Int) : Int :=
  match l with
  | [] => k
  | x :: r => if k ≤ lim then nodesL r (k + nodesN x (lim - k)) lim else k
  termination_by structural l
end
mutual
theorem nodesN_le (n : NeedT) (lim : Int) : 1 ≤ nodesN n lim ∧ (nodesN n lim ≤ 1 ∨ nodesN n lim ≤ lim + 1) := by
  match n with
  | .mk k g s =>
    rw [nodesN]
    have := nodesL_le s 1 lim (by omega)
    omega
theorem nodesL_le (l : List NeedT) (k lim : Int) (hk : 1 ≤ k) : k ≤ nodesL l k lim ∧ (nodesL l k lim ≤ k ∨ nodesL l k lim ≤ lim + 1) := by
  match l with
  | [] => rw [nodesL]; omega
  | x :: r =>
    rw [nodesL]
    split
    · have h1 := nodesN_le x (lim - k)
      have h2 := nodesL_le r (k + nodesN x (lim - k)) lim (by omega)
      omega
    · omega
end
end Go.Hv
set_option linter.unusedVariables false
set_option linter.unusedSimpArgs false
/- The codes of each document, gathered out of a segment's postings (layer 29, Eval). -/
namespace Go.Hv
def fI (p : List (Int × Int)) : List Int := p.foldl (fun a x => adK a x.1) []
def gatI (p : List (Int × Int)) (c : Int) : List Int := (p.filter fun x => decide (x.1 = c)).map Prod.snd
theorem fI_snoc (p : List (Int × Int)) (c g : Int) : fI (p ++ [(c, g)]) = adK (fI p) c := by simp [fI]
theorem gatI_snoc (p : List (Int × Int)) (c g c' : Int) : gatI (p ++ [(c, g)]) c' = gatI p c' ++ (if c = c' then [g] else []) := by
  unfold gatI
  rw [List.filter_append, List.map_append]
  congr 1
  by_cases h : c = c' <;> simp [h]
theorem fI_mem (p : List (Int × Int)) (c : Int) : c ∈ fI p ↔ ∃ x ∈ p, x.1 = c := by
  have : ∀ (p : List (Int × Int)) (a : List Int), c ∈ p.foldl (fun a x => adK a x.1) a ↔ c ∈ a ∨ ∃ x ∈ p, x.1 = c := by
    intro p
    induction p with
    | nil => simp
    | cons x p ih =>
      intro a
      rw [List.foldl_cons, ih, adK_mem]
      simp [or_assoc, eq_comm]
  unfold fI; rw [this]; simp
theorem fI_nodup (p : List (Int × Int)) : (fI p).Nodup := by
  have : ∀ (p : List (Int × Int)) (a : List Int), a.Nodup → (p.foldl (fun a x => adK a x.1) a).Nodup := by
    intro p
    induction p with
    | nil => exact fun a h => h
    | cons x p ih => exact fun a h => ih _ (adK_nodup h _)
  exact this p [] (by simp)
theorem fI_length (p : List (Int × Int)) : (fI p).length ≤ p.length := by
  have : ∀ (p : List (Int × Int)) (a : List Int), (p.foldl (fun a x => adK a x.1) a).length ≤ a.length + p.length := by
    intro p
    induction p with
    | nil => exact fun a => Nat.le_refl _
    | cons x p ih =>
      intro a
      rw [List.foldl_cons]
      refine Nat.le_trans (ih _) ?_
      have : (adK a x.1).length ≤ a.length + 1 := by unfold adK; split <;> simp
      simp; omega
  have := this p []
  simpa [fI] using this
theorem gatI_length (p : List (Int × Int)) (c : Int) : (gatI p c).length ≤ p.length := by
  unfold gatI; rw [List.length_map]; exact List.length_filter_le _ _
theorem gatI_none {p : List (Int × Int)} {c : Int} (h : c ∉ fI p) : gatI p c = [] := by
  unfold gatI
  rw [List.filter_eq_nil_iff.2 (fun x hx => by
    intro h2
    exact h ((fI_mem p c).2 ⟨x, hx, of_decide_eq_true h2⟩))]
  rfl
theorem gatI_append (a b : List (Int × Int)) (c : Int) : gatI (a ++ b) c = gatI a c ++ gatI b c := by simp [gatI]
def evP (p : Post) : List (Int × Int) := p.docs.map fun x => (x.code, p.code)
def evQ (g : List Post) : List (Int × Int) := g.flatMap evP
def pJ (g : List Post) (p : Post) (k j : Nat) : List (Int × Int) := evQ (g.take k) ++ (evP p).take j
theorem pJ_zero (g : List Post) (p : Post) (k : Nat) : pJ g p k 0 = evQ (g.take k) := by simp [pJ]
theorem pJ_succ (g : List Post) (p : Post) (k : Nat) {j : Nat} (h : j < p.docs.length) : pJ g p k (j + 1) = pJ g p k j ++ [(p.docs[j].code, p.code)] := by
  have h' : j < (evP p).length := by simpa [evP] using h
  unfold pJ
  rw [List.append_assoc, List.take_succ_eq_append_getElem h']
  simp [evP]
theorem pJ_end (g : List Post) {k : Nat} (h : k < g.length) : pJ g g[k] k g[k].docs.length = evQ (g.take (k + 1)) := by
  unfold pJ
  rw [List.take_of_length_le (l := evP g[k]) (by simp [evP])]
  rw [List.take_succ_eq_append_getElem (i := k) h]
  unfold evQ
  rw [List.flatMap_append, List.flatMap_cons, List.flatMap_nil, List.append_nil]
theorem evQ_length {g : List Post} {m : Nat} (h : ∀ p ∈ g, p.docs.length ≤ m) : (evQ g).length ≤ g.length * m := by
  induction g with
  | nil => simp [evQ]
  | cons p g ih =>
    have := ih fun x hx => h x (by simp [hx])
    have hp := h p (by simp)
    unfold evQ at this ⊢
    rw [List.flatMap_cons, List.length_append, List.length_cons, Nat.succ_mul]
    have : (evP p).length = p.docs.length := by simp [evP]
    omega
theorem filter_post {l : List Doc} (hl : IncBy Doc.id l) (c : Int) {d : Doc} (hd : d ∈ l) : (postV l c).filter (fun x => decide (x.code = d.id)) = if offV d.text c = [] then [] else [⟨d.id, offV d.text c⟩] := by
  unfold postV
  induction l with
  | nil => simp at hd
  | cons x l ih =>
    have hl' := hl
    unfold IncBy at hl'
    rw [List.pairwise_cons] at hl'
    rw [List.map_cons]
    rcases List.mem_cons.1 hd with rfl | hd'
    · have hrest : (((l.map fun d => (⟨d.id, offV d.text c⟩ : Gram)).filter fun g => decide (g.off ≠ [])).filter fun x => decide (x.code = d.id)) = [] := by
        rw [List.filter_eq_nil_iff]
        intro g hg
        obtain ⟨y, hy, rfl⟩ := List.mem_map.1 (List.mem_filter.1 hg).1
        have := hl'.1 y hy
        simp; omega
      by_cases h : offV d.text c = []
      · rw [List.filter_cons_of_neg (by simpa using h), if_pos h]; exact hrest
      · rw [List.filter_cons_of_pos (by simpa using h), List.filter_cons_of_pos (by simp), if_neg h, hrest]
    · have hne : x.id ≠ d.id := by have := hl'.1 d hd'; omega
      have ih := ih hl'.2 hd'
      by_cases h : offV x.text c = []
      · rw [List.filter_cons_of_neg (by simpa using h)]; exact ih
      · rw [List.filter_cons_of_pos (by simpa using h), List.filter_cons_of_neg (by simpa using hne)]; exact ih
theorem gatI_evP {l : List Doc} (hl : IncBy Doc.id l) (c : Int) {d : Doc} (hd : d ∈ l) : gatI (evP ⟨c, postV l c⟩) d.id = if offV d.text c = [] then [] else [c] := by
  unfold gatI evP
  rw [List.filter_map, List.map_map]
  have : ((fun x : Int × Int => decide (x.1 = d.id)) ∘ fun x : Gram => (x.code, c)) = fun x => decide (x.code = d.id) := rfl
  show List.map _ (List.filter ((fun x : Int × Int => decide (x.1 = d.id)) ∘ fun x : Gram => (x.code, c)) (postV l c)) = _
  rw [this, filter_post hl c hd]
  split <;> rfl
theorem gatI_evQ {l : List Doc} (hl : IncBy Doc.id l) {d : Doc} (hd : d ∈ l) : gatI (evQ (gramsOf l)) d.id = ofV d.text := by
  have h : ∀ cs : List Int, gatI (evQ (cs.map fun c => (⟨c, postV l c⟩ : Post))) d.id = cs.filter fun c => decide (offV d.text c ≠ []) := by
    intro cs
    induction cs with
    | nil => rfl
    | cons c cs ih =>
      rw [List.map_cons]
      unfold evQ at ih ⊢
      rw [List.flatMap_cons, gatI_append, ih, gatI_evP hl c hd]
      by_cases h : offV d.text c = []
      · rw [if_pos h, List.filter_cons_of_neg (by simpa using h)]; rfl
      · rw [if_neg h, List.filter_cons_of_pos (by simpa using h)]; rfl
  unfold gramsOf
  rw [h]
  apply inc_unique
  · exact (codesV_inc l).sublist List.filter_sublist
  · exact ofK_inc _ _
  · intro c
    rw [List.mem_filter, decide_eq_true_eq, offV_ne]
    constructor
    · exact fun h => h.2
    · exact fun h => ⟨(codesV_mem l c).2 ⟨d, hd, h⟩, h⟩
end Go.Hv
set_option linter.unusedVariables false
set_option linter.unusedSimpArgs false
/- What segments answer: plain words that lean on the walks of locate (layer 29). -/
namespace Go.Hv
open Go Go.Hv Go.Proofs Go.RowKit
open Go.Proofs.YtlbmbnpknobjdaaGreatDoor
theorem findV_mem (s t : List UInt8) (x : Int) : x ∈ findV s t ↔ ∃ i : Nat, i ≤ s.length ∧ occ s t i = true ∧ x = i := by
  rw [← findK_all]
  unfold findK
  simp only [List.mem_map, List.mem_filter, List.mem_range]
  constructor
  · rintro ⟨i, ⟨h1, h2⟩, rfl⟩; exact ⟨i, by omega, h2, rfl⟩
  · rintro ⟨i, h1, h2, rfl⟩; exact ⟨i, ⟨by omega, h2⟩, rfl⟩
theorem offK_mem {s : List UInt8} {m : Nat} {c x : Int} (h : x ∈ offK s m c) : ∃ i : Nat, i < m ∧ codeAt s i = c ∧ x = (i : Int) := by
  unfold offK at h
  obtain ⟨i, hi, rfl⟩ := List.mem_map.1 h
  rw [List.mem_filter] at hi
  exact ⟨i, by simpa using hi.1, by simpa using hi.2, rfl⟩
theorem atV_gramsM (s : List UInt8) (c x : Int) : x ∈ atV (gramsV s) c ↔ ∃ j : Nat, j < s.length - 2 ∧ codeAt s j = c ∧ x = j := by
  unfold atV
  split
  · next g hg =>
    have hm := List.mem_of_find?_eq_some hg
    have hc : g.code = c := by simpa using List.find?_some hg
    obtain ⟨c', hc', rfl⟩ := List.mem_map.1 hm
    dsimp only at hc ⊢
    subst hc
    constructor
    · intro h; exact offK_mem h
    · rintro ⟨j, h1, h2, rfl⟩
      unfold offK
      exact List.mem_map.2 ⟨j, List.mem_filter.2 ⟨List.mem_range.2 h1, by simpa using h2⟩, rfl⟩
  · next hg =>
    constructor
    · intro h; cases h
    · rintro ⟨j, h1, h2, rfl⟩
      rw [List.find?_eq_none] at hg
      have := hg ⟨c, offK s (s.length - 2) c⟩ (List.mem_map.2 ⟨c, (ofV_mem s c).2 ⟨j, h1, h2⟩, rfl⟩)
      simp at this
theorem codeAt_eqq {s t : List UInt8} {i j : Nat} (hi : i + 2 < s.length) (hj : j + 2 < t.length) : codeAt s i = codeAt t j ↔ (foldB s[i] = foldB t[j] ∧ foldB s[i + 1] = foldB t[j + 1] ∧ foldB s[i + 2] = foldB t[j + 2]) := by
  rw [codeAt_eq hi, codeAt_eq hj]
  constructor
  · intro h; exact code3_inj h
  · rintro ⟨h1, h2, h3⟩; rw [h1, h2, h3]
theorem findV_inc (s t : List UInt8) : Inc (findV s t) := by
  unfold findV findK Inc
  rw [List.pairwise_map]
  refine List.Pairwise.sublist List.filter_sublist ?_
  exact List.pairwise_lt_range.imp fun h => by omega
theorem exact_cand {s t : List UInt8} (hs : s.length ≤ 900) (ht : ¬ t.length < 3) : candV (gramsV s) t = findV (foldS s) (foldS t) := by
  have hv : ∀ x : Int, x ∈ candV (gramsV s) t ↔ x ∈ atV (gramsV s) (codeAt t 0) ∧ 0 ≤ x ∧ ∀ i, i < t.length - 2 → x + i ∈ atV (gramsV s) (codeAt t i) := fun x => by
    unfold candV candI
    rw [if_neg ht, ins_foldl_mem, List.take_length, List.mem_filter, candJ_iff]
    simp
  have hinc : Inc (candV (gramsV s) t) := by unfold candV; rw [if_neg ht]; exact candI_inc _ _ _
  refine inc_unique hinc (findV_inc _ _) fun x => ?_
  rw [hv, findV_mem]
  constructor
  · rintro ⟨h1, h2, h3⟩
    obtain ⟨k, hk, _, rfl⟩ := (atV_gramsM s _ x).1 h1
    have hat : ∀ i, i < t.length - 2 → k + i < s.length - 2 ∧ codeAt s (k + i) = codeAt t i := fun i hi => by
      obtain ⟨j, hj, hc, he⟩ := (atV_gramsM s _ _).1 (h3 i hi)
      obtain rfl : j = k + i := by omega
      exact ⟨hj, hc⟩
    have hend := (hat (t.length - 3) (by omega)).1
    refine ⟨k, by simp; omega, ?_, rfl⟩
    rw [occ_iff]
    refine ⟨.inl (by simp; omega), fun j hj => ?_⟩
    have hj' : j < t.length := by simpa using hj
    have e1 : (foldS s)[k + j]? = some (foldB (s[k + j]'(by omega))) := by simp [foldS, List.getElem?_eq_getElem (show k + j < s.length by omega)]
    have e2 : (foldS t)[j]? = some (foldB t[j]) := by simp [foldS, List.getElem?_eq_getElem hj']
    rw [e1, e2]
    congr 1
    by_cases hl : j < t.length - 2
    · have h := (hat j hl)
      exact ((codeAt_eqq (by omega) (by omega)).1 h.2).1
    · have h := (hat (t.length - 3) (by omega))
      have h' := (codeAt_eqq (by omega) (by omega)).1 h.2
      by_cases e : j = t.length - 2
      · have := h'.2.1
        simp only [show k + (t.length - 3) + 1 = k + j by omega, show t.length - 3 + 1 = j by omega] at this
        exact this
      · have := h'.2.2
        simp only [show k + (t.length - 3) + 2 = k + j by omega, show t.length - 3 + 2 = j by omega] at this
        exact this
  · rintro ⟨k, hk, ho, rfl⟩
    rw [occ_iff] at ho
    obtain ⟨h1, h2⟩ := ho
    have hroom : k + t.length ≤ s.length := by
      rcases h1 with h | h
      · simpa using h
      · have := congrArg List.length h; simp at this; subst this; simp at ht
    have hb : ∀ j (hj : j < t.length), foldB (s[k + j]'(by omega)) = foldB t[j] := fun j hj => by
      have := h2 j (by simpa using hj)
      simp only [foldS, List.getElem?_map, List.getElem?_eq_getElem (show k + j < s.length by omega), List.getElem?_eq_getElem hj, Option.map_some, Option.some.injEq] at this
      exact this
    have hat : ∀ i, i < t.length - 2 → ((k : Int) + i) ∈ atV (gramsV s) (codeAt t i) := fun i hi => by
      refine (atV_gramsM s _ _).2 ⟨k + i, by omega, ?_, by omega⟩
      exact (codeAt_eqq (by omega) (by omega)).2 ⟨hb i (by omega), hb (i + 1) (by omega), hb (i + 2) (by omega)⟩
    exact ⟨by have := hat 0 (by omega); simpa using this, by omega, hat⟩
theorem candV_congr {a b : List Gram} {t : List UInt8} (h : ∀ i, i + 2 < t.length → atV a (codeAt t i) = atV b (codeAt t i)) : candV a t = candV b t := by
  unfold candV
  split
  · rfl
  · next h3 =>
    have h0 := h 0 (by omega)
    unfold candI
    rw [h0]
    congr 1
    apply List.filter_congr
    intro x hx
    unfold candJ
    congr 1
    rw [Bool.eq_iff_iff, List.all_eq_true, List.all_eq_true]
    constructor
    · intro H i hi
      have := H i hi
      rw [h i (by have := List.mem_range.1 hi; omega)] at this
      exact this
    · intro H i hi
      have := H i hi
      rw [← h i (by have := List.mem_range.1 hi; omega)] at this
      exact this
theorem cand_doc {s t : List UInt8} (hs : s.length ≤ 900) (ht : ¬ t.length < 3) : candV ((ofV t).map fun c => ⟨c, offV s c⟩) t = findV (foldS s) (foldS t) := by
  rw [← exact_cand hs ht]
  refine candV_congr fun i hi => ?_
  rw [atV_map, atV_grams, if_pos ((ofV_mem t _).2 ⟨i, by omega, rfl⟩)]
theorem find_code {s t : List UInt8} (hs : s.length ≤ 900) (ht : ¬ t.length < 3) (h : findV (foldS s) (foldS t) ≠ []) {c : Int} (hc : c ∈ ofV t) : offV s c ≠ [] := by
  rw [← exact_cand hs ht] at h
  obtain ⟨x, hx⟩ := List.exists_mem_of_ne_nil _ h
  obtain ⟨i, hi, rfl⟩ := (ofV_mem t c).1 hc
  unfold candV candI at hx
  rw [if_neg ht, ins_foldl_mem, List.take_length, List.mem_filter, candJ_iff] at hx
  have hm : x + i ∈ atV (gramsV s) (codeAt t i) := by
    rcases hx with hx | hx
    · simp at hx
    · exact hx.2.2 i hi
  rw [atV_grams] at hm
  intro e
  rw [e] at hm
  simp at hm
def find29 (l : List Doc) (t : List UInt8) : List Gram := (l.map fun d => (⟨d.id, findV (foldS d.text) (foldS t)⟩ : Gram)).filter fun g => decide (g.off ≠ [])
theorem find29_snoc (l : List Doc) (t : List UInt8) {k : Nat} (hk : k < l.length) : find29 (l.take (k + 1)) t = find29 (l.take k) t ++ if findV (foldS l[k].text) (foldS t) = [] then [] else [⟨l[k].id, findV (foldS l[k].text) (foldS t)⟩] := by
  unfold find29
  rw [List.take_succ_eq_append_getElem hk, List.map_append, List.filter_append]
  congr 1
  by_cases h : findV (foldS l[k].text) (foldS t) = [] <;> simp [h]
theorem find29_len (l : List Doc) (t : List UInt8) (k : Nat) : (find29 (l.take k) t).length ≤ l.length := by
  unfold find29
  have h1 := List.length_filter_le (fun g : Gram => decide (g.off ≠ [])) ((l.take k).map fun d => (⟨d.id, findV (foldS d.text) (foldS t)⟩ : Gram))
  rw [List.length_map, List.length_take] at h1; omega
def haveV (l : List Doc) (c : Int) : List Doc := l.filter fun d => decide (offV d.text c ≠ [])
theorem find29_have {l : List Doc} {t : List UInt8} (hl : ∀ d ∈ l, d.text.length ≤ 900) (ht : ¬ t.length < 3) {c : Int} (hc : c ∈ ofV t) : find29 (haveV l c) t = find29 l t := by
  unfold find29 haveV
  induction l with
  | nil => rfl
  | cons d l ih =>
    have ih := ih fun x hx => hl x (by simp [hx])
    have hd := hl d (by simp)
    rw [List.map_cons]
    by_cases h : offV d.text c = []
    · have hf : findV (foldS d.text) (foldS t) = [] := Classical.byContradiction fun hne => find_code hd ht hne hc h
      rw [List.filter_cons_of_neg (by simpa using h), List.filter_cons_of_neg (by simpa using hf)]
      exact ih
    · rw [List.filter_cons_of_pos (by simpa using h), List.map_cons]
      by_cases hf : findV (foldS d.text) (foldS t) = []
      · rw [List.filter_cons_of_neg (by simpa using hf), List.filter_cons_of_neg (by simpa using hf)]; exact ih
      · rw [List.filter_cons_of_pos (by simpa using hf), List.filter_cons_of_pos (by simpa using hf), ih]
def eval29 (l : List Doc) (n : NeedT) : List Int := (l.filter fun d => holdsN n (ofV d.text)).map Doc.id
end Go.Hv
set_option linter.unusedVariables false
set_option linter.unusedSimpArgs false
/- Conditions: whether one is valid, whether it holds, its nodes (layer 10). -/
namespace Go.Hv
open Go Go.Hv Go.Proofs Go.RowKit
open Go.Proofs.YtlbmbnpknobjdaaGreatDoor
@[reducible] def needC (x : NeedT) : List HV := [i64 x.kind, i64 x.gram, .sl 3 false (needsHV x.subs)]
theorem validN_eq (n : NeedT) (lv : Int) : validN n lv = (decide (lv ≤ 40) && (if n.kind = 1 ∨ n.kind = 2 then decide (n.gram = 0 ∧ n.subs.length = 0) else if n.kind = 3 then decide (0 ≤ n.gram ∧ n.gram < 16777216 ∧ n.subs.length = 0) else if n.kind = 4 ∨ n.kind = 5 then decide (n.gram = 0 ∧ 2 ≤ n.subs.length) && validsN n.subs (lv + 1) else false)) := by
  cases n; rw [validN]; rfl
theorem holdsN_eq (n : NeedT) (codes : List Int) : holdsN n codes = (if n.kind = 1 then true else if n.kind = 2 then false else if n.kind = 3 then decide (n.gram ∈ codes) else holdL (decide (n.kind = 5)) (decide (n.kind = 4)) n.subs codes) := by
  cases n; rw [holdsN]; rfl
theorem needInd' {p : NeedT → Prop} (h : ∀ n : NeedT, (∀ x ∈ n.subs, p x) → p n) (n : NeedT) : p n := needInd (fun k g s ih => h (.mk k g s) ih) n
theorem valid_no {n : NeedT} {lv : Int} (h : 40 < lv ∨ (n.kind ≠ 3 ∧ n.gram ≠ 0) ∨ n.gram < 0 ∨ 16777216 ≤ n.gram) : validN n lv = false := by
  rw [validN_eq]
  rcases h with h | h | h | h
  · simp [show ¬ lv ≤ 40 by omega]
  · by_cases h1 : n.kind = 1 ∨ n.kind = 2
    · rw [if_pos h1]; simp [h.2]
    · rw [if_neg h1, if_neg h.1]; simp [h.2]
  · by_cases h1 : n.kind = 1 ∨ n.kind = 2
    · rw [if_pos h1]; simp [show ¬ n.gram = 0 by omega]
    · rw [if_neg h1]
      by_cases h3 : n.kind = 3
      · rw [if_pos h3]; simp [show ¬ 0 ≤ n.gram by omega]
      · rw [if_neg h3]; simp [show ¬ n.gram = 0 by omega]
  · by_cases h1 : n.kind = 1 ∨ n.kind = 2
    · rw [if_pos h1]; simp [show ¬ n.gram = 0 by omega]
    · rw [if_neg h1]
      by_cases h3 : n.kind = 3
      · rw [if_pos h3]; simp [show ¬ n.gram < 16777216 by omega]
      · rw [if_neg h3]; simp [show ¬ n.gram = 0 by omega]
theorem valid_leaf {n : NeedT} {lv : Int} (h1 : lv ≤ 40) (h2 : n.kind = 3 ∨ n.gram = 0) (h3 : 0 ≤ n.gram) (h4 : n.gram < 16777216) (hk : n.kind = 1 ∨ n.kind = 2 ∨ n.kind = 3) : validN n lv = decide (n.subs.length = 0) := by
  rw [validN_eq]
  by_cases k1 : n.kind = 1 ∨ n.kind = 2
  · have hg : n.gram = 0 := by rcases h2 with h | h; omega; exact h
    rw [if_pos k1]; simp [h1, hg]
  · rw [if_neg k1, if_pos (by omega)]; simp [h1, h3, h4]
theorem valid_node {n : NeedT} {lv : Int} (h1 : lv ≤ 40) (h2 : n.gram = 0) (hk : n.kind = 4 ∨ n.kind = 5) : validN n lv = (validsN n.subs (lv + 1) && decide (2 ≤ n.subs.length)) := by
  rw [validN_eq, if_neg (by omega), if_neg (by omega), if_pos hk]
  simp [h1, h2, Bool.and_comm]
theorem valid_other {n : NeedT} {lv : Int} (hk : ¬ (n.kind = 1 ∨ n.kind = 2 ∨ n.kind = 3 ∨ n.kind = 4 ∨ n.kind = 5)) : validN n lv = false := by
  rw [validN_eq, if_neg (by omega), if_neg (by omega), if_neg (by omega)]; simp
theorem valids_bad {l : List NeedT} {lv : Int} {i : Nat} (hi : i < l.length) (h : validN l[i] lv = false) : validsN l lv = false := by
  rw [Bool.eq_false_iff]
  intro h2
  have := (validsN_iff l lv).1 h2 l[i] (List.getElem_mem hi)
  rw [h] at this; cases this
set_option maxHeartbeats 4000000 in
theorem valid_of (n : NeedT) (lv : Int) (hs : n.subs.length ≤ 140737488355328) (h0 : 0 ≤ lv) (hl : lv ≤ 41) (ih : ∀ x ∈ n.subs, ∀ m : Int, 0 ≤ m → m ≤ 41 → Spec1 Tryz.prog 102 [.agg (needC x), i64 m] (bo (validN x m))) : Spec1 Tryz.prog 102 [.agg (needC n), i64 lv] (bo (validN n lv)) := by
  refine Spec1.of_HT Tryz.func102 rfl (by rw [Tryz.ntmps102]; simp) rfl ?_
  rw [Tryz.ntmps102]
  refine HT.seq ?_
  refine HT.region ?_   -- R0
  simp (disch := first | omega | (simp <;> omega) | fail) [wrap_i64, wrap_u64, wrap_u8', NeedT.enc_eq]
  refine HT.seq ?_
  refine HT.seq ?_
  by_cases a1 : 40 < lv
  · skip
    refine HT.region ?_   -- R1
    simp (disch := first | omega | (simp <;> omega) | fail) [wrap_i64, wrap_u64, wrap_u8', NeedT.enc_eq, a1]
    refine HT.cond' ?_   -- if 28
    simp (disch := first | omega | (simp <;> omega) | fail) [wrap_i64, wrap_u64, wrap_u8', NeedT.enc_eq]
    have hv : validN n lv = false := valid_no (by omega)
    refine HT.seq ?_
    refine HT.region ?_   -- R2
    simp (disch := first | omega | (simp <;> omega) | fail) [wrap_i64, wrap_u64, wrap_u8', NeedT.enc_eq]
    refine HT.ret ?_
    simp (disch := first | omega | (simp <;> omega) | fail) [wrap_i64, wrap_u64, wrap_u8', NeedT.enc_eq, hv]
  by_cases b3 : n.kind = 3 ∧ n.gram < 0
  · skip
    refine HT.region ?_   -- R1
    simp (disch := first | omega | (simp <;> omega) | fail) [wrap_i64, wrap_u64, wrap_u8', NeedT.enc_eq, a1, b3.1, b3.2]
    refine HT.cond' ?_   -- if 28
    simp (disch := first | omega | (simp <;> omega) | fail) [wrap_i64, wrap_u64, wrap_u8', NeedT.enc_eq]
    have hv : validN n lv = false := valid_no (by omega)
    refine HT.seq ?_
    refine HT.region ?_   -- R2
    simp (disch := first | omega | (simp <;> omega) | fail) [wrap_i64, wrap_u64, wrap_u8', NeedT.enc_eq]
    refine HT.ret ?_
    simp (disch := first | omega | (simp <;> omega) | fail) [wrap_i64, wrap_u64, wrap_u8', NeedT.enc_eq, hv]
  by_cases b4 : n.kind = 3 ∧ 16777216 ≤ n.gram
  · skip
    refine HT.region ?_   -- R1
    simp (disch := first | omega | (simp <;> omega) | fail) [wrap_i64, wrap_u64, wrap_u8', NeedT.enc_eq, a1, b4.1, b4.2, show ¬ n.gram < 0 by omega]
    refine HT.cond' ?_   -- if 28
    simp (disch := first | omega | (simp <;> omega) | fail) [wrap_i64, wrap_u64, wrap_u8', NeedT.enc_eq]
    have hv : validN n lv = false := valid_no (by omega)
    refine HT.seq ?_
    refine HT.region ?_   -- R2
    simp (disch := first | omega | (simp <;> omega) | fail) [wrap_i64, wrap_u64, wrap_u8', NeedT.enc_eq]
    refine HT.ret ?_
    simp (disch := first | omega | (simp <;> omega) | fail) [wrap_i64, wrap_u64, wrap_u8', NeedT.enc_eq, hv]
  by_cases b5 : n.kind = 3
  · skip
    refine HT.region ?_   -- R1
    simp (disch := first | omega | (simp <;> omega) | fail) [wrap_i64, wrap_u64, wrap_u8', NeedT.enc_eq, a1, show (n.kind = 3) = True from eq_true b5, show ¬ n.gram < 0 by omega, show ¬ 16777216 ≤ n.gram by omega]
    refine HT.cond' ?_   -- if 28
    simp (disch := first | omega | (simp <;> omega) | fail) [wrap_i64, wrap_u64, wrap_u8', NeedT.enc_eq]
    refine HT.skip ?_
    simp (disch := first | omega | (simp <;> omega) | fail) [wrap_i64, wrap_u64, wrap_u8', NeedT.enc_eq]
    refine HT.seq ?_
    refine HT.seq ?_
    refine HT.region ?_   -- R3
    simp (disch := first | omega | (simp <;> omega) | fail) [wrap_i64, wrap_u64, wrap_u8', NeedT.enc_eq]
    refine HT.block ?_
    refine HT.seq ?_
    refine HT.seq ?_
    refine HT.region ?_   -- R4
    simp (disch := first | omega | (simp <;> omega) | fail) [wrap_i64, wrap_u64, wrap_u8', NeedT.enc_eq]
    refine HT.cond' ?_   -- if 31
    simp (disch := first | omega | (simp <;> omega) | fail) [wrap_i64, wrap_u64, wrap_u8', NeedT.enc_eq]
    refine HT.seq ?_
    refine HT.region ?_   -- R5
    simp (disch := first | omega | (simp <;> omega) | fail) [wrap_i64, wrap_u64, wrap_u8', NeedT.enc_eq]
    refine HT.cond' ?_   -- if 31
    simp (disch := first | omega | (simp <;> omega) | fail) [wrap_i64, wrap_u64, wrap_u8', NeedT.enc_eq]
    refine HT.region ?_   -- R6
    simp (disch := first | omega | (simp <;> omega) | fail) [wrap_i64, wrap_u64, wrap_u8', NeedT.enc_eq]
    refine HT.cond' ?_   -- if 31
    simp (disch := first | omega | (simp <;> omega) | fail) [wrap_i64, wrap_u64, wrap_u8', NeedT.enc_eq]
    refine HT.seq ?_
    refine HT.region ?_   -- R7
    simp (disch := first | omega | (simp <;> omega) | fail) [wrap_i64, wrap_u64, wrap_u8', NeedT.enc_eq]
    refine HT.ret ?_
    have hv := valid_leaf (n := n) (lv := lv) (by omega) (by omega) (by omega) (by omega) (by omega)
    simp (disch := first | omega | (simp <;> omega) | fail) [wrap_i64, wrap_u64, wrap_u8', NeedT.enc_eq, hv]
  by_cases b6 : ¬ n.gram = 0
  · skip
    refine HT.region ?_   -- R1
    simp (disch := first | omega | (simp <;> omega) | fail) [wrap_i64, wrap_u64, wrap_u8', NeedT.enc_eq, a1, b6]
    refine HT.cond' ?_   -- if 28
    simp (disch := first | omega | (simp <;> omega) | fail) [wrap_i64, wrap_u64, wrap_u8', NeedT.enc_eq]
    have hv : validN n lv = false := valid_no (by omega)
    refine HT.seq ?_
    refine HT.region ?_   -- R2
    simp (disch := first | omega | (simp <;> omega) | fail) [wrap_i64, wrap_u64, wrap_u8', NeedT.enc_eq]
    refine HT.ret ?_
    simp (disch := first | omega | (simp <;> omega) | fail) [wrap_i64, wrap_u64, wrap_u8', NeedT.enc_eq, hv]
  rw [Classical.not_not] at b6
  by_cases k1 : n.kind = 1
  · skip
    refine HT.region ?_   -- R1
    simp (disch := first | omega | (simp <;> omega) | fail) [wrap_i64, wrap_u64, wrap_u8', NeedT.enc_eq, a1, b6]
    refine HT.cond' ?_   -- if 28
    simp (disch := first | omega | (simp <;> omega) | fail) [wrap_i64, wrap_u64, wrap_u8', NeedT.enc_eq]
    refine HT.skip ?_
    simp (disch := first | omega | (simp <;> omega) | fail) [wrap_i64, wrap_u64, wrap_u8', NeedT.enc_eq]
    refine HT.seq ?_
    refine HT.seq ?_
    refine HT.region ?_   -- R3
    simp (disch := first | omega | (simp <;> omega) | fail) [wrap_i64, wrap_u64, wrap_u8', NeedT.enc_eq]
    refine HT.block ?_
    refine HT.seq ?_
    refine HT.seq ?_
    refine HT.region ?_   -- R4
    simp (disch := first | omega | (simp <;> omega) | fail) [wrap_i64, wrap_u64, wrap_u8', NeedT.enc_eq]
    refine HT.cond' ?_   -- if 31
    simp (disch := first | omega | (simp <;> omega) | fail) [wrap_i64, wrap_u64, wrap_u8', NeedT.enc_eq]
    refine HT.skip ?_
    simp (disch := first | omega | (simp <;> omega) | fail) [wrap_i64, wrap_u64, wrap_u8', NeedT.enc_eq]
    refine HT.cond' ?_   -- if 31
    simp (disch := first | omega | (simp <;> omega) | fail) [wrap_i64, wrap_u64, wrap_u8', NeedT.enc_eq]
    refine HT.seq ?_
    refine HT.region ?_   -- R7
    simp (disch := first | omega | (simp <;> omega) | fail) [wrap_i64, wrap_u64, wrap_u8', NeedT.enc_eq]
    refine HT.ret ?_
    have hv := valid_leaf (n := n) (lv := lv) (by omega) (by omega) (by omega) (by omega) (by omega)
    simp (disch := first | omega | (simp <;> omega) | fail) [wrap_i64, wrap_u64, wrap_u8', NeedT.enc_eq, hv]
  by_cases k2 : n.kind = 2
  · skip
    refine HT.region ?_   -- R1
    simp (disch := first | omega | (simp <;> omega) | fail) [wrap_i64, wrap_u64, wrap_u8', NeedT.enc_eq, a1, b6]
    refine HT.cond' ?_   -- if 28
    simp (disch := first | omega | (simp <;> omega) | fail) [wrap_i64, wrap_u64, wrap_u8', NeedT.enc_eq]
    refine HT.skip ?_
    simp (disch := first | omega | (simp <;> omega) | fail) [wrap_i64, wrap_u64, wrap_u8', NeedT.enc_eq]
    refine HT.seq ?_
    refine HT.seq ?_
    refine HT.region ?_   -- R3
    simp (disch := first | omega | (simp <;> omega) | fail) [wrap_i64, wrap_u64, wrap_u8', NeedT.enc_eq]
    refine HT.block ?_
    refine HT.seq ?_
    refine HT.seq ?_
    refine HT.region ?_   -- R4
    simp (disch := first | omega | (simp <;> omega) | fail) [wrap_i64, wrap_u64, wrap_u8', NeedT.enc_eq]
    refine HT.cond' ?_   -- if 31
    simp (disch := first | omega | (simp <;> omega) | fail) [wrap_i64, wrap_u64, wrap_u8', NeedT.enc_eq]
    refine HT.seq ?_
    refine HT.region ?_   -- R5
    simp (disch := first | omega | (simp <;> omega) | fail) [wrap_i64, wrap_u64, wrap_u8', NeedT.enc_eq]
    refine HT.cond' ?_   -- if 31
    simp (disch := first | omega | (simp <;> omega) | fail) [wrap_i64, wrap_u64, wrap_u8', NeedT.enc_eq]
    refine HT.skip ?_
    simp (disch := first | omega | (simp <;> omega) | fail) [wrap_i64, wrap_u64, wrap_u8', NeedT.enc_eq]
    refine HT.cond' ?_   -- if 31
    simp (disch := first | omega | (simp <;> omega) | fail) [wrap_i64, wrap_u64, wrap_u8', NeedT.enc_eq]
    refine HT.seq ?_
    refine HT.region ?_   -- R7
    simp (disch := first | omega | (simp <;> omega) | fail) [wrap_i64, wrap_u64, wrap_u8', NeedT.enc_eq]
    refine HT.ret ?_
    have hv := valid_leaf (n := n) (lv := lv) (by omega) (by omega) (by omega) (by omega) (by omega)
    simp (disch := first | omega | (simp <;> omega) | fail) [wrap_i64, wrap_u64, wrap_u8', NeedT.enc_eq, hv]
  by_cases k4 : n.kind = 4
  · skip
    refine HT.region ?_   -- R1
    simp (disch := first | omega | (simp <;> omega) | fail) [wrap_i64, wrap_u64, wrap_u8', NeedT.enc_eq, a1, b6]
    refine HT.cond' ?_   -- if 28
    simp (disch := first | omega | (simp <;> omega) | fail) [wrap_i64, wrap_u64, wrap_u8', NeedT.enc_eq]
    refine HT.skip ?_
    simp (disch := first | omega | (simp <;> omega) | fail) [wrap_i64, wrap_u64, wrap_u8', NeedT.enc_eq]
    refine HT.seq ?_
    refine HT.seq ?_
    refine HT.region ?_   -- R3
    simp (disch := first | omega | (simp <;> omega) | fail) [wrap_i64, wrap_u64, wrap_u8', NeedT.enc_eq]
    refine HT.block ?_
    refine HT.seq ?_
    refine HT.seq ?_
    refine HT.region ?_   -- R4
    simp (disch := first | omega | (simp <;> omega) | fail) [wrap_i64, wrap_u64, wrap_u8', NeedT.enc_eq]
    refine HT.cond' ?_   -- if 31
    simp (disch := first | omega | (simp <;> omega) | fail) [wrap_i64, wrap_u64, wrap_u8', NeedT.enc_eq]
    refine HT.seq ?_
    refine HT.region ?_   -- R5
    simp (disch := first | omega | (simp <;> omega) | fail) [wrap_i64, wrap_u64, wrap_u8', NeedT.enc_eq]
    refine HT.cond' ?_   -- if 31
    simp (disch := first | omega | (simp <;> omega) | fail) [wrap_i64, wrap_u64, wrap_u8', NeedT.enc_eq]
    refine HT.region ?_   -- R6
    simp (disch := first | omega | (simp <;> omega) | fail) [wrap_i64, wrap_u64, wrap_u8', NeedT.enc_eq]
    refine HT.cond' ?_   -- if 31
    simp (disch := first | omega | (simp <;> omega) | fail) [wrap_i64, wrap_u64, wrap_u8', NeedT.enc_eq]
    refine HT.seq ?_
    refine HT.seq ?_
    refine HT.region ?_   -- R8
    simp (disch := first | omega | (simp <;> omega) | fail) [wrap_i64, wrap_u64, wrap_u8', NeedT.enc_eq]
    refine HT.cond' ?_   -- if 39
    simp (disch := first | omega | (simp <;> omega) | fail) [wrap_i64, wrap_u64, wrap_u8', NeedT.enc_eq]
    refine HT.skip ?_
    simp (disch := first | omega | (simp <;> omega) | fail) [wrap_i64, wrap_u64, wrap_u8', NeedT.enc_eq]
    refine HT.cond' ?_   -- if 39
    simp (disch := first | omega | (simp <;> omega) | fail) [wrap_i64, wrap_u64, wrap_u8', NeedT.enc_eq]
    refine HT.seq ?_
    refine HT.seq ?_
    refine HT.region ?_   -- R10
    simp (disch := first | omega | (simp <;> omega) | fail) [wrap_i64, wrap_u64, wrap_u8', NeedT.enc_eq]
    refine HT.block ?_
    refine HT.loopK (fun i : {i : Nat // i ≤ n.subs.length ∧ validsN (n.subs.take i) (lv + 1) = true} => [.s 45 (i64 i)]) [1, 2, 43, 44] [2] (fun i => n.subs.length - i) (⟨0, by omega, rfl⟩) ?_ ?_   -- block 1 turned [45]
    · simp (disch := first | omega | (simp <;> omega) | fail) [wrap_i64, wrap_u64, wrap_u8', NeedT.enc_eq]
    rintro ⟨i, hi, hg⟩
    simp (disch := first | omega | (simp <;> omega) | fail) [wrap_i64, wrap_u64, wrap_u8', NeedT.enc_eq]
    refine HT.seq ?_
    refine HT.region ?_   -- R11
    simp (disch := first | omega | (simp <;> omega) | fail) [wrap_i64, wrap_u64, wrap_u8', NeedT.enc_eq]
    refine HT.seq ?_
    refine HT.cond' ?_   -- if 46
    simp (disch := first | omega | (simp <;> omega) | fail) [wrap_i64, wrap_u64, wrap_u8', NeedT.enc_eq]
    refine ⟨fun h46 => ?_, fun h46 => ?_⟩
    · skip
      have hi' : i < n.subs.length := by omega
      refine HT.skip ?_
      simp (disch := first | omega | (simp <;> omega) | fail) [wrap_i64, wrap_u64, wrap_u8', NeedT.enc_eq]
      refine HT.seq ?_
      refine HT.block ?_
      refine HT.seq ?_
      refine HT.region ?_   -- R12
      simp (disch := first | omega | (simp <;> omega) | fail) [wrap_i64, wrap_u64, wrap_u8', NeedT.enc_eq]
      refine HT.seq ?_
      refine HT.region ?_   -- R13
      simp (disch := first | omega | (simp <;> omega) | fail) [wrap_i64, wrap_u64, wrap_u8', NeedT.enc_eq]
      refine stepK.mk (.call1 _ _ _ _ rfl Ty.hb102 rfl (ih n.subs[i] (List.getElem_mem hi') (lv + 1) (by omega) (by omega)) rfl rfl) ?_
      simp (disch := first | omega | (simp <;> omega) | fail) [wrap_i64, wrap_u64, wrap_u8', NeedT.enc_eq]
      refine HT.cond' ?_   -- if 53
      simp (disch := first | omega | (simp <;> omega) | fail) [wrap_i64, wrap_u64, wrap_u8', NeedT.enc_eq]
      refine ⟨fun h53 => ?_, fun h53 => ?_⟩
      · skip
        refine HT.seq ?_
        refine HT.region ?_   -- R14
        simp (disch := first | omega | (simp <;> omega) | fail) [wrap_i64, wrap_u64, wrap_u8', NeedT.enc_eq]
        refine HT.ret ?_
        have hv := valid_node (n := n) (lv := lv) (by omega) (by omega) (by omega)
        have hb := valids_bad hi' (by simpa using h53)
        simp (disch := first | omega | (simp <;> omega) | fail) [wrap_i64, wrap_u64, wrap_u8', NeedT.enc_eq, hv, hb]
      · skip
        refine HT.skip ?_
        simp (disch := first | omega | (simp <;> omega) | fail) [wrap_i64, wrap_u64, wrap_u8', NeedT.enc_eq]
        refine HT.region ?_   -- R15
        simp (disch := first | omega | (simp <;> omega) | fail) [wrap_i64, wrap_u64, wrap_u8', NeedT.enc_eq]
        refine Round.mk' (⟨i + 1, by omega, by rw [validsN_take hi', hg]; simpa using h53⟩) (by dsimp only; omega) rfl ?_
        simp (disch := first | omega | (simp <;> omega) | fail) [wrap_i64, wrap_u64, wrap_u8', NeedT.enc_eq]
    · skip
      obtain rfl : i = n.subs.length := by omega
      rw [List.take_length] at hg
      refine HT.exit ?_
      simp (disch := first | omega | (simp <;> omega) | fail) [wrap_i64, wrap_u64, wrap_u8', NeedT.enc_eq]
      refine HT.seq ?_
      refine HT.region ?_   -- R16
      simp (disch := first | omega | (simp <;> omega) | fail) [wrap_i64, wrap_u64, wrap_u8', NeedT.enc_eq]
      refine HT.ret ?_
      have hv := valid_node (n := n) (lv := lv) (by omega) (by omega) (by omega)
      simp (disch := first | omega | (simp <;> omega) | fail) [wrap_i64, wrap_u64, wrap_u8', NeedT.enc_eq, hv, hg]
      omega
  by_cases k5 : n.kind = 5
  · skip
    refine HT.region ?_   -- R1
    simp (disch := first | omega | (simp <;> omega) | fail) [wrap_i64, wrap_u64, wrap_u8', NeedT.enc_eq, a1, b6]
    refine HT.cond' ?_   -- if 28
    simp (disch := first | omega | (simp <;> omega) | fail) [wrap_i64, wrap_u64, wrap_u8', NeedT.enc_eq]
    refine HT.skip ?_
    simp (disch := first | omega | (simp <;> omega) | fail) [wrap_i64, wrap_u64, wrap_u8', NeedT.enc_eq]
    refine HT.seq ?_
    refine HT.seq ?_
    refine HT.region ?_   -- R3
    simp (disch := first | omega | (simp <;> omega) | fail) [wrap_i64, wrap_u64, wrap_u8', NeedT.enc_eq]
    refine HT.block ?_
    refine HT.seq ?_
    refine HT.seq ?_
    refine HT.region ?_   -- R4
    simp (disch := first | omega | (simp <;> omega) | fail) [wrap_i64, wrap_u64, wrap_u8', NeedT.enc_eq]
    refine HT.cond' ?_   -- if 31
    simp (disch := first | omega | (simp <;> omega) | fail) [wrap_i64, wrap_u64, wrap_u8', NeedT.enc_eq]
    refine HT.seq ?_
    refine HT.region ?_   -- R5
    simp (disch := first | omega | (simp <;> omega) | fail) [wrap_i64, wrap_u64, wrap_u8', NeedT.enc_eq]
    refine HT.cond' ?_   -- if 31
    simp (disch := first | omega | (simp <;> omega) | fail) [wrap_i64, wrap_u64, wrap_u8', NeedT.enc_eq]
    refine HT.region ?_   -- R6
    simp (disch := first | omega | (simp <;> omega) | fail) [wrap_i64, wrap_u64, wrap_u8', NeedT.enc_eq]
    refine HT.cond' ?_   -- if 31
    simp (disch := first | omega | (simp <;> omega) | fail) [wrap_i64, wrap_u64, wrap_u8', NeedT.enc_eq]
    refine HT.seq ?_
    refine HT.seq ?_
    refine HT.region ?_   -- R8
    simp (disch := first | omega | (simp <;> omega) | fail) [wrap_i64, wrap_u64, wrap_u8', NeedT.enc_eq]
    refine HT.cond' ?_   -- if 39
    simp (disch := first | omega | (simp <;> omega) | fail) [wrap_i64, wrap_u64, wrap_u8', NeedT.enc_eq]
    refine HT.region ?_   -- R9
    simp (disch := first | omega | (simp <;> omega) | fail) [wrap_i64, wrap_u64, wrap_u8', NeedT.enc_eq]
    refine HT.cond' ?_   -- if 39
    simp (disch := first | omega | (simp <;> omega) | fail) [wrap_i64, wrap_u64, wrap_u8', NeedT.enc_eq]
    refine HT.seq ?_
    refine HT.seq ?_
    refine HT.region ?_   -- R10
    simp (disch := first | omega | (simp <;> omega) | fail) [wrap_i64, wrap_u64, wrap_u8', NeedT.enc_eq]
    refine HT.block ?_
    refine HT.loopK (fun i : {i : Nat // i ≤ n.subs.length ∧ validsN (n.subs.take i) (lv + 1) = true} => [.s 45 (i64 i)]) [1, 2, 43, 44] [2] (fun i => n.subs.length - i) (⟨0, by omega, rfl⟩) ?_ ?_   -- block 1 turned [45]
    · simp (disch := first | omega | (simp <;> omega) | fail) [wrap_i64, wrap_u64, wrap_u8', NeedT.enc_eq]
    rintro ⟨i, hi, hg⟩
    simp (disch := first | omega | (simp <;> omega) | fail) [wrap_i64, wrap_u64, wrap_u8', NeedT.enc_eq]
    refine HT.seq ?_
    refine HT.region ?_   -- R11
    simp (disch := first | omega | (simp <;> omega) | fail) [wrap_i64, wrap_u64, wrap_u8', NeedT.enc_eq]
    refine HT.seq ?_
    refine HT.cond' ?_   -- if 46
    simp (disch := first | omega | (simp <;> omega) | fail) [wrap_i64, wrap_u64, wrap_u8', NeedT.enc_eq]
    refine ⟨fun h46 => ?_, fun h46 => ?_⟩
    · skip
      have hi' : i < n.subs.length := by omega
      refine HT.skip ?_
      simp (disch := first | omega | (simp <;> omega) | fail) [wrap_i64, wrap_u64, wrap_u8', NeedT.enc_eq]
      refine HT.seq ?_
      refine HT.block ?_
      refine HT.seq ?_
      refine HT.region ?_   -- R12
      simp (disch := first | omega | (simp <;> omega) | fail) [wrap_i64, wrap_u64, wrap_u8', NeedT.enc_eq]
      refine HT.seq ?_
      refine HT.region ?_   -- R13
      simp (disch := first | omega | (simp <;> omega) | fail) [wrap_i64, wrap_u64, wrap_u8', NeedT.enc_eq]
      refine stepK.mk (.call1 _ _ _ _ rfl Ty.hb102 rfl (ih n.subs[i] (List.getElem_mem hi') (lv + 1) (by omega) (by omega)) rfl rfl) ?_
      simp (disch := first | omega | (simp <;> omega) | fail) [wrap_i64, wrap_u64, wrap_u8', NeedT.enc_eq]
      refine HT.cond' ?_   -- if 53
      simp (disch := first | omega | (simp <;> omega) | fail) [wrap_i64, wrap_u64, wrap_u8', NeedT.enc_eq]
      refine ⟨fun h53 => ?_, fun h53 => ?_⟩
      · skip
        refine HT.seq ?_
        refine HT.region ?_   -- R14
        simp (disch := first | omega | (simp <;> omega) | fail) [wrap_i64, wrap_u64, wrap_u8', NeedT.enc_eq]
        refine HT.ret ?_
        have hv := valid_node (n := n) (lv := lv) (by omega) (by omega) (by omega)
        have hb := valids_bad hi' (by simpa using h53)
        simp (disch := first | omega | (simp <;> omega) | fail) [wrap_i64, wrap_u64, wrap_u8', NeedT.enc_eq, hv, hb]
      · skip
        refine HT.skip ?_
        simp (disch := first | omega | (simp <;> omega) | fail) [wrap_i64, wrap_u64, wrap_u8', NeedT.enc_eq]
        refine HT.region ?_   -- R15
        simp (disch := first | omega | (simp <;> omega) | fail) [wrap_i64, wrap_u64, wrap_u8', NeedT.enc_eq]
        refine Round.mk' (⟨i + 1, by omega, by rw [validsN_take hi', hg]; simpa using h53⟩) (by dsimp only; omega) rfl ?_
        simp (disch := first | omega | (simp <;> omega) | fail) [wrap_i64, wrap_u64, wrap_u8', NeedT.enc_eq]
    · skip
      obtain rfl : i = n.subs.length := by omega
      rw [List.take_length] at hg
      refine HT.exit ?_
      simp (disch := first | omega | (simp <;> omega) | fail) [wrap_i64, wrap_u64, wrap_u8', NeedT.enc_eq]
      refine HT.seq ?_
      refine HT.region ?_   -- R16
      simp (disch := first | omega | (simp <;> omega) | fail) [wrap_i64, wrap_u64, wrap_u8', NeedT.enc_eq]
      refine HT.ret ?_
      have hv := valid_node (n := n) (lv := lv) (by omega) (by omega) (by omega)
      simp (disch := first | omega | (simp <;> omega) | fail) [wrap_i64, wrap_u64, wrap_u8', NeedT.enc_eq, hv, hg]
      omega
  refine HT.region ?_   -- R1
  simp (disch := first | omega | (simp <;> omega) | fail) [wrap_i64, wrap_u64, wrap_u8', NeedT.enc_eq, a1, b6]
  refine HT.cond' ?_   -- if 28
  simp (disch := first | omega | (simp <;> omega) | fail) [wrap_i64, wrap_u64, wrap_u8', NeedT.enc_eq]
  refine HT.skip ?_
  simp (disch := first | omega | (simp <;> omega) | fail) [wrap_i64, wrap_u64, wrap_u8', NeedT.enc_eq]
  refine HT.seq ?_
  refine HT.seq ?_
  refine HT.region ?_   -- R3
  simp (disch := first | omega | (simp <;> omega) | fail) [wrap_i64, wrap_u64, wrap_u8', NeedT.enc_eq]
  refine HT.block ?_
  refine HT.seq ?_
  refine HT.seq ?_
  refine HT.region ?_   -- R4
  simp (disch := first | omega | (simp <;> omega) | fail) [wrap_i64, wrap_u64, wrap_u8', NeedT.enc_eq]
  refine HT.cond' ?_   -- if 31
  simp (disch := first | omega | (simp <;> omega) | fail) [wrap_i64, wrap_u64, wrap_u8', NeedT.enc_eq]
  refine HT.seq ?_
  refine HT.region ?_   -- R5
  simp (disch := first | omega | (simp <;> omega) | fail) [wrap_i64, wrap_u64, wrap_u8', NeedT.enc_eq]
  refine HT.cond' ?_   -- if 31
  simp (disch := first | omega | (simp <;> omega) | fail) [wrap_i64, wrap_u64, wrap_u8', NeedT.enc_eq]
  refine HT.region ?_   -- R6
  simp (disch := first | omega | (simp <;> omega) | fail) [wrap_i64, wrap_u64, wrap_u8', NeedT.enc_eq]
  refine HT.cond' ?_   -- if 31
  simp (disch := first | omega | (simp <;> omega) | fail) [wrap_i64, wrap_u64, wrap_u8', NeedT.enc_eq]
  refine HT.seq ?_
  refine HT.seq ?_
  refine HT.region ?_   -- R8
  simp (disch := first | omega | (simp <;> omega) | fail) [wrap_i64, wrap_u64, wrap_u8', NeedT.enc_eq]
  refine HT.cond' ?_   -- if 39
  simp (disch := first | omega | (simp <;> omega) | fail) [wrap_i64, wrap_u64, wrap_u8', NeedT.enc_eq]
  refine HT.region ?_   -- R9
  simp (disch := first | omega | (simp <;> omega) | fail) [wrap_i64, wrap_u64, wrap_u8', NeedT.enc_eq]
  refine HT.cond' ?_   -- if 39
  simp (disch := first | omega | (simp <;> omega) | fail) [wrap_i64, wrap_u64, wrap_u8', NeedT.enc_eq]
  refine HT.skip ?_
  simp (disch := first | omega | (simp <;> omega) | fail) [wrap_i64, wrap_u64, wrap_u8', NeedT.enc_eq]
  refine HT.seq ?_
  refine HT.region ?_   -- R17
  simp (disch := first | omega | (simp <;> omega) | fail) [wrap_i64, wrap_u64, wrap_u8', NeedT.enc_eq]
  refine HT.ret ?_
  have hv := valid_other (n := n) (lv := lv) (by omega)
  simp (disch := first | omega | (simp <;> omega) | fail) [wrap_i64, wrap_u64, wrap_u8', NeedT.enc_eq, hv]
theorem valid_spec (n : NeedT) : NeedB 140737488355328 n → ∀ lv : Int, 0 ≤ lv → lv ≤ 41 → Spec1 Tryz.prog 102 [.agg (needC n), i64 lv] (bo (validN n lv)) := by
  refine needInd' (p := fun n => NeedB 140737488355328 n → ∀ lv : Int, 0 ≤ lv → lv ≤ 41 → Spec1 Tryz.prog 102 [.agg (needC n), i64 lv] (bo (validN n lv))) (fun n ih hb lv h0 hl => ?_) n
  exact valid_of n lv hb.len h0 hl fun x hx m h0 hl => ih x hx (hb.sub hx) m h0 hl
theorem Rright_spec (n : NeedT) (hb : NeedB 140737488355328 n) : Spec1 Tryz.prog 63 [.agg (needC n)] (bo (validN n 1)) := by
  refine Spec1.of_HT Tryz.func63 rfl (by rw [Tryz.ntmps63]; simp) rfl ?_
  rw [Tryz.ntmps63]
  refine HT.seq ?_
  refine HT.region ?_   -- R0
  simp (disch := first | omega | (simp <;> omega) | fail) [wrap_i64, wrap_u64, wrap_u8']
  refine HT.seq ?_
  refine HT.region ?_   -- R1
  simp (disch := first | omega | (simp <;> omega) | fail) [wrap_i64, wrap_u64, wrap_u8']
  refine stepK.mk (.call1 _ _ _ _ rfl Ty.hb102 rfl (valid_spec n hb 1 (by decide) (by decide)) rfl rfl) ?_
  simp (disch := first | omega | (simp <;> omega) | fail) [wrap_i64, wrap_u64, wrap_u8']
  refine HT.ret ?_
  simp (disch := first | omega | (simp <;> omega) | fail) [wrap_i64, wrap_u64, wrap_u8']
theorem holds_loop {n : NeedT} {codes : List Int} (h1 : ¬ n.kind = 1) (h2 : ¬ n.kind = 2) (h3 : ¬ n.kind = 3) : holdsN n codes = holdL (decide (n.kind = 5)) (decide (n.kind = 4)) n.subs codes := by
  rw [holdsN_eq, if_neg h1, if_neg h2, if_neg h3]
theorem undec_end {o d : Bool} {codes : List Int} {l : List NeedT} (h : Undec o codes l l.length) : holdL o d l codes = d := holdL_none fun x hx => h x (by rw [List.take_length]; exact hx)
theorem EvalC_spec (f : Bool) (codes : List Int) (c : Int) (hc : codes.length ≤ 140737488355328) : Spec1 Tryz.prog 69 [i64 c, .cptr [.sl 1 f (intsHV codes)]] (bo (decide (c ∈ codes))) := by
  refine Spec1.of_HT Tryz.func69 rfl (by rw [Tryz.ntmps69]; simp) rfl ?_
  rw [Tryz.ntmps69]
  refine HT.seq ?_
  refine HT.region ?_   -- R0
  simp (disch := first | omega | (simp <;> omega) | fail) [wrap_i64, wrap_u64, wrap_u8']
  refine HT.seq ?_
  refine HT.region ?_   -- R1
  simp (disch := first | omega | (simp <;> omega) | fail) [wrap_i64, wrap_u64, wrap_u8']
  refine stepK.mk (.call1f _ _ _ _ _ rfl Ty.hb70 rfl rfl (Contains_spec f codes c hc) rfl) ?_
  simp (disch := first | omega | (simp <;> omega) | fail) [wrap_i64, wrap_u64, wrap_u8']
  refine HT.ret ?_
  simp (disch := first | omega | (simp <;> omega) | fail) [wrap_i64, wrap_u64, wrap_u8']
set_option maxHeartbeats 4000000 in
theorem holds_of (n : NeedT) (f : Bool) (codes : List Int) (hc : codes.length ≤ 140737488355328) (hs : n.subs.length ≤ 140737488355328) (ih : ∀ x ∈ n.subs, Spec1 Tryz.prog 68 [.agg (needC x), .fn (.func 69) [.cptr [.sl 1 f (intsHV codes)]]] (bo (holdsN x codes))) : Spec1 Tryz.prog 68 [.agg (needC n), .fn (.func 69) [.cptr [.sl 1 f (intsHV codes)]]] (bo (holdsN n codes)) := by
  refine Spec1.of_HT Tryz.func68 rfl (by rw [Tryz.ntmps68]; simp) rfl ?_
  rw [Tryz.ntmps68]
  refine HT.seq ?_
  refine HT.region ?_   -- R0
  simp (disch := first | omega | (simp <;> omega) | fail) [wrap_i64, wrap_u64, wrap_u8', NeedT.enc_eq]
  refine HT.seq ?_
  refine HT.seq ?_
  refine HT.region ?_   -- R1
  simp (disch := first | omega | (simp <;> omega) | fail) [wrap_i64, wrap_u64, wrap_u8', NeedT.enc_eq]
  refine HT.block ?_
  refine HT.seq ?_
  refine HT.region ?_   -- R2
  simp (disch := first | omega | (simp <;> omega) | fail) [wrap_i64, wrap_u64, wrap_u8', NeedT.enc_eq]
  refine HT.cond' ?_   -- if 9
  simp (disch := first | omega | (simp <;> omega) | fail) [wrap_i64, wrap_u64, wrap_u8', NeedT.enc_eq]
  refine ⟨fun h9 => ?_, fun h9 => ?_⟩
  · skip
    refine HT.seq ?_
    refine HT.region ?_   -- R3
    simp (disch := first | omega | (simp <;> omega) | fail) [wrap_i64, wrap_u64, wrap_u8', NeedT.enc_eq]
    refine HT.ret ?_
    simp (disch := first | omega | (simp <;> omega) | fail) [wrap_i64, wrap_u64, wrap_u8', NeedT.enc_eq, holdsN_eq, h9]
  · skip
    refine HT.seq ?_
    refine HT.region ?_   -- R4
    simp (disch := first | omega | (simp <;> omega) | fail) [wrap_i64, wrap_u64, wrap_u8', NeedT.enc_eq]
    refine HT.cond' ?_   -- if 11
    simp (disch := first | omega | (simp <;> omega) | fail) [wrap_i64, wrap_u64, wrap_u8', NeedT.enc_eq]
    refine ⟨fun h11 => ?_, fun h11 => ?_⟩
    · skip
      refine HT.seq ?_
      refine HT.region ?_   -- R5
      simp (disch := first | omega | (simp <;> omega) | fail) [wrap_i64, wrap_u64, wrap_u8', NeedT.enc_eq]
      refine HT.ret ?_
      simp (disch := first | omega | (simp <;> omega) | fail) [wrap_i64, wrap_u64, wrap_u8', NeedT.enc_eq, holdsN_eq, h11]
    · skip
      refine HT.seq ?_
      refine HT.region ?_   -- R6
      simp (disch := first | omega | (simp <;> omega) | fail) [wrap_i64, wrap_u64, wrap_u8', NeedT.enc_eq]
      refine HT.cond' ?_   -- if 13
      simp (disch := first | omega | (simp <;> omega) | fail) [wrap_i64, wrap_u64, wrap_u8', NeedT.enc_eq]
      refine ⟨fun h13 => ?_, fun h13 => ?_⟩
      · skip
        refine HT.seq ?_
        refine HT.region ?_   -- R7
        simp (disch := first | omega | (simp <;> omega) | fail) [wrap_i64, wrap_u64, wrap_u8', NeedT.enc_eq]
        refine stepK.mk (.call1 _ _ _ _ rfl Ty.hb69 rfl (EvalC_spec f codes n.gram hc) rfl rfl) ?_
        simp (disch := first | omega | (simp <;> omega) | fail) [wrap_i64, wrap_u64, wrap_u8', NeedT.enc_eq]
        refine HT.ret ?_
        simp (disch := first | omega | (simp <;> omega) | fail) [wrap_i64, wrap_u64, wrap_u8', NeedT.enc_eq, holdsN_eq, h13]
      · skip
        refine HT.skip ?_
        simp (disch := first | omega | (simp <;> omega) | fail) [wrap_i64, wrap_u64, wrap_u8', NeedT.enc_eq]
        refine HT.seq ?_
        refine HT.seq ?_
        refine HT.region ?_   -- R8
        simp (disch := first | omega | (simp <;> omega) | fail) [wrap_i64, wrap_u64, wrap_u8', NeedT.enc_eq]
        refine HT.block ?_
        refine HT.loopK (fun i : {i : Nat // i ≤ n.subs.length ∧ Undec (decide (n.kind = 5)) codes n.subs i} => [.s 22 (i64 i)]) [1, 2, 20, 21] [2] (fun i => n.subs.length - i) (⟨0, by omega, Undec.zero _ _ _⟩) ?_ ?_   -- block 1 turned [22]
        · simp (disch := first | omega | (simp <;> omega) | fail) [wrap_i64, wrap_u64, wrap_u8', NeedT.enc_eq]
        rintro ⟨i, hi, hg⟩
        simp (disch := first | omega | (simp <;> omega) | fail) [wrap_i64, wrap_u64, wrap_u8', NeedT.enc_eq]
        refine HT.seq ?_
        refine HT.region ?_   -- R9
        simp (disch := first | omega | (simp <;> omega) | fail) [wrap_i64, wrap_u64, wrap_u8', NeedT.enc_eq]
        refine HT.seq ?_
        refine HT.cond' ?_   -- if 23
        simp (disch := first | omega | (simp <;> omega) | fail) [wrap_i64, wrap_u64, wrap_u8', NeedT.enc_eq]
        refine ⟨fun h23 => ?_, fun h23 => ?_⟩
        · skip
          have hi' : i < n.subs.length := by omega
          refine HT.skip ?_
          simp (disch := first | omega | (simp <;> omega) | fail) [wrap_i64, wrap_u64, wrap_u8', NeedT.enc_eq]
          refine HT.seq ?_
          refine HT.block ?_
          refine HT.seq ?_
          refine HT.region ?_   -- R10
          simp (disch := first | omega | (simp <;> omega) | fail) [wrap_i64, wrap_u64, wrap_u8', NeedT.enc_eq]
          refine HT.seq ?_
          refine HT.draw [.batch [0, 1, 2, 3, 4, 5, 6]] (by kernel_rfl) ?_   -- R11
          simp (disch := first | omega | (simp <;> omega) | fail) [wrap_i64, wrap_u64, wrap_u8', NeedT.enc_eq]
          refine stepK.mk (.call1 _ _ _ rfl Ty.hb68 rfl rfl (ih n.subs[i] (List.getElem_mem hi'))) ?_
          simp (disch := first | omega | (simp <;> omega) | fail) [wrap_i64, wrap_u64, wrap_u8', NeedT.enc_eq]
          refine HT.cond' ?_   -- if 32
          simp (disch := first | omega | (simp <;> omega) | fail) [wrap_i64, wrap_u64, wrap_u8', NeedT.enc_eq]
          refine ⟨fun h32 => ?_, fun h32 => ?_⟩
          · skip
            refine HT.seq ?_
            refine HT.region ?_   -- R12
            simp (disch := first | omega | (simp <;> omega) | fail) [wrap_i64, wrap_u64, wrap_u8', NeedT.enc_eq]
            refine HT.ret ?_
            have hh := holdL_some (d := decide (n.kind = 4)) (List.getElem_mem hi') h32
            simp (disch := first | omega | (simp <;> omega) | fail) [wrap_i64, wrap_u64, wrap_u8', NeedT.enc_eq, holds_loop h9 h11 h13, hh]
          · skip
            refine HT.skip ?_
            simp (disch := first | omega | (simp <;> omega) | fail) [wrap_i64, wrap_u64, wrap_u8', NeedT.enc_eq]
            refine HT.region ?_   -- R13
            simp (disch := first | omega | (simp <;> omega) | fail) [wrap_i64, wrap_u64, wrap_u8', NeedT.enc_eq]
            refine Round.mk' (⟨i + 1, by omega, hg.succ hi' h32⟩) (by dsimp only; omega) rfl ?_
            simp (disch := first | omega | (simp <;> omega) | fail) [wrap_i64, wrap_u64, wrap_u8', NeedT.enc_eq]
        · skip
          obtain rfl : i = n.subs.length := by omega
          refine HT.exit ?_
          simp (disch := first | omega | (simp <;> omega) | fail) [wrap_i64, wrap_u64, wrap_u8', NeedT.enc_eq]
          refine HT.seq ?_
          refine HT.region ?_   -- R14
          simp (disch := first | omega | (simp <;> omega) | fail) [wrap_i64, wrap_u64, wrap_u8', NeedT.enc_eq]
          refine HT.ret ?_
          simp (disch := first | omega | (simp <;> omega) | fail) [wrap_i64, wrap_u64, wrap_u8', NeedT.enc_eq, holds_loop h9 h11 h13, undec_end hg]
theorem holds_spec (f : Bool) (codes : List Int) (hc : codes.length ≤ 140737488355328) (n : NeedT) : NeedB 140737488355328 n → Spec1 Tryz.prog 68 [.agg (needC n), .fn (.func 69) [.cptr [.sl 1 f (intsHV codes)]]] (bo (holdsN n codes)) := by
  refine needInd' (p := fun n => NeedB 140737488355328 n → Spec1 Tryz.prog 68 [.agg (needC n), .fn (.func 69) [.cptr [.sl 1 f (intsHV codes)]]] (bo (holdsN n codes))) (fun n ih hb => ?_) n
  exact holds_of n f codes hc hb.len fun x hx => ih x hx (hb.sub hx)
theorem Eval_spec (n : NeedT) (f : Bool) (codes : List Int) (hb : NeedB 140737488355328 n) (hc : codes.length ≤ 140737488355328) : Spec1 Tryz.prog 37 [.agg (needC n), .sl 1 f (intsHV codes)] (bo (validN n 1 && holdsN n codes)) := by
  refine Spec1.of_HT Tryz.func37 rfl (by rw [Tryz.ntmps37]; simp) rfl ?_
  rw [Tryz.ntmps37]
  refine HT.seq ?_
  refine HT.region ?_   -- R0
  simp (disch := first | omega | (simp <;> omega) | fail) [wrap_i64, wrap_u64, wrap_u8']
  refine HT.weaken (HS.le_frzbox 3 3 (by decide) rfl rfl (by simp [isIL, isI])) ?_
  refine HT.seq ?_
  by_cases v : validN n 1 = false
  · skip
    refine HT.region ?_   -- R1
    simp (disch := first | omega | (simp <;> omega) | fail) [wrap_i64, wrap_u64, wrap_u8', v]
    refine stepK.mk (.call1 _ _ _ _ rfl Ty.hb63 rfl (Rright_spec n hb) rfl rfl) ?_
    simp (disch := first | omega | (simp <;> omega) | fail) [wrap_i64, wrap_u64, wrap_u8', v]
    refine HT.ret ?_
    simp (disch := first | omega | (simp <;> omega) | fail) [wrap_i64, wrap_u64, wrap_u8', v]
  rw [Bool.not_eq_false] at v
  refine HT.region ?_   -- R1
  simp (disch := first | omega | (simp <;> omega) | fail) [wrap_i64, wrap_u64, wrap_u8', v]
  refine stepK.mk (.call1 _ _ _ _ rfl Ty.hb63 rfl (Rright_spec n hb) rfl rfl) ?_
  simp (disch := first | omega | (simp <;> omega) | fail) [wrap_i64, wrap_u64, wrap_u8', v]
  refine stepK.mk (.call1f _ _ _ _ _ rfl Ty.hb68 rfl rfl (holds_spec f codes hc n hb) rfl) ?_
  simp (disch := first | omega | (simp <;> omega) | fail) [wrap_i64, wrap_u64, wrap_u8', v]
  refine HT.ret ?_
  simp (disch := first | omega | (simp <;> omega) | fail) [wrap_i64, wrap_u64, wrap_u8', v]
end Go.Hv
set_option linter.unusedVariables false
set_option linter.unusedSimpArgs false
/- Find and Eval of a segment, walked (layer 29). -/
namespace Go.Hv
open Go Go.Hv Go.Proofs Go.RowKit
open Go.Proofs.YtlbmbnpknobjdaaGreatDoor
def glV (t : List UInt8) (d : Doc) : List Gram := (ofV t).map fun c => ⟨c, offV d.text c⟩
@[simp] theorem glV_length (t : List UInt8) (d : Doc) : (glV t d).length = (ofV t).length := by simp [glV]
theorem glV_succ (t : List UInt8) (d : Doc) {j : Nat} (hj : j < (ofV t).length) : (glV t d).take (j + 1) = (glV t d).take j ++ [⟨(ofV t)[j], offV d.text (ofV t)[j]⟩] := by
  rw [List.take_succ_eq_append_getElem (by simpa using hj)]
  simp [glV]
theorem glV_all (t : List UInt8) (d : Doc) : (glV t d).take (ofV t).length = glV t d := by rw [← glV_length t d, List.take_length]
theorem offV_len' (s : List UInt8) (c : Int) : (offV s c).length ≤ s.length := by
  unfold offV
  have := offK_length s (s.length - 2) c
  omega
theorem glV_GB {t : List UInt8} {d : Doc} (ht : t.length ≤ 900) (hd : d.text.length ≤ 900) : GB (glV t d) := by
  refine ⟨by have := ofV_length t; rw [glV_length]; omega, fun g hg => ?_⟩
  obtain ⟨c, _, rfl⟩ := List.mem_map.1 hg
  refine ⟨by have := offV_len' d.text c; show (offV d.text c).length ≤ _; omega, fun y hy => ?_⟩
  obtain ⟨i, hi, _, rfl⟩ := offK_mem (show y ∈ offK d.text (d.text.length - 2) c from hy)
  omega
theorem ofV_pos {t : List UInt8} (ht : ¬ t.length < 3) : 0 < (ofV t).length := by
  rcases Nat.eq_zero_or_pos (ofV t).length with h | h
  · have h0 : ofV t = [] := List.eq_nil_of_length_eq_zero h
    have := (ofV_mem t (codeAt t 0)).2 ⟨0, by omega, rfl⟩
    rw [h0] at this; simp at this
  · exact h
theorem have_sub (l : List Doc) (c : Int) : ∀ d ∈ haveV l c, d ∈ l := fun d hd => (List.mem_filter.1 hd).1
theorem docsV_have (l : List Doc) (c : Int) : docsV (segV l).grams c = (haveV l c).map Doc.id := docsV_seg l c
theorem find29_all (l : List Doc) (t : List UInt8) : find29 (l.take l.length) t = find29 l t := by rw [List.take_length]
set_option maxRecDepth 20000 in
set_option maxHeartbeats 8000000 in
theorem Find_seg (l : List Doc) (t : List UInt8) (hl : IncBy Doc.id l) (h64 : l.length ≤ 64) (hx : ∀ d ∈ l, d.text.length ≤ 900) (ht : t.length ≤ 900) (hT : SegT (segV l)) : Spec1 Tryz.prog 29 [.agg (segV l).enc, .str t] (.sl 2 false (gramsHV (find29 l t))) := by
  have hof := ofV_length t
  refine Spec1.of_HT Tryz.func29 rfl (by rw [Tryz.ntmps29]; simp) rfl ?_
  rw [Tryz.ntmps29]
  refine HT.seq ?_
  refine HT.region ?_   -- R0
  simp (disch := first | omega | (simp <;> omega) | fail) [wrap_i64, wrap_u64, wrap_u8']
  refine HT.seq ?_
  refine HT.region ?_   -- R1
  simp (disch := first | omega | (simp <;> omega) | fail) [wrap_i64, wrap_u64, wrap_u8']
  refine HT.weaken (HS.le_own (t := 5) 200 62 2 _ (by decide) rfl (by decide)) ?_
  refine HT.seq ?_
  refine HT.seq ?_
  refine HT.region ?_   -- R2
  simp (disch := first | omega | (simp <;> omega) | fail) [wrap_i64, wrap_u64, wrap_u8']
  refine HT.cond' ?_   -- if 19
  simp (disch := first | omega | (simp <;> omega) | fail) [wrap_i64, wrap_u64, wrap_u8']
  refine ⟨fun h19 => ?_, fun h19 => ?_⟩
  · skip
    refine HT.seq ?_
    refine HT.seq ?_
    refine HT.region ?_   -- R3
    simp (disch := first | omega | (simp <;> omega) | fail) [wrap_i64, wrap_u64, wrap_u8', show (segV l).docs = l from rfl]
    refine HT.block ?_
    refine HT.loopK (fun k : {k : Nat // k ≤ l.length} => [.s 23 (i64 k), .s 5 (.ref 200), .o 200 (.row 62 2 (gramsHV (find29 (l.take k) t)))]) [1, 21, 22] [] (fun k => l.length - k) (⟨0, by omega⟩) ?_ ?_   -- block 0 turned [5, 23]
    · simp (disch := first | omega | (simp <;> omega) | fail) [wrap_i64, wrap_u64, wrap_u8', show find29 [] t = [] from rfl]
    rintro ⟨k, hk⟩
    simp (disch := first | omega | (simp <;> omega) | fail) [wrap_i64, wrap_u64, wrap_u8']
    refine HT.seq ?_
    refine HT.region ?_   -- R4
    simp (disch := first | omega | (simp <;> omega) | fail) [wrap_i64, wrap_u64, wrap_u8']
    refine HT.seq ?_
    refine HT.cond' ?_   -- if 24
    simp (disch := first | omega | (simp <;> omega) | fail) [wrap_i64, wrap_u64, wrap_u8']
    refine ⟨fun h24 => ?_, fun h24 => ?_⟩
    · skip
      have hk' : k < l.length := by omega
      have hxk := hx _ (List.getElem_mem hk')
      have hfl := find29_len l t k
      refine HT.skip ?_
      simp (disch := first | omega | (simp <;> omega) | fail) [wrap_i64, wrap_u64, wrap_u8']
      refine HT.seq ?_
      refine HT.block ?_
      refine HT.seq ?_
      refine HT.region ?_   -- R5
      simp (disch := first | omega | (simp <;> omega) | fail) [wrap_i64, wrap_u64, wrap_u8']
      refine HT.seq ?_
      refine HT.region ?_   -- R6
      simp (disch := first | omega | (simp <;> omega) | fail) [wrap_i64, wrap_u64, wrap_u8']
      refine stepK.mk (.call1f _ _ _ _ _ rfl Ty.hb59 rfl rfl (Find_spec l[k].text t true (by omega) (by omega)) rfl) ?_
      simp (disch := first | omega | (simp <;> omega) | fail) [wrap_i64, wrap_u64, wrap_u8', fd]
      refine HT.seq ?_
      refine HT.region ?_   -- R7
      simp (disch := first | omega | (simp <;> omega) | fail) [wrap_i64, wrap_u64, wrap_u8']
      refine HT.cond' ?_   -- if 33
      simp (disch := first | omega | (simp <;> omega) | fail) [wrap_i64, wrap_u64, wrap_u8']
      refine ⟨fun h33 => ?_, fun h33 => ?_⟩
      · skip
        have hne : ¬ findV (foldS l[k].text) (foldS t) = [] := by intro e; simp [e] at h33
        refine HT.region ?_   -- R8
        simp (disch := first | omega | (simp <;> omega) | fail) [wrap_i64, wrap_u64, wrap_u8']
        refine HT.region ?_   -- R9
        simp (disch := first | omega | (simp <;> omega) | fail) [wrap_i64, wrap_u64, wrap_u8']
        refine Round.mk' (⟨k + 1, by omega⟩) (by dsimp only; omega) rfl ?_
        simp (disch := first | omega | (simp <;> omega) | fail) [wrap_i64, wrap_u64, wrap_u8', find29_snoc l t hk', fd]
        all_goals first | (rw [if_neg hne]; done) | (rw [if_neg hne]; simp; done) | (rw [if_pos he]; done) | (rw [if_pos he]; simp; done)
      · skip
        have he : findV (foldS l[k].text) (foldS t) = [] := by first | exact h33 | simpa using h33 | (apply List.eq_nil_of_length_eq_zero; omega)
        refine HT.skip ?_
        simp (disch := first | omega | (simp <;> omega) | fail) [wrap_i64, wrap_u64, wrap_u8']
        refine HT.region ?_   -- R9
        simp (disch := first | omega | (simp <;> omega) | fail) [wrap_i64, wrap_u64, wrap_u8']
        refine Round.mk' (⟨k + 1, by omega⟩) (by dsimp only; omega) rfl ?_
        simp (disch := first | omega | (simp <;> omega) | fail) [wrap_i64, wrap_u64, wrap_u8', find29_snoc l t hk', fd]
        all_goals first | (rw [if_neg hne]; done) | (rw [if_neg hne]; simp; done) | (rw [if_pos he]; done) | (rw [if_pos he]; simp; done)
    · skip
      obtain rfl : k = l.length := by omega
      refine HT.exit ?_
      simp (disch := first | omega | (simp <;> omega) | fail) [wrap_i64, wrap_u64, wrap_u8']
      refine HT.seq ?_
      refine HT.region ?_   -- R10
      simp (disch := first | omega | (simp <;> omega) | fail) [wrap_i64, wrap_u64, wrap_u8']
      refine HT.ret ?_
      simp (disch := first | omega | (simp <;> omega) | fail) [wrap_i64, wrap_u64, wrap_u8', find29_all]
  · skip
    have h3 : ¬ t.length < 3 := by omega
    have hpos := ofV_pos h3
    have hdv := docsV_have l (ofV t)[0]
    have hml : (haveV l (ofV t)[0]).length ≤ l.length := List.length_filter_le _ _
    have hfin := find29_have hx h3 (List.getElem_mem hpos)
    refine HT.skip ?_
    simp (disch := first | omega | (simp <;> omega) | fail) [wrap_i64, wrap_u64, wrap_u8']
    refine HT.seq ?_
    refine HT.region ?_   -- R11
    simp (disch := first | omega | (simp <;> omega) | fail) [wrap_i64, wrap_u64, wrap_u8']
    refine stepK.mk (.call1f _ _ _ _ _ rfl Ty.hb60 rfl rfl (Codes_spec t (by omega)) rfl) ?_
    simp (disch := first | omega | (simp <;> omega) | fail) [wrap_i64, wrap_u64, wrap_u8']
    refine HT.seq ?_
    refine HT.seq ?_
    refine HT.draw [.batch [0, 1, 2, 3, 4, 5, 6]] (by kernel_rfl) ?_   -- R12
    simp (disch := first | omega | (simp <;> omega) | fail) [wrap_i64, wrap_u64, wrap_u8', hpos]
    refine stepK.mk (.call1 _ _ _ rfl Ty.hb23 rfl rfl (Docs_spec (segV l) (ofV t)[0] hT.1)) ?_
    simp (disch := first | omega | (simp <;> omega) | fail) [wrap_i64, wrap_u64, wrap_u8', hpos, hdv]
    refine HT.block ?_
    refine HT.loopK (fun k : {k : Nat // k ≤ (haveV l (ofV t)[0]).length} => [.s 51 (i64 k), .s 5 (.ref 200), .o 200 (.row 62 2 (gramsHV (find29 ((haveV l (ofV t)[0]).take k) t)))]) [1, 2, 9, 49, 50] [2] (fun k => (haveV l (ofV t)[0]).length - k) (⟨0, by omega⟩) ?_ ?_   -- block 2 turned [5, 51, 79, 80, 81]
    · simp (disch := first | omega | (simp <;> omega) | fail) [wrap_i64, wrap_u64, wrap_u8', show find29 [] t = [] from rfl]
    rintro ⟨k, hk⟩
    simp (disch := first | omega | (simp <;> omega) | fail) [wrap_i64, wrap_u64, wrap_u8']
    refine HT.seq ?_
    refine HT.region ?_   -- R13
    simp (disch := first | omega | (simp <;> omega) | fail) [wrap_i64, wrap_u64, wrap_u8']
    refine HT.seq ?_
    refine HT.cond' ?_   -- if 52
    simp (disch := first | omega | (simp <;> omega) | fail) [wrap_i64, wrap_u64, wrap_u8']
    refine ⟨fun h52 => ?_, fun h52 => ?_⟩
    · skip
      have hk' : k < (haveV l (ofV t)[0]).length := by omega
      have hmem := have_sub l (ofV t)[0] _ (List.getElem_mem hk')
      have hxk := hx _ hmem
      have hfl := find29_len (haveV l (ofV t)[0]) t k
      have hats := fun c => atsV_seg hl c hmem
      have hcd := cand_doc (t := t) hxk h3
      have hGB := glV_GB ht hxk
      refine HT.skip ?_
      simp (disch := first | omega | (simp <;> omega) | fail) [wrap_i64, wrap_u64, wrap_u8']
      refine HT.seq ?_
      refine HT.block ?_
      refine HT.seq ?_
      refine HT.region ?_   -- R14
      simp (disch := first | omega | (simp <;> omega) | fail) [wrap_i64, wrap_u64, wrap_u8']
      refine HT.seq ?_
      refine HT.region ?_   -- R15
      simp (disch := first | omega | (simp <;> omega) | fail) [wrap_i64, wrap_u64, wrap_u8']
      refine HT.weaken (HS.le_own (t := 12) 201 67 2 _ (by decide) rfl (by decide)) ?_
      refine HT.seq ?_
      refine HT.seq ?_
      refine HT.region ?_   -- R16
      simp (disch := first | omega | (simp <;> omega) | fail) [wrap_i64, wrap_u64, wrap_u8']
      refine HT.block ?_
      refine HT.loopK (fun j : {j : Nat // j ≤ (ofV t).length} => [.s 57 (i64 j), .s 12 (.ref 201), .o 201 (.row 67 2 (gramsHV ((glV t (haveV l (ofV t)[0])[k]).take j)))]) [1, 2, 5, 9, 11, 49, 50, 51, 55, 56, 79, 80, 81] [2, 200] (fun j => (ofV t).length - j) (⟨0, by omega⟩) ?_ ?_   -- block 4 turned [12, 57]
      · simp (disch := first | omega | (simp <;> omega) | fail) [wrap_i64, wrap_u64, wrap_u8']
      rintro ⟨j, hj⟩
      simp (disch := first | omega | (simp <;> omega) | fail) [wrap_i64, wrap_u64, wrap_u8']
      refine HT.seq ?_
      refine HT.region ?_   -- R17
      simp (disch := first | omega | (simp <;> omega) | fail) [wrap_i64, wrap_u64, wrap_u8']
      refine HT.seq ?_
      refine HT.cond' ?_   -- if 58
      simp (disch := first | omega | (simp <;> omega) | fail) [wrap_i64, wrap_u64, wrap_u8']
      refine ⟨fun h58 => ?_, fun h58 => ?_⟩
      · skip
        have hj' : j < (ofV t).length := by omega
        refine HT.skip ?_
        simp (disch := first | omega | (simp <;> omega) | fail) [wrap_i64, wrap_u64, wrap_u8']
        refine HT.seq ?_
        refine HT.block ?_
        refine HT.seq ?_
        refine HT.region ?_   -- R18
        simp (disch := first | omega | (simp <;> omega) | fail) [wrap_i64, wrap_u64, wrap_u8']
        refine HT.region ?_   -- R19
        simp (disch := first | omega | (simp <;> omega) | fail) [wrap_i64, wrap_u64, wrap_u8']
        refine stepK.mk (.call1f _ _ _ _ _ rfl Ty.hb25 rfl rfl (At_seg (segV l) (ofV t)[j] (haveV l (ofV t)[0])[k].id hT) rfl) ?_
        simp (disch := first | omega | (simp <;> omega) | fail) [wrap_i64, wrap_u64, wrap_u8', show (segV l).grams = gramsOf l from rfl, hats]
        refine HT.region ?_   -- R20
        simp (disch := first | omega | (simp <;> omega) | fail) [wrap_i64, wrap_u64, wrap_u8']
        refine Round.mk' (⟨j + 1, by omega⟩) (by dsimp only; omega) rfl ?_
        simp (disch := first | omega | (simp <;> omega) | fail) [wrap_i64, wrap_u64, wrap_u8', glV_succ t _ hj', show (segV l).grams = gramsOf l from rfl]
      · skip
        obtain rfl : j = (ofV t).length := by omega
        refine HT.exit ?_
        simp (disch := first | omega | (simp <;> omega) | fail) [wrap_i64, wrap_u64, wrap_u8']
        refine HT.weaken (HS.le_frzref (id := 201) (xr := .sl 2 false (gramsHV (glV t (haveV l (ofV t)[0])[k]))) (xm := .any) (by simp [glV_all])) ?_
        refine HT.seq ?_
        refine HT.region ?_   -- R21
        simp (disch := first | omega | (simp <;> omega) | fail) [wrap_i64, wrap_u64, wrap_u8']
        refine stepK.mk (.callTf _ _ _ _ _ rfl Ty.hb61 rfl rfl (Cand_spec false (glV t (haveV l (ofV t)[0])[k]) t hGB (by omega)) rfl) ?_
        simp (disch := first | omega | (simp <;> omega) | fail) [wrap_i64, wrap_u64, wrap_u8', show candV (glV t (haveV l (ofV t)[0])[k]) t = findV (foldS (haveV l (ofV t)[0])[k].text) (foldS t) from hcd, h3]
        refine HT.seq ?_
        refine HT.region ?_   -- R22
        simp (disch := first | omega | (simp <;> omega) | fail) [wrap_i64, wrap_u64, wrap_u8']
        refine HT.cond' ?_   -- if 82
        simp (disch := first | omega | (simp <;> omega) | fail) [wrap_i64, wrap_u64, wrap_u8']
        refine ⟨fun h82 => ?_, fun h82 => ?_⟩
        · skip
          have hne : ¬ findV (foldS (haveV l (ofV t)[0])[k].text) (foldS t) = [] := by intro e; simp [e] at h82
          refine HT.region ?_   -- R23
          simp (disch := first | omega | (simp <;> omega) | fail) [wrap_i64, wrap_u64, wrap_u8']
          refine HT.region ?_   -- R24
          simp (disch := first | omega | (simp <;> omega) | fail) [wrap_i64, wrap_u64, wrap_u8']
          refine Round.mk' (⟨k + 1, by omega⟩) (by dsimp only; omega) rfl ?_
          simp (disch := first | omega | (simp <;> omega) | fail) [wrap_i64, wrap_u64, wrap_u8', find29_snoc (haveV l (ofV t)[0]) t hk']
          all_goals first | (rw [if_neg hne]; done) | (rw [if_neg hne]; simp; done) | (rw [if_pos he]; done) | (rw [if_pos he]; simp; done)
        · skip
          have he : findV (foldS (haveV l (ofV t)[0])[k].text) (foldS t) = [] := by first | exact h82 | simpa using h82 | (apply List.eq_nil_of_length_eq_zero; omega)
          refine HT.skip ?_
          simp (disch := first | omega | (simp <;> omega) | fail) [wrap_i64, wrap_u64, wrap_u8']
          refine HT.region ?_   -- R24
          simp (disch := first | omega | (simp <;> omega) | fail) [wrap_i64, wrap_u64, wrap_u8']
          refine Round.mk' (⟨k + 1, by omega⟩) (by dsimp only; omega) rfl ?_
          simp (disch := first | omega | (simp <;> omega) | fail) [wrap_i64, wrap_u64, wrap_u8', find29_snoc (haveV l (ofV t)[0]) t hk']
          all_goals first | (rw [if_neg hne]; done) | (rw [if_neg hne]; simp; done) | (rw [if_pos he]; done) | (rw [if_pos he]; simp; done)
    · skip
      obtain rfl : k = (haveV l (ofV t)[0]).length := by omega
      refine HT.exit ?_
      simp (disch := first | omega | (simp <;> omega) | fail) [wrap_i64, wrap_u64, wrap_u8']
      refine HT.seq ?_
      refine HT.region ?_   -- R25
      simp (disch := first | omega | (simp <;> omega) | fail) [wrap_i64, wrap_u64, wrap_u8']
      refine HT.ret ?_
      simp (disch := first | omega | (simp <;> omega) | fail) [wrap_i64, wrap_u64, wrap_u8', find29_all, hfin]
def evalR (l : List Doc) (n : NeedT) : List Int := if validN n 1 = true then eval29 l n else []
theorem eval29_snoc (n : NeedT) {l : List Doc} {k : Nat} (hk : k < l.length) : eval29 (l.take (k + 1)) n = eval29 (l.take k) n ++ if holdsN n (ofV l[k].text) = true then [l[k].id] else [] := by
  unfold eval29
  rw [List.take_succ_eq_append_getElem hk, List.filter_append, List.map_append]
  congr 1
  by_cases h : holdsN n (ofV l[k].text) = true <;> simp [h]
theorem eval29_len (n : NeedT) (l : List Doc) (k : Nat) : (eval29 (l.take k) n).length ≤ l.length := by
  unfold eval29
  have h1 := List.length_filter_le (fun d : Doc => holdsN n (ofV d.text)) (l.take k)
  rw [List.length_take] at h1; rw [List.length_map]; omega
theorem eval29_all (n : NeedT) (l : List Doc) : eval29 (l.take l.length) n = eval29 l n := by rw [List.take_length]
end Go.Hv
set_option linter.unusedVariables false
set_option linter.unusedSimpArgs false
/- The law SegmentSizes, given alive (layer 29). -/
namespace Go.Hv
open Go Go.Hv Go.Proofs Go.RowKit
open Go.Proofs.YtlbmbnpknobjdaaGreatDoor
def sumT (l : List Doc) (k : Nat) : Nat := ((l.take k).map fun d => d.text.length - 2).sum
theorem sumT_zero (l : List Doc) : sumT l 0 = 0 := by simp [sumT]
theorem sumT_succ (l : List Doc) {k : Nat} (hk : k < l.length) : sumT l (k + 1) = sumT l k + (l[k].text.length - 2) := by
  unfold sumT
  rw [List.take_succ_eq_append_getElem hk, List.map_append, List.sum_append]
  simp
theorem sumT_all (l : List Doc) : sumT l l.length = sizeV (segV l).grams := by
  unfold sumT
  rw [List.take_length]
  exact (sizeV_seg l).symm
theorem sumT_le {l : List Doc} (h : ∀ d ∈ l, d.text.length ≤ 120) : ∀ k, k ≤ l.length → sumT l k ≤ k * 120
  | 0, _ => by simp [sumT_zero]
  | k + 1, hk => by
    have := sumT_le h k (by omega)
    rw [sumT_succ l (by omega)]
    have := h _ (List.getElem_mem (show k < l.length by omega))
    omega
theorem id_in {l : List Doc} {i k : Nat} (hi : i < l.length) (hk : k + 2 < l[i].text.length) : l[i].id ∈ docsV (segV l).grams (codeAt l[i].text k) := by
  rw [show (segV l).grams = gramsOf l from rfl, docsV_seg]
  refine List.mem_map.2 ⟨l[i], List.mem_filter.2 ⟨List.getElem_mem hi, ?_⟩, rfl⟩
  exact decide_eq_true ((offV_ne _ _).2 ((ofV_mem _ _).2 ⟨k, by omega, rfl⟩))
theorem at_in {l : List Doc} (hl : IncBy Doc.id l) {i k : Nat} (hi : i < l.length) (hk : k + 2 < l[i].text.length) : (k : Int) ∈ atsV (segV l).grams (codeAt l[i].text k) l[i].id := by
  rw [show (segV l).grams = gramsOf l from rfl, atsV_seg hl _ (List.getElem_mem hi)]
  unfold offV offK
  exact List.mem_map.2 ⟨k, List.mem_filter.2 ⟨List.mem_range.2 (by omega), by simp⟩, rfl⟩
set_option maxRecDepth 20000 in
set_option maxHeartbeats 8000000 in
theorem sizes_of (hA : Spec1 Tryz.prog 10 [] (bo true)) (l : List Doc) (hl : DocsB 140737488355328 l) : Spec1 Tryz.prog 8 [.sl 5 false (docsHV l)] (bo true) := by
  refine Spec1.of_HT Tryz.func8 rfl (by rw [Tryz.ntmps8]; simp) rfl ?_
  rw [Tryz.ntmps8]
  refine HT.seq ?_
  refine HT.region ?_   -- R0
  simp (disch := first | omega | (simp <;> omega) | fail) [wrap_i64, wrap_u64, wrap_u8']
  refine HT.seq ?_
  refine HT.seq ?_
  refine HT.region ?_   -- R1
  simp (disch := first | omega | (simp <;> omega) | fail) [wrap_i64, wrap_u64, wrap_u8']
  refine stepK.mk (.call1 _ _ _ _ rfl Ty.hb10 rfl (hA) rfl rfl) ?_
  simp (disch := first | omega | (simp <;> omega) | fail) [wrap_i64, wrap_u64, wrap_u8']
  refine HT.cond' ?_   -- if 11
  simp (disch := first | omega | (simp <;> omega) | fail) [wrap_i64, wrap_u64, wrap_u8']
  refine HT.skip ?_
  simp (disch := first | omega | (simp <;> omega) | fail) [wrap_i64, wrap_u64, wrap_u8']
  refine HT.seq ?_
  refine HT.seq ?_
  by_cases f : fewV l = false
  · skip
    refine HT.region ?_   -- R3
    simp (disch := first | omega | (simp <;> omega) | fail) [wrap_i64, wrap_u64, wrap_u8', f]
    refine stepK.mk (.call1f _ _ _ _ _ rfl Ty.hb11 rfl rfl (few_spec l hl.1 (docB_few hl)) rfl) ?_
    simp (disch := first | omega | (simp <;> omega) | fail) [wrap_i64, wrap_u64, wrap_u8', f]
    refine HT.cond' ?_   -- if 19
    simp (disch := first | omega | (simp <;> omega) | fail) [wrap_i64, wrap_u64, wrap_u8']
    refine HT.seq ?_
    refine HT.region ?_   -- R4
    simp (disch := first | omega | (simp <;> omega) | fail) [wrap_i64, wrap_u64, wrap_u8']
    refine HT.ret ?_
    simp (disch := first | omega | (simp <;> omega) | fail) [wrap_i64, wrap_u64, wrap_u8']
  rw [Bool.not_eq_false] at f
  by_cases r : ¬ rightV l = 0
  · skip
    refine HT.region ?_   -- R3
    simp (disch := first | omega | (simp <;> omega) | fail) [wrap_i64, wrap_u64, wrap_u8', f, r]
    refine stepK.mk (.call1f _ _ _ _ _ rfl Ty.hb11 rfl rfl (few_spec l hl.1 (docB_few hl)) rfl) ?_
    simp (disch := first | omega | (simp <;> omega) | fail) [wrap_i64, wrap_u64, wrap_u8', f, r]
    refine stepK.mk (.call1f _ _ _ _ _ rfl Ty.hb21 rfl rfl (refRight_spec l hl) rfl) ?_
    simp (disch := first | omega | (simp <;> omega) | fail) [wrap_i64, wrap_u64, wrap_u8', f, r]
    refine HT.cond' ?_   -- if 19
    simp (disch := first | omega | (simp <;> omega) | fail) [wrap_i64, wrap_u64, wrap_u8']
    refine HT.seq ?_
    refine HT.region ?_   -- R4
    simp (disch := first | omega | (simp <;> omega) | fail) [wrap_i64, wrap_u64, wrap_u8']
    refine HT.ret ?_
    simp (disch := first | omega | (simp <;> omega) | fail) [wrap_i64, wrap_u64, wrap_u8']
  rw [Classical.not_not] at r
  have hb := build_yes r
  have hT := seg_T r
  have hz := seg_size r
  have hft := few_text f
  refine HT.region ?_   -- R3
  simp (disch := first | omega | (simp <;> omega) | fail) [wrap_i64, wrap_u64, wrap_u8', f, r]
  refine stepK.mk (.call1f _ _ _ _ _ rfl Ty.hb11 rfl rfl (few_spec l hl.1 (docB_few hl)) rfl) ?_
  simp (disch := first | omega | (simp <;> omega) | fail) [wrap_i64, wrap_u64, wrap_u8', f, r]
  refine stepK.mk (.call1f _ _ _ _ _ rfl Ty.hb21 rfl rfl (refRight_spec l hl) rfl) ?_
  simp (disch := first | omega | (simp <;> omega) | fail) [wrap_i64, wrap_u64, wrap_u8', f, r]
  refine HT.cond' ?_   -- if 19
  simp (disch := first | omega | (simp <;> omega) | fail) [wrap_i64, wrap_u64, wrap_u8']
  refine HT.skip ?_
  simp (disch := first | omega | (simp <;> omega) | fail) [wrap_i64, wrap_u64, wrap_u8']
  refine HT.seq ?_
  refine HT.region ?_   -- R5
  simp (disch := first | omega | (simp <;> omega) | fail) [wrap_i64, wrap_u64, wrap_u8']
  refine stepK.mk (.callTf _ _ _ _ _ rfl Ty.hb12 rfl rfl (Build_spec l hl) rfl) ?_
  simp (disch := first | omega | (simp <;> omega) | fail) [wrap_i64, wrap_u64, wrap_u8', hb]
  refine HT.seq ?_
  refine HT.region ?_   -- R6
  simp (disch := first | omega | (simp <;> omega) | fail) [wrap_i64, wrap_u64, wrap_u8']
  refine HT.seq ?_
  refine HT.seq ?_
  refine HT.region ?_   -- R7
  simp (disch := first | omega | (simp <;> omega) | fail) [wrap_i64, wrap_u64, wrap_u8']
  refine HT.block ?_
  refine HT.loopK (fun i : {i : Nat // i ≤ l.length} => [.s 6 (i64 i), .s 5 (i64 (sumT l i))]) [0, 3, 4, 83, 84, 85, 86] [3] (fun i => l.length - i) (⟨0, by omega⟩) ?_ ?_   -- block 0 turned [5, 6, 66, 67, 68, 69, 70, 71, 72, 73, 74, 75, 76]
  · simp (disch := first | omega | (simp <;> omega) | fail) [wrap_i64, wrap_u64, wrap_u8', sumT_zero]
  rintro ⟨i, hi⟩
  simp (disch := first | omega | (simp <;> omega) | fail) [wrap_i64, wrap_u64, wrap_u8']
  refine HT.seq ?_
  refine HT.seq ?_
  refine HT.region ?_   -- R8
  simp (disch := first | omega | (simp <;> omega) | fail) [wrap_i64, wrap_u64, wrap_u8']
  refine HT.cond' ?_   -- if 28
  simp (disch := first | omega | (simp <;> omega) | fail) [wrap_i64, wrap_u64, wrap_u8']
  refine ⟨fun h28 => ?_, fun h28 => ?_⟩
  · skip
    have hi' : i < l.length := by omega
    have htx := hft.2 _ (List.getElem_mem hi')
    have hsm := sumT_le hft.2 i (by omega)
    refine HT.skip ?_
    simp (disch := first | omega | (simp <;> omega) | fail) [wrap_i64, wrap_u64, wrap_u8']
    refine HT.seq ?_
    refine HT.block ?_
    refine HT.seq ?_
    refine HT.region ?_   -- R10
    simp (disch := first | omega | (simp <;> omega) | fail) [wrap_i64, wrap_u64, wrap_u8']
    refine HT.block ?_
    refine HT.loopK (fun k : {k : Nat // k ≤ l[i].text.length - 2} => [.s 7 (i64 k), .s 5 (i64 ((sumT l i : Int) + k))]) [0, 3, 4, 6, 83, 84, 85, 86] [3] (fun k => l[i].text.length - k) (⟨0, by omega⟩) ?_ ?_   -- block 2 turned [5, 7, 66, 67, 68, 69, 70, 71, 72, 73, 74, 75, 76]
    · simp (disch := first | omega | (simp <;> omega) | fail) [wrap_i64, wrap_u64, wrap_u8']
    rintro ⟨k, hk⟩
    simp (disch := first | omega | (simp <;> omega) | fail) [wrap_i64, wrap_u64, wrap_u8']
    refine HT.seq ?_
    refine HT.seq ?_
    refine HT.region ?_   -- R11
    simp (disch := first | omega | (simp <;> omega) | fail) [wrap_i64, wrap_u64, wrap_u8']
    refine HT.cond' ?_   -- if 39
    simp (disch := first | omega | (simp <;> omega) | fail) [wrap_i64, wrap_u64, wrap_u8']
    refine ⟨fun h39 => ?_, fun h39 => ?_⟩
    · skip
      have hk' : k + 3 ≤ l[i].text.length := by omega
      have hcu := codeV_cut hk'
      have hcu3 := cut3_length hk'
      have hid := id_in (l := l) hi' (show k + 2 < l[i].text.length by omega)
      have hat := at_in (right_inc r) hi' (show k + 2 < l[i].text.length by omega)
      have hdl := dcsV_le hT.1 (codeAt l[i].text k)
      have hal := atsV_len hT (codeAt l[i].text k) l[i].id
      refine HT.skip ?_
      simp (disch := first | omega | (simp <;> omega) | fail) [wrap_i64, wrap_u64, wrap_u8']
      refine HT.seq ?_
      refine HT.block ?_
      refine HT.seq ?_
      refine HT.region ?_   -- R13
      simp (disch := first | omega | (simp <;> omega) | fail) [wrap_i64, wrap_u64, wrap_u8', hcu, hcu3]
      refine stepK.mk (.callTf _ _ _ _ _ rfl Ty.hb34 rfl rfl (refCode_spec (List.drop k (List.take (k + 3) l[i].text)) (by simp; omega)) rfl) ?_
      simp (disch := first | omega | (simp <;> omega) | fail) [wrap_i64, wrap_u64, wrap_u8', hcu, hcu3]
      refine HT.seq ?_
      refine HT.seq ?_
      refine HT.draw [.batch [0, 1, 2, 3, 4, 5, 6, 7, 8, 9, 10, 11, 12, 13, 14, 15, 16, 17, 18, 19, 20, 21, 22]] (by kernel_rfl) ?_   -- R14
      simp -dsimp (disch := first | omega | (simp <;> omega) | fail) [wrap_i64, wrap_u64, wrap_u8', hid, hat]
      refine stepK.mk (.call1 _ _ _ rfl Ty.hb23 rfl rfl (Docs_spec (segV l) (codeAt l[i].text k) hT.1)) ?_
      simp -dsimp (disch := first | omega | (simp <;> omega) | fail) [wrap_i64, wrap_u64, wrap_u8', hid, hat]
      refine stepK.mk (.call1 _ _ _ rfl Ty.hb35 rfl rfl (In_spec false (docsV (segV l).grams (codeAt l[i].text k)) l[i].id (by unfold docsV; rw [List.length_map]; omega))) ?_
      simp -dsimp (disch := first | omega | (simp <;> omega) | fail) [wrap_i64, wrap_u64, wrap_u8', hid, hat]
      refine stepK.mk (.call1 _ _ _ rfl Ty.hb25 rfl rfl (At_seg (segV l) (codeAt l[i].text k) l[i].id hT)) ?_
      simp -dsimp (disch := first | omega | (simp <;> omega) | fail) [wrap_i64, wrap_u64, wrap_u8', hid, hat]
      refine stepK.mk (.call1 _ _ _ rfl Ty.hb35 rfl rfl (In_spec false (atsV (segV l).grams (codeAt l[i].text k) l[i].id) k (by omega))) ?_
      simp -dsimp (disch := first | omega | (simp <;> omega) | fail) [wrap_i64, wrap_u64, wrap_u8', hid, hat]
      refine HT.cond' ?_   -- if 77
      simp (disch := first | omega | (simp <;> omega) | fail) [wrap_i64, wrap_u64, wrap_u8']
      refine HT.skip ?_
      simp (disch := first | omega | (simp <;> omega) | fail) [wrap_i64, wrap_u64, wrap_u8']
      refine HT.region ?_   -- R16
      simp (disch := first | omega | (simp <;> omega) | fail) [wrap_i64, wrap_u64, wrap_u8']
      refine HT.region ?_   -- R12
      simp (disch := first | omega | (simp <;> omega) | fail) [wrap_i64, wrap_u64, wrap_u8']
      refine Round.mk' (⟨k + 1, by omega⟩) (by dsimp only; omega) rfl ?_
      simp (disch := first | omega | (simp <;> omega) | fail) [wrap_i64, wrap_u64, wrap_u8']
      try omega
    · skip
      obtain rfl : k = l[i].text.length - 2 := by omega
      refine HT.exit ?_
      simp (disch := first | omega | (simp <;> omega) | fail) [wrap_i64, wrap_u64, wrap_u8']
      refine HT.region ?_   -- R9
      simp (disch := first | omega | (simp <;> omega) | fail) [wrap_i64, wrap_u64, wrap_u8']
      refine Round.mk' (⟨i + 1, by omega⟩) (by dsimp only; omega) rfl ?_
      simp (disch := first | omega | (simp <;> omega) | fail) [wrap_i64, wrap_u64, wrap_u8', sumT_succ l hi']
  · skip
    obtain rfl : i = l.length := by omega
    refine HT.exit ?_
    simp (disch := first | omega | (simp <;> omega) | fail) [wrap_i64, wrap_u64, wrap_u8']
    refine HT.seq ?_
    refine HT.region ?_   -- R17
    simp (disch := first | omega | (simp <;> omega) | fail) [wrap_i64, wrap_u64, wrap_u8']
    refine stepK.mk (.call1f _ _ _ _ _ rfl Ty.hb16 rfl rfl (Size_spec (segV l) hT.1.1 hT.1.2.2 hz) rfl) ?_
    simp (disch := first | omega | (simp <;> omega) | fail) [wrap_i64, wrap_u64, wrap_u8', sumT_all]
    refine HT.ret ?_
    simp (disch := first | omega | (simp <;> omega) | fail) [wrap_i64, wrap_u64, wrap_u8']
end Go.Hv
set_option linter.unusedVariables false
set_option linter.unusedSimpArgs false
/- Eval of a segment, walked (layer 29). -/
namespace Go.Hv
open Go Go.Hv Go.Proofs Go.RowKit
open Go.Proofs.YtlbmbnpknobjdaaGreatDoor
def rowQ (p : List (Int × Int)) (i : Nat) : HObj := .row 3 1 (intsHV (gatI p ((fI p).getD i 0)))
theorem fI_snoc_get (p : List (Int × Int)) (c g : Int) {i : Nat} (hi : i < (fI p).length) : (fI (p ++ [(c, g)]))[i]? = (fI p)[i]? := by
  rw [fI_snoc]; unfold adK
  split
  · rfl
  · rw [List.getElem?_append_left hi]
theorem rowQ_same {p : List (Int × Int)} {c g : Int} {i : Nat} (hi : i < (fI p).length) (hne : (fI p)[i]? ≠ some c) : rowQ (p ++ [(c, g)]) i = rowQ p i := by
  unfold rowQ
  rw [List.getD_eq_getElem?_getD, List.getD_eq_getElem?_getD, fI_snoc_get p c g hi, List.getElem?_eq_getElem hi, gatI_snoc, if_neg, List.append_nil]
  rw [List.getElem?_eq_getElem hi] at hne
  intro h
  exact hne (by rw [h]; rfl)
theorem rowQ_hit {p : List (Int × Int)} {c g : Int} {i : Nat} (he : (fI (p ++ [(c, g)]))[i]? = some c) : rowQ (p ++ [(c, g)]) i = .row 3 1 (intsHV (gatI p c ++ [g])) := by
  unfold rowQ
  rw [List.getD_eq_getElem?_getD, he, gatI_snoc]
  simp
theorem isIM_fentsQ (p : List (Int × Int)) (ks : List Int) : isIM (fents eI (fun k => HV.sl 1 false (intsHV (gatI p k))) ks) = true := isIM_fents _ _ _ (fun _ => rfl)
theorem fents_keys {K : Type} (enc g : K → HV) (ks : List K) : (fents enc g ks).map (·.1) = ks.map enc := by simp [fents]
theorem find_fents (p : List (Int × Int)) (c : Int) (ks : List Int) : findHV Tryz.prog 3 (.lit (.int .i64 c)) (fents eI (fun k => HV.sl 1 false (intsHV (gatI p k))) ks) 0 = some (if c ∈ ks then some (ks.idxOf c, .sl 1 false (intsHV (gatI p c))) else none) := by
  have h := findHV_of (P := Tryz.prog) eI_eq c (fents eI (fun k => HV.sl 1 false (intsHV (gatI p k))) ks) ks 0 (fents_keys _ _ _)
  rw [show HV.lit (.int .i64 c) = eI c from rfl, h]
  split
  · next hc =>
    have hlt := List.idxOf_lt_length_iff.2 hc
    rw [List.getD_eq_getElem?_getD, fents_get, List.getElem?_eq_getElem hlt]
    simp [List.getElem_idxOf hlt]
  · rfl
theorem pJ_le {g : List Post} {P : Post} (h : ∀ p ∈ g, p.docs.length ≤ 64) (hg : g.length ≤ 128000) (hP : P.docs.length ≤ 64) (k j : Nat) : (pJ g P k j).length ≤ 9000000 := by
  unfold pJ
  rw [List.length_append]
  have h1 := evQ_length (g := g.take k) (m := 64) fun p hp => h p (List.mem_of_mem_take hp)
  have h2 : ((evP P).take j).length ≤ P.docs.length := by rw [List.length_take]; simp [evP]; omega
  have h3 : (g.take k).length ≤ g.length := by rw [List.length_take]; omega
  omega
set_option maxRecDepth 20000 in
set_option maxHeartbeats 8000000 in
theorem Eval_seg (l : List Doc) (n : NeedT) (hl : IncBy Doc.id l) (h64 : l.length ≤ 64) (hx : ∀ d ∈ l, d.text.length ≤ 900) (hb : NeedB 140737488355328 n) (hg1 : (gramsOf l).length ≤ 128000) (hg2 : ∀ p ∈ gramsOf l, p.docs.length ≤ 64) : Spec1 Tryz.prog 31 [.agg (segV l).enc, .agg (needC n)] (.sl 1 false (intsHV (evalR l n))) := by
  have hEl := evQ_length hg2
  have hEl2 : (evQ (gramsOf l)).length ≤ 8192000 := by omega
  refine Spec1.of_HT Tryz.func31 rfl (by rw [Tryz.ntmps31]; simp) rfl ?_
  rw [Tryz.ntmps31]
  refine HT.seq ?_
  refine HT.region ?_   -- R0
  simp (disch := first | omega | (simp <;> omega) | fail) [wrap_i64, wrap_u64, wrap_u8', eI, subM_kents_lo, eq_lo, eq_lo', show (segV l).docs = l from rfl, show (segV l).grams = gramsOf l from rfl]
  refine HT.seq ?_
  refine HT.seq ?_
  by_cases hv : validN n 1 = false
  · skip
    refine HT.region ?_   -- R1
    simp (disch := first | omega | (simp <;> omega) | fail) [wrap_i64, wrap_u64, wrap_u8', eI, subM_kents_lo, eq_lo, eq_lo', show (segV l).docs = l from rfl, show (segV l).grams = gramsOf l from rfl, hv]
    refine stepK.mk (.call1f _ _ _ _ _ rfl Ty.hb63 rfl rfl (Rright_spec n hb) rfl) ?_
    simp (disch := first | omega | (simp <;> omega) | fail) [wrap_i64, wrap_u64, wrap_u8', eI, subM_kents_lo, eq_lo, eq_lo', show (segV l).docs = l from rfl, show (segV l).grams = gramsOf l from rfl, hv]
    refine HT.cond' ?_   -- if 15
    simp (disch := first | omega | (simp <;> omega) | fail) [wrap_i64, wrap_u64, wrap_u8', eI, subM_kents_lo, eq_lo, eq_lo', show (segV l).docs = l from rfl, show (segV l).grams = gramsOf l from rfl]
    refine HT.seq ?_
    refine HT.region ?_   -- R2
    simp (disch := first | omega | (simp <;> omega) | fail) [wrap_i64, wrap_u64, wrap_u8', eI, subM_kents_lo, eq_lo, eq_lo', show (segV l).docs = l from rfl, show (segV l).grams = gramsOf l from rfl]
    refine HT.weaken (HS.le_wk 4 (.sl 1 false []) (by decide) rfl rfl (HLe.nilf 0 1 true)) ?_
    refine HT.ret ?_
    simp (disch := first | omega | (simp <;> omega) | fail) [wrap_i64, wrap_u64, wrap_u8', eI, subM_kents_lo, eq_lo, eq_lo', show (segV l).docs = l from rfl, show (segV l).grams = gramsOf l from rfl, evalR, hv]
  rw [Bool.not_eq_false] at hv
  refine HT.region ?_   -- R1
  simp (disch := first | omega | (simp <;> omega) | fail) [wrap_i64, wrap_u64, wrap_u8', eI, subM_kents_lo, eq_lo, eq_lo', show (segV l).docs = l from rfl, show (segV l).grams = gramsOf l from rfl, hv]
  refine stepK.mk (.call1f _ _ _ _ _ rfl Ty.hb63 rfl rfl (Rright_spec n hb) rfl) ?_
  simp (disch := first | omega | (simp <;> omega) | fail) [wrap_i64, wrap_u64, wrap_u8', eI, subM_kents_lo, eq_lo, eq_lo', show (segV l).docs = l from rfl, show (segV l).grams = gramsOf l from rfl, hv]
  refine HT.cond' ?_   -- if 15
  simp (disch := first | omega | (simp <;> omega) | fail) [wrap_i64, wrap_u64, wrap_u8', eI, subM_kents_lo, eq_lo, eq_lo', show (segV l).docs = l from rfl, show (segV l).grams = gramsOf l from rfl]
  refine HT.skip ?_
  simp (disch := first | omega | (simp <;> omega) | fail) [wrap_i64, wrap_u64, wrap_u8', eI, subM_kents_lo, eq_lo, eq_lo', show (segV l).docs = l from rfl, show (segV l).grams = gramsOf l from rfl]
  refine HT.seq ?_
  refine HT.region ?_   -- R3
  simp (disch := first | omega | (simp <;> omega) | fail) [wrap_i64, wrap_u64, wrap_u8', eI, subM_kents_lo, eq_lo, eq_lo', show (segV l).docs = l from rfl, show (segV l).grams = gramsOf l from rfl]
  refine HT.seq ?_
  refine HT.seq ?_
  refine HT.region ?_   -- R4
  simp (disch := first | omega | (simp <;> omega) | fail) [wrap_i64, wrap_u64, wrap_u8', eI, subM_kents_lo, eq_lo, eq_lo', show (segV l).docs = l from rfl, show (segV l).grams = gramsOf l from rfl]
  refine HT.block ?_
  refine HT.loopK (fun k : {k : Nat // k ≤ (gramsOf l).length} => [.s 20 (i64 k), .o 16 (.map (kents eI 1000 (fI (evQ ((gramsOf l).take k))))), .os (fam 1000 (fI (evQ ((gramsOf l).take k))).length (rowQ (evQ ((gramsOf l).take k))))]) [2, 3, 5, 18, 19] [2, 3] (fun k => (gramsOf l).length - k) (⟨0, by omega⟩) ?_ ?_   -- block 0 turned [20]
  · skip
    simp (disch := first | omega | (simp <;> omega) | fail) [wrap_i64, wrap_u64, wrap_u8', eI, subM_kents_lo, eq_lo, eq_lo', show (segV l).docs = l from rfl, show (segV l).grams = gramsOf l from rfl, show fI (evQ []) = [] from rfl]
    intro id o h
    obtain ⟨i, hi, _⟩ := fam_some h
    exact absurd hi (Nat.not_lt_zero _)
  rintro ⟨k, hk⟩
  simp (disch := first | omega | (simp <;> omega) | fail) [wrap_i64, wrap_u64, wrap_u8', eI, subM_kents_lo, eq_lo, eq_lo', show (segV l).docs = l from rfl, show (segV l).grams = gramsOf l from rfl]
  refine HT.seq ?_
  refine HT.region ?_   -- R5
  simp (disch := first | omega | (simp <;> omega) | fail) [wrap_i64, wrap_u64, wrap_u8', eI, subM_kents_lo, eq_lo, eq_lo', show (segV l).docs = l from rfl, show (segV l).grams = gramsOf l from rfl]
  refine HT.seq ?_
  refine HT.cond' ?_   -- if 21
  simp (disch := first | omega | (simp <;> omega) | fail) [wrap_i64, wrap_u64, wrap_u8', eI, subM_kents_lo, eq_lo, eq_lo', show (segV l).docs = l from rfl, show (segV l).grams = gramsOf l from rfl]
  refine ⟨fun h21 => ?_, fun h21 => ?_⟩
  · skip
    have hk' : k < (gramsOf l).length := by omega
    have hpd := hg2 _ (List.getElem_mem hk')
    refine HT.skip ?_
    simp (disch := first | omega | (simp <;> omega) | fail) [wrap_i64, wrap_u64, wrap_u8', eI, subM_kents_lo, eq_lo, eq_lo', show (segV l).docs = l from rfl, show (segV l).grams = gramsOf l from rfl]
    refine HT.seq ?_
    refine HT.block ?_
    refine HT.seq ?_
    refine HT.region ?_   -- R6
    simp (disch := first | omega | (simp <;> omega) | fail) [wrap_i64, wrap_u64, wrap_u8', eI, subM_kents_lo, eq_lo, eq_lo', show (segV l).docs = l from rfl, show (segV l).grams = gramsOf l from rfl]
    refine HT.seq ?_
    refine HT.region ?_   -- R7
    simp (disch := first | omega | (simp <;> omega) | fail) [wrap_i64, wrap_u64, wrap_u8', eI, subM_kents_lo, eq_lo, eq_lo', show (segV l).docs = l from rfl, show (segV l).grams = gramsOf l from rfl]
    refine HT.block ?_
    refine HT.loopK (fun j : {j : Nat // j ≤ (gramsOf l)[k].docs.length} => [.s 27 (i64 j), .o 16 (.map (kents eI 1000 (fI (pJ (gramsOf l) (gramsOf l)[k] k j)))), .os (fam 1000 (fI (pJ (gramsOf l) (gramsOf l)[k] k j)).length (rowQ (pJ (gramsOf l) (gramsOf l)[k] k j)))]) [2, 3, 5, 7, 18, 19, 20, 25, 26] [2, 3, 7] (fun j => (gramsOf l)[k].docs.length - j) (⟨0, by omega⟩) ?_ ?_   -- block 2 turned [27]
    · skip
      simp (disch := first | omega | (simp <;> omega) | fail) [wrap_i64, wrap_u64, wrap_u8', eI, subM_kents_lo, eq_lo, eq_lo', show (segV l).docs = l from rfl, show (segV l).grams = gramsOf l from rfl, pJ_zero]
      intro id o h
      obtain ⟨i, hi, rfl, rfl⟩ := fam_some h
      simp (disch := first | omega | (simp <;> omega) | fail) [wrap_i64, wrap_u64, wrap_u8', eI, subM_kents_lo, eq_lo, eq_lo', show (segV l).docs = l from rfl, show (segV l).grams = gramsOf l from rfl, fam_at hi, rowQ]
    rintro ⟨j, hj⟩
    simp (disch := first | omega | (simp <;> omega) | fail) [wrap_i64, wrap_u64, wrap_u8', eI, subM_kents_lo, eq_lo, eq_lo', show (segV l).docs = l from rfl, show (segV l).grams = gramsOf l from rfl]
    refine HT.seq ?_
    refine HT.region ?_   -- R8
    simp (disch := first | omega | (simp <;> omega) | fail) [wrap_i64, wrap_u64, wrap_u8', eI, subM_kents_lo, eq_lo, eq_lo', show (segV l).docs = l from rfl, show (segV l).grams = gramsOf l from rfl]
    refine HT.seq ?_
    refine HT.cond' ?_   -- if 28
    simp (disch := first | omega | (simp <;> omega) | fail) [wrap_i64, wrap_u64, wrap_u8', eI, subM_kents_lo, eq_lo, eq_lo', show (segV l).docs = l from rfl, show (segV l).grams = gramsOf l from rfl]
    refine ⟨fun h28 => ?_, fun h28 => ?_⟩
    · skip
      have hj' : j < (gramsOf l)[k].docs.length := by omega
      refine HT.skip ?_
      simp (disch := first | omega | (simp <;> omega) | fail) [wrap_i64, wrap_u64, wrap_u8', eI, subM_kents_lo, eq_lo, eq_lo', show (segV l).docs = l from rfl, show (segV l).grams = gramsOf l from rfl]
      refine HT.seq ?_
      refine HT.block ?_
      refine HT.seq ?_
      refine HT.region ?_   -- R9
      simp (disch := first | omega | (simp <;> omega) | fail) [wrap_i64, wrap_u64, wrap_u8', eI, subM_kents_lo, eq_lo, eq_lo', show (segV l).docs = l from rfl, show (segV l).grams = gramsOf l from rfl]
      have hp1 := pJ_succ (gramsOf l) (gramsOf l)[k] k hj'
      have hpl : (pJ (gramsOf l) (gramsOf l)[k] k j).length ≤ 9000000 := pJ_le hg2 hg1 hpd k j
      have hfl := fI_length (pJ (gramsOf l) (gramsOf l)[k] k j)
      generalize (gramsOf l)[k].docs[j] = g at *
      generalize pJ (gramsOf l) (gramsOf l)[k] k j = p at *
      by_cases cf : g.code ∈ fI p
      · skip
        have hlt := List.idxOf_lt_length_iff.2 cf
        have e1 : fI (p ++ [(g.code, (gramsOf l)[k].code)]) = fI p := by rw [fI_snoc, adK, if_pos cf]
        have hb1 := gatI_length p g.code
        have hgd : rowQ p ((fI p).idxOf g.code) = .row 3 1 (intsHV (gatI p g.code)) := by
          unfold rowQ; rw [List.getD_eq_getElem?_getD, List.getElem?_eq_getElem hlt, List.getElem_idxOf hlt]; rfl
        have hf1 : findHV Tryz.prog 3 (.lit (.int .i64 g.code)) (kents eI 1000 (fI p)) 0 = some (some ((fI p).idxOf g.code, .ref (1000 + (fI p).idxOf g.code))) := by
          have := find_kents (P := Tryz.prog) eI_eq 1000 g.code (fI p); rw [if_pos cf] at this; exact this
        have hs1 : subM (1000 + (fI p).idxOf g.code) .any .any (kents eI 1000 (fI p)) = (kents eI 1000 (fI p)).set ((fI p).idxOf g.code) (.lit (.int .i64 g.code), .any) := subM_kents_at cf
        have hf2 : findHV Tryz.prog 3 (.lit (.int .i64 g.code)) ((kents eI 1000 (fI p)).set ((fI p).idxOf g.code) (.lit (.int .i64 g.code), .any)) 0 = some (some ((fI p).idxOf g.code, .any)) := find_kents_set eI_eq 1000 (fI p) cf .any
        have hgg1 : ((kents eI 1000 (fI p)).set ((fI p).idxOf g.code) (.lit (.int .i64 g.code), .any))[(fI p).idxOf g.code]? = some (.lit (.int .i64 g.code), .any) := kents_set_get (enc := eI) 1000 cf .any
        have hb2 : (kents eI 1000 (fI p)).set ((fI p).idxOf g.code) (.lit (.int .i64 g.code), .ref (1000 + (fI p).idxOf g.code)) = kents eI 1000 (fI p) := kents_back (enc := eI) 1000 cf
        generalize hvv : (gramsOf l)[k].code = v at *
        refine HT.drawT (.pre (.take 0) (.pre (.take 3) (.till [4, 5, 6, 7, 8, 9] [1, 2] (fun r => match r with | 0 => .alt [1, 10] (fun i => match i with | 1 => .alt [2, 10] (fun i => match i with | 2 => .lin [.one 10, .one 11] | _ => .lin [.one 2, .one 11]) | _ => .lin [.batch [1, 2], .one 11]) | 1 => .alt [2, 10] (fun i => match i with | 2 => .lin [.one 10, .one 11] | _ => .lin [.one 2, .one 11]) | _ => .lin [.one 10, .one 11])))) (by kernel_rfl) ?_   -- R10
        simp (disch := first | omega | (simp <;> omega) | fail) [wrap_i64, wrap_u64, wrap_u8', eI, subM_kents_lo, eq_lo, eq_lo', show (segV l).docs = l from rfl, show (segV l).grams = gramsOf l from rfl, hf1, hs1, hf2, hgg1, hb2, hgd, fam_at hlt, hvv]
        repeat' refine And.intro ?_ ?_
        all_goals
          skip
          refine HT.region ?_   -- R11
          simp (disch := first | omega | (simp <;> omega) | fail) [wrap_i64, wrap_u64, wrap_u8', eI, subM_kents_lo, eq_lo, eq_lo', show (segV l).docs = l from rfl, show (segV l).grams = gramsOf l from rfl]
          refine Round.mk' (⟨j + 1, by omega⟩) (by dsimp only; omega) rfl ?_
          simp (disch := first | omega | (simp <;> omega) | fail) [wrap_i64, wrap_u64, wrap_u8', eI, subM_kents_lo, eq_lo, eq_lo', show (segV l).docs = l from rfl, show (segV l).grams = gramsOf l from rfl, hp1]
          first
          | (have e2 : (fI (p ++ [(g.code, v)]))[(fI p).idxOf g.code]? = some g.code := by rw [e1, List.getElem?_eq_getElem hlt, List.getElem_idxOf]
             refine ⟨by rw [e1], fun id o h => ?_⟩
             rw [e1] at h
             obtain ⟨i, hi, rfl, rfl⟩ := fam_some h
             by_cases e : (fI p).idxOf g.code = i
             · subst e
               simp (disch := first | omega | (simp <;> omega) | fail) [wrap_i64, wrap_u64, wrap_u8', eI, subM_kents_lo, eq_lo, eq_lo', show (segV l).docs = l from rfl, show (segV l).grams = gramsOf l from rfl, rowQ_hit e2]
             · have hne : (fI p)[i]? ≠ some g.code := fun h' => e (by
                 have hi2 := List.getElem?_eq_getElem hi
                 rw [hi2] at h'
                 have := (fI_nodup p).idxOf_getElem i hi
                 rw [Option.some.inj h'] at this
                 exact this)
               rw [rowQ_same hi hne]
               simp (disch := first | omega | (simp <;> omega) | fail) [wrap_i64, wrap_u64, wrap_u8', eI, subM_kents_lo, eq_lo, eq_lo', show (segV l).docs = l from rfl, show (segV l).grams = gramsOf l from rfl, fam_at hi, rowQ, e])
          | (have hs2 : subM (1000 + (fI p).length) .any .any (kents eI 1000 (fI p)) = kents eI 1000 (fI p) := subM_kents_out (.inr (Nat.le_refl _))
             have hs3 : subM 41 (.ref (1000 + (fI p).length)) (.mref (1000 + (fI p).length)) (kents eI 1000 (fI p)) = kents eI 1000 (fI p) := subM_kents_out (.inl (by decide))
             refine ⟨?_, fun id o h => ?_⟩
             · rw [e1, kents_snoc]
               have ha : ∀ (a b : List (HV × HV)) i x y, subM i x y (a ++ b) = subM i x y a ++ subM i x y b := fun a b i x y => by simp [subM]
               rw [ha, ha, hs2, hs3]
               simp [subM, eI, show ¬ 41 = 1000 + (fI p).length by omega]
             · obtain ⟨i, hi, rfl, rfl⟩ := fam_some h
               rw [e1, List.length_append, List.length_singleton] at hi
               by_cases e : (fI p).length = i
               · subst e
                 rw [rowQ_hit (by rw [e1, List.getElem?_append_right (Nat.le_refl _), Nat.sub_self]; rfl), gatI_none cf]
                 simp (disch := first | omega | (simp <;> omega) | fail) [wrap_i64, wrap_u64, wrap_u8', eI, subM_kents_lo, eq_lo, eq_lo', show (segV l).docs = l from rfl, show (segV l).grams = gramsOf l from rfl]
               · have hi' : i < (fI p).length := by omega
                 have hne : (fI p)[i]? ≠ some g.code := fun h' => cf (List.mem_of_getElem? h')
                 rw [rowQ_same hi' hne]
                 simp (disch := first | omega | (simp <;> omega) | fail) [wrap_i64, wrap_u64, wrap_u8', eI, subM_kents_lo, eq_lo, eq_lo', show (segV l).docs = l from rfl, show (segV l).grams = gramsOf l from rfl, e, fam_at hi', rowQ])
      have e1 : fI (p ++ [(g.code, (gramsOf l)[k].code)]) = fI p ++ [g.code] := by rw [fI_snoc, adK, if_neg cf]
      have hf1 : findHV Tryz.prog 3 (.lit (.int .i64 g.code)) (kents eI 1000 (fI p)) 0 = some none := by
        have := find_kents (P := Tryz.prog) eI_eq 1000 g.code (fI p); rw [if_neg cf] at this; exact this
      have hs1 : subM 41 .any .any (kents eI 1000 (fI p)) = kents eI 1000 (fI p) := subM_kents_out (.inl (by decide))
      generalize hvv : (gramsOf l)[k].code = v at *
      refine HT.drawT (.pre (.take 0) (.pre (.take 3) (.till [4, 5, 6, 7, 8, 9] [1, 2] (fun r => match r with | 0 => .alt [1, 10] (fun i => match i with | 1 => .alt [2, 10] (fun i => match i with | 2 => .lin [.one 10, .one 11] | _ => .lin [.one 2, .one 11]) | _ => .lin [.batch [1, 2], .one 11]) | 1 => .alt [2, 10] (fun i => match i with | 2 => .lin [.one 10, .one 11] | _ => .lin [.one 2, .one 11]) | _ => .lin [.one 10, .one 11])))) (by kernel_rfl) ?_   -- R10
      simp (disch := first | omega | (simp <;> omega) | fail) [wrap_i64, wrap_u64, wrap_u8', eI, subM_kents_lo, eq_lo, eq_lo', show (segV l).docs = l from rfl, show (segV l).grams = gramsOf l from rfl, hf1, hs1, hvv]
      repeat' refine And.intro ?_ ?_
      all_goals
        skip
        refine HT.weaken (HS.le_fits (M := [.s 27 (i64 j), .o 16 (.map (kents eI 1000 (fI p) ++ [(i64 g.code, .ref 41)])), .o 41 (.row 3 1 (intsHV [v])), .os (fam 1000 (fI p).length (rowQ p)), .s 2 (.ptr 2 0), .s 3 (.ptr 3 0), .s 5 (.mref 16), .s 7 (.ptr 7 0), .s 18 (.sl 2 false (postsHV (gramsOf l))), .s 19 (i64 (gramsOf l).length), .s 20 (i64 k), .s 25 (.sl 2 false (gramsHV (gramsOf l)[k].docs)), .s 26 (i64 (gramsOf l)[k].docs.length), .o 2 (.box [.sl 5 false (docsHV l), .sl 2 false (postsHV (gramsOf l))]), .o 3 (.box (needC n)), .o 7 (.box [i64 v, .sl 2 false (gramsHV (gramsOf l)[k].docs)])]) ?_) ?_
        · simp (disch := first | omega | (simp <;> omega) | fail) [wrap_i64, wrap_u64, wrap_u8', eI, subM_kents_lo, eq_lo, eq_lo', show (segV l).docs = l from rfl, show (segV l).grams = gramsOf l from rfl, fam_not, intsHV]
          intro id o h
          obtain ⟨i, hi, rfl, rfl⟩ := fam_some h
          simp (disch := first | omega | (simp <;> omega) | fail) [wrap_i64, wrap_u64, wrap_u8', eI, subM_kents_lo, eq_lo, eq_lo', show (segV l).docs = l from rfl, show (segV l).grams = gramsOf l from rfl, fam_at hi, rowQ]
        refine HT.weaken (HS.le_ren 41 (1000 + (fI p).length) rfl ?_) ?_
        · simp (disch := first | omega | (simp <;> omega) | fail) [wrap_i64, wrap_u64, wrap_u8', eI, subM_kents_lo, eq_lo, eq_lo', show (segV l).docs = l from rfl, show (segV l).grams = gramsOf l from rfl, fam_not]
        simp only [HObj.sub]
        refine HT.region ?_   -- R11
        simp (disch := first | omega | (simp <;> omega) | fail) [wrap_i64, wrap_u64, wrap_u8', eI, subM_kents_lo, eq_lo, eq_lo', show (segV l).docs = l from rfl, show (segV l).grams = gramsOf l from rfl]
        refine Round.mk' (⟨j + 1, by omega⟩) (by dsimp only; omega) rfl ?_
        simp (disch := first | omega | (simp <;> omega) | fail) [wrap_i64, wrap_u64, wrap_u8', eI, subM_kents_lo, eq_lo, eq_lo', show (segV l).docs = l from rfl, show (segV l).grams = gramsOf l from rfl, hp1]
        first
        | (have e2 : (fI (p ++ [(g.code, v)]))[(fI p).idxOf g.code]? = some g.code := by rw [e1, List.getElem?_eq_getElem hlt, List.getElem_idxOf]
           refine ⟨by rw [e1], fun id o h => ?_⟩
           rw [e1] at h
           obtain ⟨i, hi, rfl, rfl⟩ := fam_some h
           by_cases e : (fI p).idxOf g.code = i
           · subst e
             simp (disch := first | omega | (simp <;> omega) | fail) [wrap_i64, wrap_u64, wrap_u8', eI, subM_kents_lo, eq_lo, eq_lo', show (segV l).docs = l from rfl, show (segV l).grams = gramsOf l from rfl, rowQ_hit e2]
           · have hne : (fI p)[i]? ≠ some g.code := fun h' => e (by
               have hi2 := List.getElem?_eq_getElem hi
               rw [hi2] at h'
               have := (fI_nodup p).idxOf_getElem i hi
               rw [Option.some.inj h'] at this
               exact this)
             rw [rowQ_same hi hne]
             simp (disch := first | omega | (simp <;> omega) | fail) [wrap_i64, wrap_u64, wrap_u8', eI, subM_kents_lo, eq_lo, eq_lo', show (segV l).docs = l from rfl, show (segV l).grams = gramsOf l from rfl, fam_at hi, rowQ, e])
        | (have hs2 : subM (1000 + (fI p).length) .any .any (kents eI 1000 (fI p)) = kents eI 1000 (fI p) := subM_kents_out (.inr (Nat.le_refl _))
           have hs3 : subM 41 (.ref (1000 + (fI p).length)) (.mref (1000 + (fI p).length)) (kents eI 1000 (fI p)) = kents eI 1000 (fI p) := subM_kents_out (.inl (by decide))
           refine ⟨?_, fun id o h => ?_⟩
           · rw [e1, kents_snoc]
             have ha : ∀ (a b : List (HV × HV)) i x y, subM i x y (a ++ b) = subM i x y a ++ subM i x y b := fun a b i x y => by simp [subM]
             rw [ha, ha, hs2, hs3]
             simp [subM, eI, show ¬ 41 = 1000 + (fI p).length by omega]
           · obtain ⟨i, hi, rfl, rfl⟩ := fam_some h
             rw [e1, List.length_append, List.length_singleton] at hi
             by_cases e : (fI p).length = i
             · subst e
               rw [rowQ_hit (by rw [e1, List.getElem?_append_right (Nat.le_refl _), Nat.sub_self]; rfl), gatI_none cf]
               simp (disch := first | omega | (simp <;> omega) | fail) [wrap_i64, wrap_u64, wrap_u8', eI, subM_kents_lo, eq_lo, eq_lo', show (segV l).docs = l from rfl, show (segV l).grams = gramsOf l from rfl]
             · have hi' : i < (fI p).length := by omega
               have hne : (fI p)[i]? ≠ some g.code := fun h' => cf (List.mem_of_getElem? h')
               rw [rowQ_same hi' hne]
               simp (disch := first | omega | (simp <;> omega) | fail) [wrap_i64, wrap_u64, wrap_u8', eI, subM_kents_lo, eq_lo, eq_lo', show (segV l).docs = l from rfl, show (segV l).grams = gramsOf l from rfl, e, fam_at hi', rowQ])
    · skip
      obtain rfl : j = (gramsOf l)[k].docs.length := by omega
      refine HT.exit ?_
      simp (disch := first | omega | (simp <;> omega) | fail) [wrap_i64, wrap_u64, wrap_u8', eI, subM_kents_lo, eq_lo, eq_lo', show (segV l).docs = l from rfl, show (segV l).grams = gramsOf l from rfl]
      refine HT.region ?_   -- R12
      simp (disch := first | omega | (simp <;> omega) | fail) [wrap_i64, wrap_u64, wrap_u8', eI, subM_kents_lo, eq_lo, eq_lo', show (segV l).docs = l from rfl, show (segV l).grams = gramsOf l from rfl]
      refine Round.mk' (⟨k + 1, by omega⟩) (by dsimp only; omega) rfl ?_
      simp (disch := first | omega | (simp <;> omega) | fail) [wrap_i64, wrap_u64, wrap_u8', eI, subM_kents_lo, eq_lo, eq_lo', show (segV l).docs = l from rfl, show (segV l).grams = gramsOf l from rfl, pJ_end (gramsOf l) hk']
      intro id o h
      obtain ⟨i, hi, rfl, rfl⟩ := fam_some h
      simp (disch := first | omega | (simp <;> omega) | fail) [wrap_i64, wrap_u64, wrap_u8', eI, subM_kents_lo, eq_lo, eq_lo', show (segV l).docs = l from rfl, show (segV l).grams = gramsOf l from rfl, fam_at hi, rowQ]
  · skip
    obtain rfl : k = (gramsOf l).length := by omega
    refine HT.exit ?_
    simp (disch := first | omega | (simp <;> omega) | fail) [wrap_i64, wrap_u64, wrap_u8', eI, subM_kents_lo, eq_lo, eq_lo', show (segV l).docs = l from rfl, show (segV l).grams = gramsOf l from rfl]
    have hfl2 := fI_length (evQ (gramsOf l))
    refine HT.weaken (HS.le_frzK (m := 16) (sz := 1) 1000 eI 3 (fun c => intsHV (gatI (evQ (gramsOf l)) c)) (fI (evQ (gramsOf l))) (by decide) ?_ (fun _ => by simp) ?_) ?_
    · simp (disch := first | omega | (simp <;> omega) | fail) [wrap_i64, wrap_u64, wrap_u8', eI, subM_kents_lo, eq_lo, eq_lo', show (segV l).docs = l from rfl, show (segV l).grams = gramsOf l from rfl]
    · intro i c hc
      have hi := getElem?_lt hc
      obtain rfl : (fI (evQ (gramsOf l)))[i] = c := by rw [List.getElem?_eq_getElem hi] at hc; exact Option.some.inj hc
      simp (disch := first | omega | (simp <;> omega) | fail) [wrap_i64, wrap_u64, wrap_u8', eI, subM_kents_lo, eq_lo, eq_lo', show (segV l).docs = l from rfl, show (segV l).grams = gramsOf l from rfl, fam_at hi, rowQ]
    refine HT.weaken (HS.le_frzref (id := 16) (xr := .any) (xm := .mp (fents eI (fun c => .sl 1 false (intsHV (gatI (evQ (gramsOf l)) c))) (fI (evQ (gramsOf l))))) (by simp [frz1, isIM_fentsQ])) ?_
    refine HT.seq ?_
    refine HT.region ?_   -- R13
    simp (disch := first | omega | (simp <;> omega) | fail) [wrap_i64, wrap_u64, wrap_u8', eI, subM_kents_lo, eq_lo, eq_lo', show (segV l).docs = l from rfl, show (segV l).grams = gramsOf l from rfl]
    refine HT.weaken (HS.le_own (t := 10) 200 3 1 _ (by decide) rfl (by decide)) ?_
    refine HT.seq ?_
    refine HT.seq ?_
    refine HT.region ?_   -- R14
    simp (disch := first | omega | (simp <;> omega) | fail) [wrap_i64, wrap_u64, wrap_u8', eI, subM_kents_lo, eq_lo, eq_lo', show (segV l).docs = l from rfl, show (segV l).grams = gramsOf l from rfl]
    refine HT.block ?_
    refine HT.loopK (fun k : {k : Nat // k ≤ l.length} => [.s 47 (i64 k), .s 10 (.ref 200), .o 200 (.row 3 1 (intsHV (eval29 (l.take k) n)))]) [3, 5, 45, 46] [3] (fun k => l.length - k) (⟨0, by omega⟩) ?_ ?_   -- block 4 turned [10, 47]
    · simp (disch := first | omega | (simp <;> omega) | fail) [wrap_i64, wrap_u64, wrap_u8', eI, subM_kents_lo, eq_lo, eq_lo', show (segV l).docs = l from rfl, show (segV l).grams = gramsOf l from rfl, show eval29 [] n = [] from rfl]
    rintro ⟨k, hk⟩
    simp (disch := first | omega | (simp <;> omega) | fail) [wrap_i64, wrap_u64, wrap_u8', eI, subM_kents_lo, eq_lo, eq_lo', show (segV l).docs = l from rfl, show (segV l).grams = gramsOf l from rfl]
    refine HT.seq ?_
    refine HT.region ?_   -- R15
    simp (disch := first | omega | (simp <;> omega) | fail) [wrap_i64, wrap_u64, wrap_u8', eI, subM_kents_lo, eq_lo, eq_lo', show (segV l).docs = l from rfl, show (segV l).grams = gramsOf l from rfl]
    refine HT.seq ?_
    refine HT.cond' ?_   -- if 48
    simp (disch := first | omega | (simp <;> omega) | fail) [wrap_i64, wrap_u64, wrap_u8', eI, subM_kents_lo, eq_lo, eq_lo', show (segV l).docs = l from rfl, show (segV l).grams = gramsOf l from rfl]
    refine ⟨fun h48 => ?_, fun h48 => ?_⟩
    · skip
      have hk' : k < l.length := by omega
      have hxk := hx _ (List.getElem_mem hk')
      have hfl := eval29_len n l k
      have hof := ofV_length l[k].text
      have hgq := gatI_evQ hl (List.getElem_mem hk')
      refine HT.skip ?_
      simp (disch := first | omega | (simp <;> omega) | fail) [wrap_i64, wrap_u64, wrap_u8', eI, subM_kents_lo, eq_lo, eq_lo', show (segV l).docs = l from rfl, show (segV l).grams = gramsOf l from rfl]
      refine HT.seq ?_
      refine HT.block ?_
      refine HT.seq ?_
      refine HT.region ?_   -- R16
      simp (disch := first | omega | (simp <;> omega) | fail) [wrap_i64, wrap_u64, wrap_u8', eI, subM_kents_lo, eq_lo, eq_lo', show (segV l).docs = l from rfl, show (segV l).grams = gramsOf l from rfl]
      refine HT.seq ?_
      by_cases cm : l[k].id ∈ fI (evQ (gramsOf l))
      · skip
        have hf := find_fents (evQ (gramsOf l)) l[k].id (fI (evQ (gramsOf l)))
        rw [if_pos cm, hgq] at hf
        have hE : Spec1 Tryz.prog 37 [.agg (needC n), .sl 1 false (intsHV (ofV l[k].text))] (bo (validN n 1 && holdsN n (ofV l[k].text))) := Eval_spec n false _ hb (by omega)
        refine HT.region ?_   -- R17
        simp (disch := first | omega | (simp <;> omega) | fail) [wrap_i64, wrap_u64, wrap_u8', eI, subM_kents_lo, eq_lo, eq_lo', show (segV l).docs = l from rfl, show (segV l).grams = gramsOf l from rfl, hf]
        refine stepK.mk (.call1f _ _ _ _ _ rfl Ty.hb37 rfl rfl (hE) rfl) ?_
        simp (disch := first | omega | (simp <;> omega) | fail) [wrap_i64, wrap_u64, wrap_u8', eI, subM_kents_lo, eq_lo, eq_lo', show (segV l).docs = l from rfl, show (segV l).grams = gramsOf l from rfl, hf, hv]
        refine HT.cond' ?_   -- if 56
        simp (disch := first | omega | (simp <;> omega) | fail) [wrap_i64, wrap_u64, wrap_u8', eI, subM_kents_lo, eq_lo, eq_lo', show (segV l).docs = l from rfl, show (segV l).grams = gramsOf l from rfl]
        refine ⟨fun h56 => ?_, fun h56 => ?_⟩
        · skip
          refine HT.region ?_   -- R18
          simp (disch := first | omega | (simp <;> omega) | fail) [wrap_i64, wrap_u64, wrap_u8', eI, subM_kents_lo, eq_lo, eq_lo', show (segV l).docs = l from rfl, show (segV l).grams = gramsOf l from rfl]
          refine HT.region ?_   -- R19
          simp (disch := first | omega | (simp <;> omega) | fail) [wrap_i64, wrap_u64, wrap_u8', eI, subM_kents_lo, eq_lo, eq_lo', show (segV l).docs = l from rfl, show (segV l).grams = gramsOf l from rfl]
          refine Round.mk' (⟨k + 1, by omega⟩) (by dsimp only; omega) rfl ?_
          simp (disch := first | omega | (simp <;> omega) | fail) [wrap_i64, wrap_u64, wrap_u8', eI, subM_kents_lo, eq_lo, eq_lo', show (segV l).docs = l from rfl, show (segV l).grams = gramsOf l from rfl, eval29_snoc n hk', h56]
        · skip
          refine HT.skip ?_
          simp (disch := first | omega | (simp <;> omega) | fail) [wrap_i64, wrap_u64, wrap_u8', eI, subM_kents_lo, eq_lo, eq_lo', show (segV l).docs = l from rfl, show (segV l).grams = gramsOf l from rfl]
          refine HT.region ?_   -- R19
          simp (disch := first | omega | (simp <;> omega) | fail) [wrap_i64, wrap_u64, wrap_u8', eI, subM_kents_lo, eq_lo, eq_lo', show (segV l).docs = l from rfl, show (segV l).grams = gramsOf l from rfl]
          refine Round.mk' (⟨k + 1, by omega⟩) (by dsimp only; omega) rfl ?_
          simp (disch := first | omega | (simp <;> omega) | fail) [wrap_i64, wrap_u64, wrap_u8', eI, subM_kents_lo, eq_lo, eq_lo', show (segV l).docs = l from rfl, show (segV l).grams = gramsOf l from rfl, eval29_snoc n hk', h56]
      have hf := find_fents (evQ (gramsOf l)) l[k].id (fI (evQ (gramsOf l)))
      rw [if_neg cm] at hf
      have h0 : ofV l[k].text = [] := by rw [← hgq]; exact gatI_none cm
      have hE : Spec1 Tryz.prog 37 [.agg (needC n), .sl 0 true []] (bo (validN n 1 && holdsN n (ofV l[k].text))) := by
        rw [h0]; exact (Eval_spec n true [] hb (by simp)).args (l := [.agg (needC n), .sl 0 true []]) (HLeL.cons (HLe.refl _) (HLeL.cons (HLe.nil 0 1 true) HLeL.nil))
      refine HT.region ?_   -- R17
      simp (disch := first | omega | (simp <;> omega) | fail) [wrap_i64, wrap_u64, wrap_u8', eI, subM_kents_lo, eq_lo, eq_lo', show (segV l).docs = l from rfl, show (segV l).grams = gramsOf l from rfl, hf]
      refine stepK.mk (.call1f _ _ _ _ _ rfl Ty.hb37 rfl rfl (hE) rfl) ?_
      simp (disch := first | omega | (simp <;> omega) | fail) [wrap_i64, wrap_u64, wrap_u8', eI, subM_kents_lo, eq_lo, eq_lo', show (segV l).docs = l from rfl, show (segV l).grams = gramsOf l from rfl, hf, hv]
      refine HT.cond' ?_   -- if 56
      simp (disch := first | omega | (simp <;> omega) | fail) [wrap_i64, wrap_u64, wrap_u8', eI, subM_kents_lo, eq_lo, eq_lo', show (segV l).docs = l from rfl, show (segV l).grams = gramsOf l from rfl]
      refine ⟨fun h56 => ?_, fun h56 => ?_⟩
      · skip
        refine HT.region ?_   -- R18
        simp (disch := first | omega | (simp <;> omega) | fail) [wrap_i64, wrap_u64, wrap_u8', eI, subM_kents_lo, eq_lo, eq_lo', show (segV l).docs = l from rfl, show (segV l).grams = gramsOf l from rfl]
        refine HT.region ?_   -- R19
        simp (disch := first | omega | (simp <;> omega) | fail) [wrap_i64, wrap_u64, wrap_u8', eI, subM_kents_lo, eq_lo, eq_lo', show (segV l).docs = l from rfl, show (segV l).grams = gramsOf l from rfl]
        refine Round.mk' (⟨k + 1, by omega⟩) (by dsimp only; omega) rfl ?_
        simp (disch := first | omega | (simp <;> omega) | fail) [wrap_i64, wrap_u64, wrap_u8', eI, subM_kents_lo, eq_lo, eq_lo', show (segV l).docs = l from rfl, show (segV l).grams = gramsOf l from rfl, eval29_snoc n hk', h56]
      · skip
        refine HT.skip ?_
        simp (disch := first | omega | (simp <;> omega) | fail) [wrap_i64, wrap_u64, wrap_u8', eI, subM_kents_lo, eq_lo, eq_lo', show (segV l).docs = l from rfl, show (segV l).grams = gramsOf l from rfl]
        refine HT.region ?_   -- R19
        simp (disch := first | omega | (simp <;> omega) | fail) [wrap_i64, wrap_u64, wrap_u8', eI, subM_kents_lo, eq_lo, eq_lo', show (segV l).docs = l from rfl, show (segV l).grams = gramsOf l from rfl]
        refine Round.mk' (⟨k + 1, by omega⟩) (by dsimp only; omega) rfl ?_
        simp (disch := first | omega | (simp <;> omega) | fail) [wrap_i64, wrap_u64, wrap_u8', eI, subM_kents_lo, eq_lo, eq_lo', show (segV l).docs = l from rfl, show (segV l).grams = gramsOf l from rfl, eval29_snoc n hk', h56]
    · skip
      obtain rfl : k = l.length := by omega
      refine HT.exit ?_
      simp (disch := first | omega | (simp <;> omega) | fail) [wrap_i64, wrap_u64, wrap_u8', eI, subM_kents_lo, eq_lo, eq_lo', show (segV l).docs = l from rfl, show (segV l).grams = gramsOf l from rfl]
      refine HT.seq ?_
      refine HT.region ?_   -- R20
      simp (disch := first | omega | (simp <;> omega) | fail) [wrap_i64, wrap_u64, wrap_u8', eI, subM_kents_lo, eq_lo, eq_lo', show (segV l).docs = l from rfl, show (segV l).grams = gramsOf l from rfl]
      refine HT.ret ?_
      simp (disch := first | omega | (simp <;> omega) | fail) [wrap_i64, wrap_u64, wrap_u8', eI, subM_kents_lo, eq_lo, eq_lo', show (segV l).docs = l from rfl, show (segV l).grams = gramsOf l from rfl, evalR, hv, eval29_all]
end Go.Hv
