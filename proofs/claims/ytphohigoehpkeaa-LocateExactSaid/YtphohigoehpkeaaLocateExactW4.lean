import Derived.Test.YtphohigoehpkeaaLocateExactW3
import Derived.HandedShaped
import Derived.Shelf.Vars
set_option linter.unusedVariables false
set_option linter.unusedSimpArgs false
namespace Go.Hv
open Go Go.Hv Go.Proofs
open Go.Proofs.Ytphohigoehpkeaa
def srt (l : List Int) : List Int := l.mergeSort leI
theorem srt_mem (l : List Int) (x : Int) : x ∈ srt l ↔ x ∈ l := List.mem_mergeSort
theorem srt_length (l : List Int) : (srt l).length = l.length := List.length_mergeSort l
theorem srt_sorted (l : List Int) : (srt l).Pairwise (· ≤ ·) := mergeSort_leI l
theorem Cand11_spec (l : List Int) (x : Int) (hl : l.length ≤ 1000000) (hs : l.Pairwise (· ≤ ·)) : Spec1 Try.prog 58 [i64 x, .cptr [.sl 1 false (intsHV l)]] (bo (decide (x ∈ l))) := by
  refine Spec1.of_HT Try.func58 rfl (by rw [Try.ntmps58]; simp) rfl ?_
  rw [Try.ntmps58]
  refine HT.seq ?_
  refine HT.region ?_   -- R0
  simp (disch := first | omega | (simp <;> omega) | fail) [wrap_i64, wrap_u64, wrap_u8']
  refine HT.seq ?_
  refine HT.region ?_   -- R1
  simp (disch := first | omega | (simp <;> omega) | fail) [wrap_i64, wrap_u64, wrap_u8']
  refine stepK.mk (.callT _ _ _ _ rfl Ty.hb59 rfl (BinarySearch_spec false l x hl hs) rfl rfl) ?_
  simp (disch := first | omega | (simp <;> omega) | fail) [wrap_i64, wrap_u64, wrap_u8']
  refine HT.seq ?_
  refine HT.region ?_   -- R2
  simp (disch := first | omega | (simp <;> omega) | fail) [wrap_i64, wrap_u64, wrap_u8']
  refine HT.ret ?_
  simp (disch := first | omega | (simp <;> omega) | fail) [wrap_i64, wrap_u64, wrap_u8']
theorem Cand2_spec (x : Int) : Spec1 Try.prog 61 [i64 x] (bo (decide (x < 0))) := by
  refine Spec1.of_HT Try.func61 rfl (by rw [Try.ntmps61]; simp) rfl ?_
  rw [Try.ntmps61]
  refine HT.seq ?_
  refine HT.region ?_   -- R0
  simp (disch := first | omega | (simp <;> omega) | fail) [wrap_i64, wrap_u64, wrap_u8']
  refine HT.seq ?_
  refine HT.region ?_   -- R1
  simp (disch := first | omega | (simp <;> omega) | fail) [wrap_i64, wrap_u64, wrap_u8']
  refine HT.ret ?_
  simp (disch := first | omega | (simp <;> omega) | fail) [wrap_i64, wrap_u64, wrap_u8']
theorem Cand3_spec (l : List Int) (x : Int) (k : Nat) (hl : l.length ≤ 1000000) (hs : l.Pairwise (· ≤ ·)) (hk : k ≤ 1000000) (hx : -9223372036854775808 ≤ x ∧ x < 9223372036854775808) : Spec1 Try.prog 62 [i64 x, .cptr [i64 k], .cptr [.fn (.func 58) [.cptr [.sl 1 false (intsHV l)]]]] (bo (!decide (x + k ∈ l ∧ x ≤ 9223372036854775807 - k))) := by
  refine Spec1.of_HT Try.func62 rfl (by rw [Try.ntmps62]; simp) rfl ?_
  rw [Try.ntmps62]
  refine HT.seq ?_
  refine HT.region ?_   -- R0
  simp (disch := first | omega | (simp <;> omega) | fail) [wrap_i64, wrap_u64, wrap_u8']
  refine HT.seq ?_
  by_cases c : x > 9223372036854775807 - k
  · skip
    refine HT.region ?_   -- R1
    simp (disch := first | omega | (simp <;> omega) | fail) [wrap_i64, wrap_u64, wrap_u8', c]
    refine HT.ret ?_
    simp (disch := first | omega | (simp <;> omega) | fail) [wrap_i64, wrap_u64, wrap_u8']
  refine HT.region ?_   -- R1
  simp (disch := first | omega | (simp <;> omega) | fail) [wrap_i64, wrap_u64, wrap_u8', c]
  refine stepK.mk (.call1 _ _ _ _ rfl Ty.hb58 rfl (Cand11_spec l (x + k) hl hs) rfl rfl) ?_
  simp (disch := first | omega | (simp <;> omega) | fail) [wrap_i64, wrap_u64, wrap_u8', c]
  refine HT.ret ?_
  simp (disch := first | omega | (simp <;> omega) | fail) [wrap_i64, wrap_u64, wrap_u8']
@[simp] def candFn (l : List Int) : HV := .fn (.func 58) [.cptr [.sl 1 false (intsHV l)]]
theorem Cand1_spec (f : Bool) (l : List Gram) (s : List UInt8) (i : Nat) (hl : GB l) (hs : s.length ≤ 900000) (hi : i + 2 < s.length) : Spec1 Try.prog 56 [i64 i, .cptr [.str s], .cptr [.sl 2 f (gramsHV l)]] (.fn (.func 58) [.cptr [.sl 1 false (intsHV (srt (atV l (codeAt s i))))]]) := by
  have hcu := codeV_cut (s := s) (k := i) (by omega)
  have hcu3 := cut3_length (s := s) (k := i) (by omega)
  have hat := atV_GB hl (codeAt s i)
  refine Spec1.of_HT Try.func56 rfl (by rw [Try.ntmps56]; simp) rfl ?_
  rw [Try.ntmps56]
  refine HT.seq ?_
  refine HT.region ?_   -- R0
  simp (disch := first | omega | (simp <;> omega) | fail) [wrap_i64, wrap_u64, wrap_u8']
  refine HT.seq ?_
  refine HT.region ?_   -- R1
  simp (disch := first | omega | (simp <;> omega) | fail) [wrap_i64, wrap_u64, wrap_u8', hcu, hcu3]
  refine stepK.mk (.callT _ _ _ _ rfl Ty.hb31 rfl (Code_spec (List.drop i (List.take (i + 3) s)) (by simp; omega)) rfl rfl) ?_
  simp (disch := first | omega | (simp <;> omega) | fail) [wrap_i64, wrap_u64, wrap_u8', hcu, hcu3]
  refine HT.seq ?_
  refine HT.region ?_   -- R2
  simp (disch := first | omega | (simp <;> omega) | fail) [wrap_i64, wrap_u64, wrap_u8']
  refine stepK.mk (.call1f _ _ _ _ _ rfl Ty.hb40 rfl rfl (At_spec f l (codeAt s i) hl.1) rfl) ?_
  simp (disch := first | omega | (simp <;> omega) | fail) [wrap_i64, wrap_u64, wrap_u8']
  refine stepK.mk (.callO _ _ _ _ _ _ _ _ rfl Ty.hb57 rfl rfl (Clone_spec false (atV l (codeAt s i)) (by omega)) rfl rfl) ?_
  simp (disch := first | omega | (simp <;> omega) | fail) [wrap_i64, wrap_u64, wrap_u8']
  refine HT.seq ?_
  refine HT.region ?_   -- R3
  simp (disch := first | omega | (simp <;> omega) | fail) [wrap_i64, wrap_u64, wrap_u8']
  refine stepK.mk (.callS _ _ _ _ _ _ _ rfl Ty.hb49 (by simp) (by simp) (by first | rfl | simp) (Sort_spec (atV l (codeAt s i)) (by omega)) rfl) ?_
  simp (disch := first | omega | (simp <;> omega) | fail) [wrap_i64, wrap_u64, wrap_u8']
  refine HT.weaken (HS.le_frzref (id := 20) (xr := .sl 1 false (intsHV (srt (atV l (codeAt s i))))) (xm := .any) (by simp [srt])) ?_
  refine HT.weaken (HS.le_frzbox 7 7 (by decide) rfl rfl (by simp [isIL, isI])) ?_
  refine HT.seq ?_
  refine HT.region ?_   -- R4
  simp (disch := first | omega | (simp <;> omega) | fail) [wrap_i64, wrap_u64, wrap_u8']
  refine HT.ret ?_
  simp (disch := first | omega | (simp <;> omega) | fail) [wrap_i64, wrap_u64, wrap_u8']
def r0V (l : List Gram) (s : List UInt8) : List Int := (Lib.compact (srt (atV l (codeAt s 0)))).filter fun x => !decide (x < 0)
def offP (l : List Gram) (s : List UInt8) (i : Nat) (x : Int) : Bool := !decide (x + i ∈ srt (atV l (codeAt s i)) ∧ x ≤ 9223372036854775807 - i)
def candK (l : List Gram) (s : List UInt8) : Nat → List Int
  | 0 => r0V l s
  | k + 1 => (candK l s k).filter fun x => !offP l s (k + 1) x
theorem candK_mem (l : List Gram) (s : List UInt8) : ∀ (k : Nat) (x : Int), x ∈ candK l s k ↔ (x ∈ atV l (codeAt s 0) ∧ 0 ≤ x) ∧ ∀ i, 1 ≤ i → i ≤ k → x + i ∈ atV l (codeAt s i) ∧ x ≤ 9223372036854775807 - i
  | 0, x => by
    unfold candK r0V
    have hc : ∀ y, y ∈ Lib.compact (srt (atV l (codeAt s 0))) ↔ y ∈ atV l (codeAt s 0) := (compact_sort _).2
    rw [List.mem_filter, hc]
    simp only [Bool.not_eq_true', decide_eq_false_iff_not, Int.not_lt]
    constructor
    · intro h; exact ⟨h, fun i h1 h2 => by omega⟩
    · intro h; exact h.1
  | k + 1, x => by
    unfold candK
    rw [List.mem_filter, candK_mem l s k]
    unfold offP
    simp only [Bool.not_not, decide_eq_true_eq, srt_mem]
    constructor
    · rintro ⟨⟨h1, h2⟩, h3⟩
      refine ⟨h1, fun i a b => ?_⟩
      by_cases e : i = k + 1
      · subst e; exact h3
      · exact h2 i a (by omega)
    · rintro ⟨h1, h2⟩
      exact ⟨⟨h1, fun i a b => h2 i a (by omega)⟩, h2 (k + 1) (by omega) (Nat.le_refl _)⟩
theorem candK_inc (l : List Gram) (s : List UInt8) : ∀ k, Inc (candK l s k)
  | 0 => (compact_sort _).1.sublist List.filter_sublist
  | k + 1 => (candK_inc l s k).sublist List.filter_sublist
theorem candK_len (l : List Gram) (s : List UInt8) : ∀ k, (candK l s k).length ≤ (atV l (codeAt s 0)).length
  | 0 => by
    have h1 := List.length_filter_le (fun x => !decide (x < 0)) (Lib.compact (srt (atV l (codeAt s 0))))
    have h2 := Lib.compact_length_le (srt (atV l (codeAt s 0)))
    have h3 := srt_length (atV l (codeAt s 0))
    unfold candK r0V; omega
  | k + 1 => by
    have h1 := List.length_filter_le (fun x => !offP l s (k + 1) x) (candK l s k)
    have h2 := candK_len l s k
    unfold candK; omega
theorem ins_foldl_mem (r : List Int) : ∀ (a : List Int) (x : Int), x ∈ r.foldl ins a ↔ x ∈ a ∨ x ∈ r := by
  induction r with
  | nil => intro a x; simp
  | cons y r ih => intro a x; rw [List.foldl_cons, ih, ins_mem]; simp [or_assoc, or_comm, or_left_comm]
theorem candJ_iff (l : List Gram) (s : List UInt8) (x : Int) (j : Nat) : candJ l s x j = true ↔ 0 ≤ x ∧ ∀ i, i < j → x + i ∈ atV l (codeAt s i) := by
  unfold candJ folV folB
  simp only [Bool.and_eq_true, decide_eq_true_eq, List.all_eq_true, List.mem_range, List.any_eq_true]
  constructor
  · rintro ⟨h0, h⟩
    refine ⟨h0, fun i hi => ?_⟩
    obtain ⟨y, hy, h1, h2⟩ := h i hi
    have : x + i = y := by omega
    rw [this]; exact hy
  · rintro ⟨h0, h⟩
    exact ⟨h0, fun i hi => ⟨x + i, h i hi, by omega, by omega⟩⟩
theorem cand_eq {l : List Gram} {s : List UInt8} (hl : GB l) (h : ¬ s.length < 3) : candK l s (s.length - 3) = candV l s := by
  unfold candV
  rw [if_neg h]
  refine inc_unique (candK_inc l s _) (candI_inc l s _) fun x => ?_
  rw [candK_mem]
  unfold candI
  rw [ins_foldl_mem, List.take_length, List.mem_filter, candJ_iff]
  constructor
  · rintro ⟨⟨h1, h2⟩, h3⟩
    refine .inr ⟨h1, h2, fun i hi => ?_⟩
    by_cases e : i = 0
    · subst e; simpa using h1
    · exact (h3 i (by omega) (by omega)).1
  · rintro (h1 | ⟨h1, h2, h3⟩)
    · cases h1
    · refine ⟨⟨h1, h2⟩, fun i a b => ?_⟩
      have hm := h3 i (by omega)
      have := ((atV_GB hl (codeAt s i)).2 _ hm).2
      exact ⟨hm, by omega⟩
theorem take_drop0 (s : List UInt8) (h : 3 ≤ s.length) : (List.take 3 s).length = 3 ∧ codeV (List.take 3 s) = codeAt s 0 := by
  have h1 := cut3_length (s := s) (k := 0) (by omega)
  have h2 := codeV_cut (s := s) (k := 0) (by omega)
  simp only [List.drop_zero, Nat.zero_add] at h1 h2
  exact ⟨h1, h2⟩
set_option maxHeartbeats 4000000 in
set_option maxRecDepth 20000 in
theorem Cand_spec (f : Bool) (l : List Gram) (s : List UInt8) (hl : GB l) (hs : s.length ≤ 900000) : SpecT Try.prog 26 [.sl 2 f (gramsHV l), .str s] [.sl 1 false (intsHV (candV l s)), bo (decide (¬ s.length < 3))] := by
  have hfirst := atV_GB hl (codeAt s 0)
  have hcl := candK_len l s
  have hc1 : ∀ x : List Int, (Lib.compact x).length ≤ x.length := Lib.compact_length_le
  have hsl := srt_length (atV l (codeAt s 0))
  refine SpecT.of_HT Try.func26 rfl (by rw [Try.ntmps26]; simp) (rs := [.tmp 4, .tmp 5]) rfl (by decide) ?_
  rw [Try.ntmps26]
  refine HT.seq ?_
  refine HT.region ?_   -- R0
  simp (disch := first | omega | (simp <;> omega) | fail) [wrap_i64, wrap_u64, wrap_u8']
  refine HT.weaken (HS.le_frzbox 2 2 (by decide) rfl rfl (by simp [isIL, isI])) ?_
  simp
  refine HT.weaken (HS.le_frzbox 3 3 (by decide) rfl rfl (by simp [isIL, isI])) ?_
  simp
  refine HT.seq ?_
  refine HT.seq ?_
  by_cases c0 : s.length < 3
  · skip
    refine HT.region ?_   -- R1
    simp (disch := first | omega | (simp <;> omega) | fail) [wrap_i64, wrap_u64, wrap_u8']
    refine HT.cond' ?_   -- if 14
    simp (disch := first | omega | (simp <;> omega) | fail) [wrap_i64, wrap_u64, wrap_u8']
    refine HT.seq ?_
    refine HT.region ?_   -- R2
    simp (disch := first | omega | (simp <;> omega) | fail) [wrap_i64, wrap_u64, wrap_u8']
    refine HT.weaken (HS.le_wk 4 (.sl 1 false []) (by decide) rfl rfl (HLe.nilf 0 1 true)) ?_
    refine HT.ret ?_
    simp (disch := first | omega | (simp <;> omega) | fail) [wrap_i64, wrap_u64, wrap_u8', candV, c0]
  have ht3 := take_drop0 s (by omega)
  refine HT.region ?_   -- R1
  simp (disch := first | omega | (simp <;> omega) | fail) [wrap_i64, wrap_u64, wrap_u8']
  refine HT.cond' ?_   -- if 14
  simp (disch := first | omega | (simp <;> omega) | fail) [wrap_i64, wrap_u64, wrap_u8']
  refine HT.skip ?_
  simp (disch := first | omega | (simp <;> omega) | fail) [wrap_i64, wrap_u64, wrap_u8']
  refine HT.seq ?_
  refine HT.region ?_   -- R3
  simp (disch := first | omega | (simp <;> omega) | fail) [wrap_i64, wrap_u64, wrap_u8']
  refine HT.seq ?_
  refine HT.region ?_   -- R4
  simp (disch := first | omega | (simp <;> omega) | fail) [wrap_i64, wrap_u64, wrap_u8', ht3.1, ht3.2]
  refine stepK.mk (.callT _ _ _ _ rfl Ty.hb31 rfl (Code_spec (List.take 3 s) (by simp; omega)) rfl rfl) ?_
  simp (disch := first | omega | (simp <;> omega) | fail) [wrap_i64, wrap_u64, wrap_u8', ht3.1, ht3.2]
  refine HT.seq ?_
  refine HT.region ?_   -- R5
  simp (disch := first | omega | (simp <;> omega) | fail) [wrap_i64, wrap_u64, wrap_u8']
  refine stepK.mk (.call1f _ _ _ _ _ rfl Ty.hb40 rfl rfl (At_spec f l (codeAt s 0) hl.1) rfl) ?_
  simp (disch := first | omega | (simp <;> omega) | fail) [wrap_i64, wrap_u64, wrap_u8']
  refine stepK.mk (.callO _ _ _ _ _ _ _ _ rfl Ty.hb57 rfl rfl (Clone_spec false (atV l (codeAt s 0)) (by omega)) rfl rfl) ?_
  simp (disch := first | omega | (simp <;> omega) | fail) [wrap_i64, wrap_u64, wrap_u8']
  refine HT.seq ?_
  refine HT.region ?_   -- R6
  simp (disch := first | omega | (simp <;> omega) | fail) [wrap_i64, wrap_u64, wrap_u8']
  refine stepK.mk (.callS _ _ _ _ _ _ _ rfl Ty.hb49 (by first | rfl | simp) (by simp) (by first | rfl | simp) (Sort_spec (atV l (codeAt s 0)) (by omega)) rfl) ?_
  simp (disch := first | omega | (simp <;> omega) | fail) [wrap_i64, wrap_u64, wrap_u8']
  refine HT.seq ?_
  refine HT.region ?_   -- R7
  simp (disch := first | omega | (simp <;> omega) | fail) [wrap_i64, wrap_u64, wrap_u8']
  refine stepK.mk (.callR _ _ _ _ _ _ _ rfl Ty.hb50 (by first | rfl | simp) (by simp) (by first | rfl | simp) (Compact_spec (srt (atV l (codeAt s 0))) (by omega) (hc1 _)) rfl) ?_
  simp (disch := first | omega | (simp <;> omega) | fail) [wrap_i64, wrap_u64, wrap_u8']
  refine stepK.mk (.callR _ _ _ _ _ _ _ rfl Ty.hb60 (by first | rfl | simp) (by simp) (by first | rfl | simp) (DeleteFunc_spec 61 Ty.hb61 [] rfl (fun x => decide (x < 0)) (Lib.compact (srt (atV l (codeAt s 0)))) (by have := hc1 (srt (atV l (codeAt s 0))); omega) (fun x _ => Cand2_spec x)) rfl) ?_
  simp (disch := first | omega | (simp <;> omega) | fail) [wrap_i64, wrap_u64, wrap_u8']
  refine HT.seq ?_
  refine HT.seq ?_
  refine HT.region ?_   -- R8
  simp (disch := first | omega | (simp <;> omega) | fail) [wrap_i64, wrap_u64, wrap_u8']
  refine HT.block ?_
  refine HT.loopK (fun k : {k : Nat // k ≤ s.length - 3} => [.s 9 (.ref 25), .o 25 (.row 3 1 (intsHV (candK l s k))), .s 10 (.ptr 10 0), .o 10 (.box [i64 (k + 1)])]) [3, 6] [3] (fun k => s.length - k) (⟨0, by omega⟩) ?_ ?_   -- block 0 turned [9, 10]
  · simp (disch := first | omega | (simp <;> omega) | fail) [wrap_i64, wrap_u64, wrap_u8', candK, r0V]
  rintro ⟨k, hk⟩
  simp (disch := first | omega | (simp <;> omega) | fail) [wrap_i64, wrap_u64, wrap_u8']
  refine HT.seq ?_
  refine HT.seq ?_
  refine HT.region ?_   -- R9
  simp (disch := first | omega | (simp <;> omega) | fail) [wrap_i64, wrap_u64, wrap_u8']
  refine HT.cond' ?_   -- if 35
  simp (disch := first | omega | (simp <;> omega) | fail) [wrap_i64, wrap_u64, wrap_u8']
  refine ⟨fun h35 => ?_, fun h35 => ?_⟩
  · skip
    have hk' : k + 4 ≤ s.length := by omega
    have hat := atV_GB hl (codeAt s (k + 1))
    have hlk := hcl k
    have hsk := srt_length (atV l (codeAt s (k + 1)))
    refine HT.skip ?_
    simp (disch := first | omega | (simp <;> omega) | fail) [wrap_i64, wrap_u64, wrap_u8']
    refine HT.seq ?_
    refine HT.block ?_
    refine HT.seq ?_
    refine HT.region ?_   -- R11
    simp (disch := first | omega | (simp <;> omega) | fail) [wrap_i64, wrap_u64, wrap_u8']
    refine stepK.mk (.call1f _ _ _ _ _ rfl Ty.hb56 rfl rfl (Cand1_spec f l s (k + 1) hl hs (by omega)) rfl) ?_
    simp (disch := first | omega | (simp <;> omega) | fail) [wrap_i64, wrap_u64, wrap_u8']
    refine HT.weaken (HS.le_frzbox 10 10 (by show (10 : Nat) < 46; decide) rfl rfl (by simp [isIL, isI])) ?_
    simp
    refine HT.weaken (HS.le_frzbox 11 11 (by show (11 : Nat) < 46; decide) rfl rfl (by simp [isIL, isI])) ?_
    simp
    refine HT.region ?_   -- R12
    simp (disch := first | omega | (simp <;> omega) | fail) [wrap_i64, wrap_u64, wrap_u8']
    refine stepK.mk (.callR _ _ _ _ _ _ _ rfl Ty.hb60 (by first | rfl | simp) (by simp) (by first | rfl | simp) (DeleteFunc_spec 62 Ty.hb62 [.cptr [i64 (k + 1)], .cptr [candFn (srt (atV l (codeAt s (k + 1))))]] (by simp [isIL, isI]) (offP l s (k + 1)) (candK l s k) (by omega) (fun x hx => Cand3_spec _ x (k + 1) (by omega) (srt_sorted _) (by omega) (hfirst.2 x ((candK_mem l s k x).1 hx).1.1))) rfl) ?_
    simp (disch := first | omega | (simp <;> omega) | fail) [wrap_i64, wrap_u64, wrap_u8']
    refine HT.seq ?_
    refine HT.seq ?_
    refine HT.region ?_   -- R13
    simp (disch := first | omega | (simp <;> omega) | fail) [wrap_i64, wrap_u64, wrap_u8']
    refine HT.region ?_   -- R14
    simp (disch := first | omega | (simp <;> omega) | fail) [wrap_i64, wrap_u64, wrap_u8']
    refine HT.region ?_   -- R10
    simp (disch := first | omega | (simp <;> omega) | fail) [wrap_i64, wrap_u64, wrap_u8']
    refine Round.mk' (⟨k + 1, by omega⟩) (by dsimp only; omega) rfl ?_
    simp (disch := first | omega | (simp <;> omega) | fail) [wrap_i64, wrap_u64, wrap_u8', candK, offP]
  · skip
    obtain rfl : k = s.length - 3 := by omega
    refine HT.exit ?_
    simp (disch := first | omega | (simp <;> omega) | fail) [wrap_i64, wrap_u64, wrap_u8']
    refine HT.seq ?_
    refine HT.region ?_   -- R15
    simp (disch := first | omega | (simp <;> omega) | fail) [wrap_i64, wrap_u64, wrap_u8']
    refine HT.ret ?_
    simp (disch := first | omega | (simp <;> omega) | fail) [wrap_i64, wrap_u64, wrap_u8', cand_eq hl c0, c0]
end Go.Hv
set_option linter.unusedVariables false
set_option linter.unusedSimpArgs false
namespace Go.Hv
open Go Go.Hv Go.Proofs
open Go.Proofs.Ytphohigoehpkeaa
def exG : List Gram := [⟨6382179, [0, 5]⟩, ⟨6447969, [1]⟩]
theorem exG_GB : GB exG := by
  refine ⟨by decide, fun g hg => ?_⟩
  simp only [exG, List.mem_cons, List.not_mem_nil, or_false] at hg
  rcases hg with rfl | rfl
  · exact ⟨by decide, fun y hy => by simp only [List.mem_cons, List.not_mem_nil, or_false] at hy; rcases hy with rfl | rfl <;> decide⟩
  · exact ⟨by decide, fun y hy => by simp only [List.mem_cons, List.not_mem_nil, or_false] at hy; rcases hy with rfl; decide⟩
theorem exG_le : HLe (.sl 2 true [[i64 6382179, .sl 1 true [[i64 0], [i64 5]]], [i64 6447969, .sl 1 true [[i64 1]]]]) (.sl 2 true (gramsHV exG)) := by
  refine HLe.sl rfl fun i x x' hx hx' => ?_
  match i, hx, hx' with
  | 0, hx, hx' => cases hx; cases hx'; exact ⟨HLe.refl _, HLe.full _ _, trivial⟩
  | 1, hx, hx' => cases hx; cases hx'; exact ⟨HLe.refl _, HLe.full _ _, trivial⟩
  | i + 2, hx, hx' => simp at hx
theorem findV_le (s t : List UInt8) (h : s.length ≤ 1000000) : (findV s t).length ≤ 140737488355328 := by
  have := findK_length s t (s.length + 1 - t.length)
  unfold findV; omega
theorem wf_i64 {n : Int} (h : (Lit.int .i64 n).wf = true) : -9223372036854775808 ≤ n ∧ n < 9223372036854775808 := by
  simp [Lit.wf, IntKind.min, IntKind.max, IntKind.bits, IntKind.signed] at h
  omega
theorem gb_of {l : List Gram} (h : ∀ g ∈ l, GramB 140737488355328 g) (hl : l.length ≤ 140737488355328) (hg : ∀ i g, i < l.length → l[i]? = some g → g.off.length ≤ 40) : GB l := by
  refine ⟨hl, fun g hm => ?_⟩
  obtain ⟨i, hi⟩ := List.mem_iff_getElem?.1 hm
  have := hg i g (getElem?_lt hi) hi
  exact ⟨by omega, fun y hy => wf_i64 ((h g hm).2.2 y hy)⟩
theorem candV_len {l : List Gram} (h : GB l) (s : List UInt8) : (candV l s).length ≤ 1000 := by
  unfold candV
  split
  · simp
  · have h1 := candI_len l s (atV l (codeAt s 0)).length
    have h2 := (atV_GB h (codeAt s 0)).1
    omega
theorem grams_of_trodWB {H : Type} {enc : TypeId × Value → H} {P : Program} {w : World} {sp : Nat → Bool} {held : Bool} {t : TypeId} {a : Option Addr} {n c : Nat} {d : DataW H} {ps : List MemPlace} {B : Nat} (hk : shOKW P gramsSh t = true)
    (h : DataW.Trod enc P w 0 sp held t (.slice a n c) d ps) (hB : ∀ n ∈ d.weights P t, n ≤ B) : ∃ l : List Gram, IRep w (fun _ => False) (.sl 2 false (gramsHV l)) (.slice a n c) ∧ l.length ≤ B ∧ ∀ g ∈ l, GramB B g := by
  obtain ⟨hs, h1, h2⟩ := arg_of_trodW gramsSh hk h hB
  obtain ⟨l, rfl, hl, hg⟩ := rdF_grams h1
  exact ⟨l, repsF_one h2, hl, hg⟩
theorem a71 : findV (fd false [97, 98, 97, 98, 97]) (fd false [97, 98, 97]) = [0, 2] := by decide
theorem a72 : findV (fd true [97, 66]) (fd true [98]) = [1] := by decide
theorem a73 : countV (fd false [97, 98, 97, 98, 97]) (fd false [97, 98, 97]) = 1 := by decide
theorem a74 : countV (fd false [97, 97, 97, 97]) (fd false []) = 5 := by decide
theorem a75 : candV exG [97, 98, 99, 97] = [0] := by decide
theorem a76 : candV exG [97, 66, 67] = [0, 5] := by decide
theorem a77 : ofV [97, 98, 99, 97] = [6382179, 6447969] := by decide
theorem a78 : (∀ c ∈ ofV [97, 98, 99, 97], c ∈ ([6447969, 6382179] : List Int)) := by decide
theorem a79 : ¬ (∀ c ∈ ofV [97, 98, 99, 97], c ∈ ([6447969] : List Int)) := by decide
set_option maxHeartbeats 2000000 in
theorem alive7_spec  : Spec1 Try.prog 16 [] (bo true) := by
  refine Spec1.of_HT Try.func16 rfl (by rw [Try.ntmps16]; simp) rfl ?_
  rw [Try.ntmps16]
  refine HT.seq ?_
  refine HT.region ?_   -- R0
  simp (disch := first | omega | (simp <;> omega) | fail) [wrap_i64, wrap_u64, wrap_u8', a71, a72, a73, a74, a75, a76, a77, a78, a79]
  refine HT.seq ?_
  refine HT.seq ?_
  refine HT.region ?_   -- R1
  simp (disch := first | omega | (simp <;> omega) | fail) [wrap_i64, wrap_u64, wrap_u8', a71, a72, a73, a74, a75, a76, a77, a78, a79]
  refine stepK.mk (.call1f _ _ _ _ _ rfl Ty.hb18 rfl rfl (Find_spec [97, 98, 97, 98, 97] [97, 98, 97] false (by decide) (by decide)) rfl) ?_
  simp (disch := first | omega | (simp <;> omega) | fail) [wrap_i64, wrap_u64, wrap_u8', a71, a72, a73, a74, a75, a76, a77, a78, a79]
  refine stepK.mk (.call1f _ _ _ _ _ rfl Ty.hb17 rfl rfl (Ints_spec _ _ [0, 2] [0, 2] (by decide)) rfl) ?_
  simp (disch := first | omega | (simp <;> omega) | fail) [wrap_i64, wrap_u64, wrap_u8', a71, a72, a73, a74, a75, a76, a77, a78, a79]
  refine stepK.mk (.call1f _ _ _ _ _ rfl Ty.hb18 rfl rfl (Find_spec [97, 66] [98] true (by decide) (by decide)) rfl) ?_
  simp (disch := first | omega | (simp <;> omega) | fail) [wrap_i64, wrap_u64, wrap_u8', a71, a72, a73, a74, a75, a76, a77, a78, a79]
  refine stepK.mk (.call1f _ _ _ _ _ rfl Ty.hb17 rfl rfl (Ints_spec _ _ [1] [1] (by decide)) rfl) ?_
  simp (disch := first | omega | (simp <;> omega) | fail) [wrap_i64, wrap_u64, wrap_u8', a71, a72, a73, a74, a75, a76, a77, a78, a79]
  refine stepK.mk (.call1 _ _ _ _ rfl Ty.hb20 rfl (Count_spec [97, 98, 97, 98, 97] [97, 98, 97] false (by decide) (by decide)) rfl rfl) ?_
  simp (disch := first | omega | (simp <;> omega) | fail) [wrap_i64, wrap_u64, wrap_u8', a71, a72, a73, a74, a75, a76, a77, a78, a79]
  refine stepK.mk (.call1 _ _ _ _ rfl Ty.hb20 rfl (Count_spec [97, 97, 97, 97] [] false (by decide) (by decide)) rfl rfl) ?_
  simp (disch := first | omega | (simp <;> omega) | fail) [wrap_i64, wrap_u64, wrap_u8', a71, a72, a73, a74, a75, a76, a77, a78, a79]
  refine HT.cond' ?_   -- if 25
  simp (disch := first | omega | (simp <;> omega) | fail) [wrap_i64, wrap_u64, wrap_u8', a71, a72, a73, a74, a75, a76, a77, a78, a79]
  refine HT.skip ?_
  simp (disch := first | omega | (simp <;> omega) | fail) [wrap_i64, wrap_u64, wrap_u8', a71, a72, a73, a74, a75, a76, a77, a78, a79]
  refine HT.seq ?_
  refine HT.region ?_   -- R3
  simp (disch := first | omega | (simp <;> omega) | fail) [wrap_i64, wrap_u64, wrap_u8', a71, a72, a73, a74, a75, a76, a77, a78, a79]
  refine HT.weaken (HS.le_wk 1 (.sl 2 true (gramsHV exG)) (by decide) rfl rfl exG_le) ?_
  refine HT.seq ?_
  refine HT.region ?_   -- R4
  simp (disch := first | omega | (simp <;> omega) | fail) [wrap_i64, wrap_u64, wrap_u8', a71, a72, a73, a74, a75, a76, a77, a78, a79]
  refine stepK.mk (.callTf _ _ _ _ _ rfl Ty.hb26 rfl rfl (Cand_spec true exG [97, 98, 99, 97] exG_GB (by decide)) rfl) ?_
  simp (disch := first | omega | (simp <;> omega) | fail) [wrap_i64, wrap_u64, wrap_u8', a71, a72, a73, a74, a75, a76, a77, a78, a79]
  refine HT.seq ?_
  refine HT.region ?_   -- R5
  simp (disch := first | omega | (simp <;> omega) | fail) [wrap_i64, wrap_u64, wrap_u8', a71, a72, a73, a74, a75, a76, a77, a78, a79]
  refine stepK.mk (.callTf _ _ _ _ _ rfl Ty.hb26 rfl rfl (Cand_spec true exG [97, 66, 67] exG_GB (by decide)) rfl) ?_
  simp (disch := first | omega | (simp <;> omega) | fail) [wrap_i64, wrap_u64, wrap_u8', a71, a72, a73, a74, a75, a76, a77, a78, a79]
  refine HT.seq ?_
  refine HT.region ?_   -- R6
  simp (disch := first | omega | (simp <;> omega) | fail) [wrap_i64, wrap_u64, wrap_u8', a71, a72, a73, a74, a75, a76, a77, a78, a79]
  refine stepK.mk (.callTf _ _ _ _ _ rfl Ty.hb26 rfl rfl (Cand_spec true exG [97, 98] exG_GB (by decide)) rfl) ?_
  simp (disch := first | omega | (simp <;> omega) | fail) [wrap_i64, wrap_u64, wrap_u8', a71, a72, a73, a74, a75, a76, a77, a78, a79]
  refine HT.seq ?_
  refine HT.seq ?_
  refine HT.region ?_   -- R7
  simp (disch := first | omega | (simp <;> omega) | fail) [wrap_i64, wrap_u64, wrap_u8', a71, a72, a73, a74, a75, a76, a77, a78, a79]
  refine stepK.mk (.call1f _ _ _ _ _ rfl Ty.hb22 rfl rfl (Codes_spec [97, 98, 99, 97] (by decide)) rfl) ?_
  simp (disch := first | omega | (simp <;> omega) | fail) [wrap_i64, wrap_u64, wrap_u8', a71, a72, a73, a74, a75, a76, a77, a78, a79]
  refine stepK.mk (.call1f _ _ _ _ _ rfl Ty.hb17 rfl rfl (Ints_spec _ _ [6382179, 6447969] [6382179, 6447969] (by decide)) rfl) ?_
  simp (disch := first | omega | (simp <;> omega) | fail) [wrap_i64, wrap_u64, wrap_u8', a71, a72, a73, a74, a75, a76, a77, a78, a79]
  refine stepK.mk (.call1 _ _ _ _ rfl Ty.hb24 rfl (Possible_spec true [6447969, 6382179] [97, 98, 99, 97] (by decide) (by decide)) rfl rfl) ?_
  simp (disch := first | omega | (simp <;> omega) | fail) [wrap_i64, wrap_u64, wrap_u8', a71, a72, a73, a74, a75, a76, a77, a78, a79]
  refine stepK.mk (.call1 _ _ _ _ rfl Ty.hb24 rfl (Possible_spec true [6447969] [97, 98, 99, 97] (by decide) (by decide)) rfl rfl) ?_
  simp (disch := first | omega | (simp <;> omega) | fail) [wrap_i64, wrap_u64, wrap_u8', a71, a72, a73, a74, a75, a76, a77, a78, a79]
  refine HT.cond' ?_   -- if 58
  simp (disch := first | omega | (simp <;> omega) | fail) [wrap_i64, wrap_u64, wrap_u8', a71, a72, a73, a74, a75, a76, a77, a78, a79]
  refine HT.skip ?_
  simp (disch := first | omega | (simp <;> omega) | fail) [wrap_i64, wrap_u64, wrap_u8', a71, a72, a73, a74, a75, a76, a77, a78, a79]
  refine HT.seq ?_
  refine HT.region ?_   -- R9
  simp (disch := first | omega | (simp <;> omega) | fail) [wrap_i64, wrap_u64, wrap_u8', a71, a72, a73, a74, a75, a76, a77, a78, a79]
  refine stepK.mk (.call1f _ _ _ _ _ rfl Ty.hb17 rfl rfl (Ints_spec _ _ [0] [0] (by decide)) rfl) ?_
  simp (disch := first | omega | (simp <;> omega) | fail) [wrap_i64, wrap_u64, wrap_u8', a71, a72, a73, a74, a75, a76, a77, a78, a79]
  refine stepK.mk (.call1f _ _ _ _ _ rfl Ty.hb17 rfl rfl (Ints_spec _ _ [0, 5] [0, 5] (by decide)) rfl) ?_
  simp (disch := first | omega | (simp <;> omega) | fail) [wrap_i64, wrap_u64, wrap_u8', a71, a72, a73, a74, a75, a76, a77, a78, a79]
  refine HT.ret ?_
  simp (disch := first | omega | (simp <;> omega) | fail) [wrap_i64, wrap_u64, wrap_u8', a71, a72, a73, a74, a75, a76, a77, a78, a79]
set_option maxHeartbeats 1000000 in
theorem finds_spec (s t : List UInt8) (b : Bool) (hs0 : s.length ≤ 140737488355328) (ht0 : t.length ≤ 140737488355328) : Spec1 Try.prog 3 [.str s, .str t, bo b] (bo true) := by
  refine Spec1.of_HT Try.func3 rfl (by rw [Try.ntmps3]; simp) rfl ?_
  rw [Try.ntmps3]
  refine HT.seq ?_
  refine HT.region ?_   -- R0
  simp (disch := first | omega | (simp <;> omega) | fail) [wrap_i64, wrap_u64, wrap_u8']
  refine HT.seq ?_
  refine HT.seq ?_
  refine HT.region ?_   -- R1
  simp (disch := first | omega | (simp <;> omega) | fail) [wrap_i64, wrap_u64, wrap_u8']
  refine stepK.mk (.call1 _ _ _ _ rfl Ty.hb16 rfl (alive7_spec) rfl rfl) ?_
  simp (disch := first | omega | (simp <;> omega) | fail) [wrap_i64, wrap_u64, wrap_u8']
  refine HT.cond' ?_   -- if 8
  simp (disch := first | omega | (simp <;> omega) | fail) [wrap_i64, wrap_u64, wrap_u8']
  refine HT.skip ?_
  simp (disch := first | omega | (simp <;> omega) | fail) [wrap_i64, wrap_u64, wrap_u8']
  refine HT.seq ?_
  refine HT.seq ?_
  by_cases c1 : 400 < s.length
  · skip
    refine HT.region ?_   -- R3
    simp (disch := first | omega | (simp <;> omega) | fail) [wrap_i64, wrap_u64, wrap_u8', c1]
    refine HT.cond' ?_   -- if 16
    simp (disch := first | omega | (simp <;> omega) | fail) [wrap_i64, wrap_u64, wrap_u8']
    refine HT.seq ?_
    refine HT.region ?_   -- R4
    simp (disch := first | omega | (simp <;> omega) | fail) [wrap_i64, wrap_u64, wrap_u8']
    refine HT.ret ?_
    simp (disch := first | omega | (simp <;> omega) | fail) [wrap_i64, wrap_u64, wrap_u8']
  refine HT.region ?_   -- R3
  simp (disch := first | omega | (simp <;> omega) | fail) [wrap_i64, wrap_u64, wrap_u8', c1]
  refine HT.cond' ?_   -- if 16
  simp (disch := first | omega | (simp <;> omega) | fail) [wrap_i64, wrap_u64, wrap_u8']
  refine ⟨fun h16 => ?_, fun h16 => ?_⟩
  · skip
    refine HT.seq ?_
    refine HT.region ?_   -- R4
    simp (disch := first | omega | (simp <;> omega) | fail) [wrap_i64, wrap_u64, wrap_u8']
    refine HT.ret ?_
    simp (disch := first | omega | (simp <;> omega) | fail) [wrap_i64, wrap_u64, wrap_u8']
  · skip
    have hs : s.length ≤ 1000000 := by omega
    have ht : t.length ≤ 1000000 := by omega
    refine HT.skip ?_
    simp (disch := first | omega | (simp <;> omega) | fail) [wrap_i64, wrap_u64, wrap_u8']
    refine HT.seq ?_
    refine HT.region ?_   -- R5
    simp (disch := first | omega | (simp <;> omega) | fail) [wrap_i64, wrap_u64, wrap_u8']
    refine stepK.mk (.call1f _ _ _ _ _ rfl Ty.hb18 rfl rfl (Find_spec s t b hs ht) rfl) ?_
    simp (disch := first | omega | (simp <;> omega) | fail) [wrap_i64, wrap_u64, wrap_u8']
    refine stepK.mk (.call1f _ _ _ _ _ rfl Ty.hb19 rfl rfl (refFind_spec s t b hs ht) rfl) ?_
    simp (disch := first | omega | (simp <;> omega) | fail) [wrap_i64, wrap_u64, wrap_u8']
    refine stepK.mk (.call1f _ _ _ _ _ rfl Ty.hb17 rfl rfl (Ints_spec _ _ (findV (fd b s) (fd b t)) (findV (fd b s) (fd b t)) (findV_le _ _ (by simp; omega))) rfl) ?_
    simp (disch := first | omega | (simp <;> omega) | fail) [wrap_i64, wrap_u64, wrap_u8']
    refine stepK.mk (.call1 _ _ _ _ rfl Ty.hb20 rfl (Count_spec s t b hs ht) rfl rfl) ?_
    simp (disch := first | omega | (simp <;> omega) | fail) [wrap_i64, wrap_u64, wrap_u8']
    refine stepK.mk (.call1 _ _ _ _ rfl Ty.hb21 rfl (refCount_spec s t b hs ht) rfl rfl) ?_
    simp (disch := first | omega | (simp <;> omega) | fail) [wrap_i64, wrap_u64, wrap_u8']
    refine HT.ret ?_
    simp (disch := first | omega | (simp <;> omega) | fail) [wrap_i64, wrap_u64, wrap_u8']
set_option maxHeartbeats 1000000 in
theorem codes7_spec (f : Bool) (l : List Int) (s : List UInt8) (hl0 : l.length ≤ 140737488355328) (hs0 : s.length ≤ 140737488355328) : Spec1 Try.prog 4 [.sl 1 f (intsHV l), .str s] (bo true) := by
  have hol := ofV_length s
  refine Spec1.of_HT Try.func4 rfl (by rw [Try.ntmps4]; simp) rfl ?_
  rw [Try.ntmps4]
  refine HT.seq ?_
  refine HT.region ?_   -- R0
  simp (disch := first | omega | (simp <;> omega) | fail) [wrap_i64, wrap_u64, wrap_u8']
  refine HT.seq ?_
  refine HT.seq ?_
  refine HT.region ?_   -- R1
  simp (disch := first | omega | (simp <;> omega) | fail) [wrap_i64, wrap_u64, wrap_u8']
  refine stepK.mk (.call1 _ _ _ _ rfl Ty.hb16 rfl (alive7_spec) rfl rfl) ?_
  simp (disch := first | omega | (simp <;> omega) | fail) [wrap_i64, wrap_u64, wrap_u8']
  refine HT.cond' ?_   -- if 6
  simp (disch := first | omega | (simp <;> omega) | fail) [wrap_i64, wrap_u64, wrap_u8']
  refine HT.skip ?_
  simp (disch := first | omega | (simp <;> omega) | fail) [wrap_i64, wrap_u64, wrap_u8']
  refine HT.seq ?_
  refine HT.seq ?_
  by_cases c1 : 40 < l.length
  · skip
    refine HT.region ?_   -- R3
    simp (disch := first | omega | (simp <;> omega) | fail) [wrap_i64, wrap_u64, wrap_u8', c1]
    refine HT.cond' ?_   -- if 14
    simp (disch := first | omega | (simp <;> omega) | fail) [wrap_i64, wrap_u64, wrap_u8']
    refine HT.seq ?_
    refine HT.region ?_   -- R4
    simp (disch := first | omega | (simp <;> omega) | fail) [wrap_i64, wrap_u64, wrap_u8']
    refine HT.ret ?_
    simp (disch := first | omega | (simp <;> omega) | fail) [wrap_i64, wrap_u64, wrap_u8']
  refine HT.region ?_   -- R3
  simp (disch := first | omega | (simp <;> omega) | fail) [wrap_i64, wrap_u64, wrap_u8', c1]
  refine HT.cond' ?_   -- if 14
  simp (disch := first | omega | (simp <;> omega) | fail) [wrap_i64, wrap_u64, wrap_u8']
  refine ⟨fun h14 => ?_, fun h14 => ?_⟩
  · skip
    refine HT.seq ?_
    refine HT.region ?_   -- R4
    simp (disch := first | omega | (simp <;> omega) | fail) [wrap_i64, wrap_u64, wrap_u8']
    refine HT.ret ?_
    simp (disch := first | omega | (simp <;> omega) | fail) [wrap_i64, wrap_u64, wrap_u8']
  · skip
    have hs : s.length ≤ 900000 := by omega
    refine HT.skip ?_
    simp (disch := first | omega | (simp <;> omega) | fail) [wrap_i64, wrap_u64, wrap_u8']
    refine HT.seq ?_
    refine HT.region ?_   -- R5
    simp (disch := first | omega | (simp <;> omega) | fail) [wrap_i64, wrap_u64, wrap_u8']
    refine stepK.mk (.call1f _ _ _ _ _ rfl Ty.hb22 rfl rfl (Codes_spec s hs) rfl) ?_
    simp (disch := first | omega | (simp <;> omega) | fail) [wrap_i64, wrap_u64, wrap_u8']
    refine stepK.mk (.call1f _ _ _ _ _ rfl Ty.hb23 rfl rfl (refCodes_spec s hs) rfl) ?_
    simp (disch := first | omega | (simp <;> omega) | fail) [wrap_i64, wrap_u64, wrap_u8']
    refine stepK.mk (.call1f _ _ _ _ _ rfl Ty.hb17 rfl rfl (Ints_spec _ _ (ofV s) (ofV s) (by omega)) rfl) ?_
    simp (disch := first | omega | (simp <;> omega) | fail) [wrap_i64, wrap_u64, wrap_u8']
    refine stepK.mk (.call1 _ _ _ _ rfl Ty.hb24 rfl (Possible_spec f l s (by omega) hs) rfl rfl) ?_
    simp (disch := first | omega | (simp <;> omega) | fail) [wrap_i64, wrap_u64, wrap_u8']
    refine stepK.mk (.call1 _ _ _ _ rfl Ty.hb25 rfl (refPossible_spec f l s hl0 hs) rfl rfl) ?_
    simp (disch := first | omega | (simp <;> omega) | fail) [wrap_i64, wrap_u64, wrap_u8']
    refine HT.ret ?_
    simp (disch := first | omega | (simp <;> omega) | fail) [wrap_i64, wrap_u64, wrap_u8']
set_option maxHeartbeats 1000000 in
theorem folds7_spec (s t : List UInt8) (hs0 : s.length ≤ 140737488355328) (ht0 : t.length ≤ 140737488355328) : Spec1 Try.prog 6 [.str s, .str t] (bo true) := by
  refine Spec1.of_HT Try.func6 rfl (by rw [Try.ntmps6]; simp) rfl ?_
  rw [Try.ntmps6]
  refine HT.seq ?_
  refine HT.region ?_   -- R0
  simp (disch := first | omega | (simp <;> omega) | fail) [wrap_i64, wrap_u64, wrap_u8']
  refine HT.seq ?_
  refine HT.seq ?_
  refine HT.region ?_   -- R1
  simp (disch := first | omega | (simp <;> omega) | fail) [wrap_i64, wrap_u64, wrap_u8']
  refine stepK.mk (.call1 _ _ _ _ rfl Ty.hb16 rfl (alive7_spec) rfl rfl) ?_
  simp (disch := first | omega | (simp <;> omega) | fail) [wrap_i64, wrap_u64, wrap_u8']
  refine HT.cond' ?_   -- if 8
  simp (disch := first | omega | (simp <;> omega) | fail) [wrap_i64, wrap_u64, wrap_u8']
  refine HT.skip ?_
  simp (disch := first | omega | (simp <;> omega) | fail) [wrap_i64, wrap_u64, wrap_u8']
  refine HT.seq ?_
  refine HT.seq ?_
  by_cases c1 : 400 < s.length
  · skip
    refine HT.region ?_   -- R3
    simp (disch := first | omega | (simp <;> omega) | fail) [wrap_i64, wrap_u64, wrap_u8', c1]
    refine HT.cond' ?_   -- if 16
    simp (disch := first | omega | (simp <;> omega) | fail) [wrap_i64, wrap_u64, wrap_u8']
    refine HT.seq ?_
    refine HT.region ?_   -- R4
    simp (disch := first | omega | (simp <;> omega) | fail) [wrap_i64, wrap_u64, wrap_u8']
    refine HT.ret ?_
    simp (disch := first | omega | (simp <;> omega) | fail) [wrap_i64, wrap_u64, wrap_u8']
  refine HT.region ?_   -- R3
  simp (disch := first | omega | (simp <;> omega) | fail) [wrap_i64, wrap_u64, wrap_u8', c1]
  refine HT.cond' ?_   -- if 16
  simp (disch := first | omega | (simp <;> omega) | fail) [wrap_i64, wrap_u64, wrap_u8']
  refine ⟨fun h16 => ?_, fun h16 => ?_⟩
  · skip
    refine HT.seq ?_
    refine HT.region ?_   -- R4
    simp (disch := first | omega | (simp <;> omega) | fail) [wrap_i64, wrap_u64, wrap_u8']
    refine HT.ret ?_
    simp (disch := first | omega | (simp <;> omega) | fail) [wrap_i64, wrap_u64, wrap_u8']
  · skip
    have hs : s.length ≤ 1000000 := by omega
    have ht : t.length ≤ 1000000 := by omega
    have e1 : ∀ x, fd true x = foldS x := fun _ => rfl
    have e2 : ∀ x, fd false x = x := fun _ => rfl
    refine HT.skip ?_
    simp (disch := first | omega | (simp <;> omega) | fail) [wrap_i64, wrap_u64, wrap_u8']
    refine HT.seq ?_
    refine HT.region ?_   -- R5
    simp (disch := first | omega | (simp <;> omega) | fail) [wrap_i64, wrap_u64, wrap_u8']
    refine stepK.mk (.call1 _ _ _ _ rfl Ty.hb28 rfl (refFold_spec s hs) rfl rfl) ?_
    simp (disch := first | omega | (simp <;> omega) | fail) [wrap_i64, wrap_u64, wrap_u8']
    refine HT.seq ?_
    refine HT.region ?_   -- R6
    simp (disch := first | omega | (simp <;> omega) | fail) [wrap_i64, wrap_u64, wrap_u8']
    refine stepK.mk (.call1 _ _ _ _ rfl Ty.hb28 rfl (refFold_spec t ht) rfl rfl) ?_
    simp (disch := first | omega | (simp <;> omega) | fail) [wrap_i64, wrap_u64, wrap_u8']
    refine HT.seq ?_
    refine HT.region ?_   -- R7
    simp (disch := first | omega | (simp <;> omega) | fail) [wrap_i64, wrap_u64, wrap_u8', e1, e2]
    refine stepK.mk (.call1f _ _ _ _ _ rfl Ty.hb18 rfl rfl (Find_spec s t true hs ht) rfl) ?_
    simp (disch := first | omega | (simp <;> omega) | fail) [wrap_i64, wrap_u64, wrap_u8', e1, e2]
    refine stepK.mk (.call1f _ _ _ _ _ rfl Ty.hb18 rfl rfl (Find_spec (foldS s) (foldS t) false (by simp; omega) (by simp; omega)) rfl) ?_
    simp (disch := first | omega | (simp <;> omega) | fail) [wrap_i64, wrap_u64, wrap_u8', e1, e2]
    refine stepK.mk (.call1f _ _ _ _ _ rfl Ty.hb17 rfl rfl (Ints_spec _ _ (findV (foldS s) (foldS t)) (findV (foldS s) (foldS t)) (findV_le _ _ (by simp; omega))) rfl) ?_
    simp (disch := first | omega | (simp <;> omega) | fail) [wrap_i64, wrap_u64, wrap_u8', e1, e2]
    refine stepK.mk (.call1 _ _ _ _ rfl Ty.hb20 rfl (Count_spec s t true hs ht) rfl rfl) ?_
    simp (disch := first | omega | (simp <;> omega) | fail) [wrap_i64, wrap_u64, wrap_u8', e1, e2]
    refine stepK.mk (.call1 _ _ _ _ rfl Ty.hb20 rfl (Count_spec (foldS s) (foldS t) false (by simp; omega) (by simp; omega)) rfl rfl) ?_
    simp (disch := first | omega | (simp <;> omega) | fail) [wrap_i64, wrap_u64, wrap_u8', e1, e2]
    refine HT.ret ?_
    simp (disch := first | omega | (simp <;> omega) | fail) [wrap_i64, wrap_u64, wrap_u8']
set_option maxHeartbeats 1000000 in
theorem cands_spec (l : List Gram) (s : List UInt8) (hl : l.length ≤ 140737488355328 ∧ ∀ g ∈ l, GramB 140737488355328 g) (hs0 : s.length ≤ 140737488355328) : Spec1 Try.prog 5 [.sl 2 false (gramsHV l), .str s] (bo true) := by
  refine Spec1.of_HT Try.func5 rfl (by rw [Try.ntmps5]; simp) rfl ?_
  rw [Try.ntmps5]
  refine HT.seq ?_
  refine HT.region ?_   -- R0
  simp (disch := first | omega | (simp <;> omega) | fail) [wrap_i64, wrap_u64, wrap_u8']
  refine HT.seq ?_
  refine HT.seq ?_
  refine HT.region ?_   -- R1
  simp (disch := first | omega | (simp <;> omega) | fail) [wrap_i64, wrap_u64, wrap_u8']
  refine stepK.mk (.call1 _ _ _ _ rfl Ty.hb16 rfl (alive7_spec) rfl rfl) ?_
  simp (disch := first | omega | (simp <;> omega) | fail) [wrap_i64, wrap_u64, wrap_u8']
  refine HT.cond' ?_   -- if 11
  simp (disch := first | omega | (simp <;> omega) | fail) [wrap_i64, wrap_u64, wrap_u8']
  refine HT.skip ?_
  simp (disch := first | omega | (simp <;> omega) | fail) [wrap_i64, wrap_u64, wrap_u8']
  refine HT.seq ?_
  refine HT.seq ?_
  by_cases c1 : 40 < l.length
  · skip
    refine HT.region ?_   -- R3
    simp (disch := first | omega | (simp <;> omega) | fail) [wrap_i64, wrap_u64, wrap_u8', c1]
    refine HT.cond' ?_   -- if 19
    simp (disch := first | omega | (simp <;> omega) | fail) [wrap_i64, wrap_u64, wrap_u8']
    refine HT.seq ?_
    refine HT.region ?_   -- R4
    simp (disch := first | omega | (simp <;> omega) | fail) [wrap_i64, wrap_u64, wrap_u8']
    refine HT.ret ?_
    simp (disch := first | omega | (simp <;> omega) | fail) [wrap_i64, wrap_u64, wrap_u8']
  refine HT.region ?_   -- R3
  simp (disch := first | omega | (simp <;> omega) | fail) [wrap_i64, wrap_u64, wrap_u8', c1]
  refine HT.cond' ?_   -- if 19
  simp (disch := first | omega | (simp <;> omega) | fail) [wrap_i64, wrap_u64, wrap_u8']
  refine ⟨fun h19 => ?_, fun h19 => ?_⟩
  · skip
    refine HT.seq ?_
    refine HT.region ?_   -- R4
    simp (disch := first | omega | (simp <;> omega) | fail) [wrap_i64, wrap_u64, wrap_u8']
    refine HT.ret ?_
    simp (disch := first | omega | (simp <;> omega) | fail) [wrap_i64, wrap_u64, wrap_u8']
  · skip
    have hs : s.length ≤ 900000 := by omega
    refine HT.skip ?_
    simp (disch := first | omega | (simp <;> omega) | fail) [wrap_i64, wrap_u64, wrap_u8']
    refine HT.seq ?_
    refine HT.seq ?_
    refine HT.region ?_   -- R5
    simp (disch := first | omega | (simp <;> omega) | fail) [wrap_i64, wrap_u64, wrap_u8']
    refine HT.block ?_
    refine HT.loopK (fun k : {k : Nat // k ≤ l.length ∧ ∀ i g, i < k → l[i]? = some g → g.off.length ≤ 40} => [.s 5 (i64 k)]) [0, 1, 49, 50, 51] [] (fun k => l.length - k) (⟨0, by simp⟩) ?_ ?_   -- block 0 turned [5]
    · simp (disch := first | omega | (simp <;> omega) | fail) [wrap_i64, wrap_u64, wrap_u8']
    rintro ⟨k, hk, hg⟩
    simp (disch := first | omega | (simp <;> omega) | fail) [wrap_i64, wrap_u64, wrap_u8']
    refine HT.seq ?_
    refine HT.seq ?_
    refine HT.region ?_   -- R6
    simp (disch := first | omega | (simp <;> omega) | fail) [wrap_i64, wrap_u64, wrap_u8']
    refine HT.cond' ?_   -- if 23
    simp (disch := first | omega | (simp <;> omega) | fail) [wrap_i64, wrap_u64, wrap_u8']
    refine ⟨fun h23 => ?_, fun h23 => ?_⟩
    · skip
      have hk' : k < l.length := by omega
      have hb := (hl.2 _ (List.getElem_mem hk')).1
      refine HT.skip ?_
      simp (disch := first | omega | (simp <;> omega) | fail) [wrap_i64, wrap_u64, wrap_u8']
      refine HT.seq ?_
      refine HT.block ?_
      refine HT.seq ?_
      refine HT.region ?_   -- R8
      simp (disch := first | omega | (simp <;> omega) | fail) [wrap_i64, wrap_u64, wrap_u8']
      refine HT.cond' ?_   -- if 32
      simp (disch := first | omega | (simp <;> omega) | fail) [wrap_i64, wrap_u64, wrap_u8']
      refine ⟨fun h32 => ?_, fun h32 => ?_⟩
      · skip
        refine HT.seq ?_
        refine HT.region ?_   -- R9
        simp (disch := first | omega | (simp <;> omega) | fail) [wrap_i64, wrap_u64, wrap_u8']
        refine HT.ret ?_
        simp (disch := first | omega | (simp <;> omega) | fail) [wrap_i64, wrap_u64, wrap_u8']
      · skip
        refine HT.skip ?_
        simp (disch := first | omega | (simp <;> omega) | fail) [wrap_i64, wrap_u64, wrap_u8']
        refine HT.region ?_   -- R7
        simp (disch := first | omega | (simp <;> omega) | fail) [wrap_i64, wrap_u64, wrap_u8']
        refine Round.mk' (⟨k + 1, by omega, upTo_succ hg hk' (by omega)⟩) (by dsimp only; omega) rfl ?_
        simp (disch := first | omega | (simp <;> omega) | fail) [wrap_i64, wrap_u64, wrap_u8']
    · skip
      obtain rfl : k = l.length := by omega
      have hgb := gb_of hl.2 hl.1 hg
      have hcl := candV_len hgb s
      refine HT.exit ?_
      simp (disch := first | omega | (simp <;> omega) | fail) [wrap_i64, wrap_u64, wrap_u8']
      refine HT.seq ?_
      refine HT.region ?_   -- R10
      simp (disch := first | omega | (simp <;> omega) | fail) [wrap_i64, wrap_u64, wrap_u8']
      refine stepK.mk (.callTf _ _ _ _ _ rfl Ty.hb26 rfl rfl (Cand_spec false l s hgb hs) rfl) ?_
      simp (disch := first | omega | (simp <;> omega) | fail) [wrap_i64, wrap_u64, wrap_u8']
      refine HT.seq ?_
      refine HT.region ?_   -- R11
      simp (disch := first | omega | (simp <;> omega) | fail) [wrap_i64, wrap_u64, wrap_u8']
      refine stepK.mk (.callTf _ _ _ _ _ rfl Ty.hb27 rfl rfl (refCand_spec false l s hgb hs) rfl) ?_
      simp (disch := first | omega | (simp <;> omega) | fail) [wrap_i64, wrap_u64, wrap_u8']
      refine HT.seq ?_
      refine HT.region ?_   -- R12
      simp (disch := first | omega | (simp <;> omega) | fail) [wrap_i64, wrap_u64, wrap_u8']
      refine stepK.mk (.call1f _ _ _ _ _ rfl Ty.hb17 rfl rfl (Ints_spec _ _ (candV l s) (candV l s) (by omega)) rfl) ?_
      simp (disch := first | omega | (simp <;> omega) | fail) [wrap_i64, wrap_u64, wrap_u8']
      refine HT.ret ?_
      simp (disch := first | omega | (simp <;> omega) | fail) [wrap_i64, wrap_u64, wrap_u8']
end Go.Hv
set_option linter.unusedVariables false
set_option linter.unusedSimpArgs false
/- Plain laws of layer 7: taking occurrences from the left; a string within another one; candidates of the trigrams. -/
namespace Go.Hv
open Go Go.Hv
/-- Taking occurrences from the left. -/
def apS (m : Nat) (q : Nat × Nat) (x : Int) : Nat × Nat := if (q.2 : Int) ≤ x then (q.1 + 1, x.toNat + m) else q
def apK (m : Nat) (l : List Int) : Nat × Nat := l.foldl (apS m) (0, 0)
theorem apK_snoc (m : Nat) (l : List Int) (x : Int) : apK m (l ++ [x]) = apS m (apK m l) x := by unfold apK; rw [List.foldl_append]; rfl
theorem apS_le (m : Nat) (q : Nat × Nat) (x : Int) : (apS m q x).1 ≤ q.1 + 1 := by unfold apS; split <;> simp
theorem apK_le (m : Nat) (l : List Int) : ∀ k, (apK m (l.take k)).1 ≤ k
  | 0 => by simp [apK]
  | k + 1 => by
    have ih := apK_le m l k
    rcases Nat.lt_or_ge k l.length with h | h
    · rw [List.take_succ_eq_append_getElem h, apK_snoc]
      have := apS_le m (apK m (l.take k)) l[k]
      omega
    · rw [List.take_of_length_le (by omega)]; rw [List.take_of_length_le (by omega)] at ih; omega
theorem apart_nil (s : List UInt8) : ∀ k, apK 0 (findK s [] k) = (k, k - 1)
  | 0 => by simp [findK, apK]
  | k + 1 => by
    have h : occ s [] k = true := by simp [occ]
    rw [findK_succ, if_pos h, apK_snoc, apart_nil s k]
    unfold apS
    rw [if_pos (by dsimp only; omega)]
    simp
theorem apart_inv {s t : List UInt8} (ht : t ≠ []) : ∀ k, (apK t.length (findK s t k)).1 + Lib.count (s.drop (max (apK t.length (findK s t k)).2 k)) t = Lib.count s t
  | 0 => by simp [findK, apK]
  | k + 1 => by
    have ih := apart_inv (s := s) ht k
    have hp := List.length_pos_iff.2 ht
    rw [findK_succ]
    generalize hq : apK t.length (findK s t k) = q at ih
    obtain ⟨n, e⟩ := q
    dsimp only at ih
    by_cases h : occ s t k = true
    · rw [if_pos h, apK_snoc, hq]
      unfold apS
      by_cases he : (e : Int) ≤ (k : Int)
      · rw [if_pos he]
        dsimp only
        rw [show max e k = k by omega, count_at ht h] at ih
        rw [show max ((k : Int).toNat + t.length) (k + 1) = k + t.length by omega]
        omega
      · rw [if_neg he]
        dsimp only
        rw [show max e k = max e (k + 1) by omega] at ih
        exact ih
    · rw [if_neg h, List.append_nil, hq]
      dsimp only
      by_cases he : e ≤ k
      · rw [show max e k = k by omega, count_past ht h] at ih
        rw [show max e (k + 1) = k + 1 by omega]
        exact ih
      · rw [show max e k = max e (k + 1) by omega] at ih
        exact ih
theorem apart_count (s t : List UInt8) : (apK t.length (findV s t)).1 = countV s t := by
  rw [← findK_all]
  unfold countV
  by_cases ht : t = []
  · subst ht
    rw [if_pos rfl]
    show (apK 0 (findK s [] (s.length + 1))).1 = _
    rw [apart_nil]
  · rw [if_neg ht]
    have h := apart_inv (s := s) ht (s.length + 1)
    rw [List.drop_eq_nil_of_le (by omega), count_nil ht] at h
    omega
theorem findV_mem (s t : List UInt8) (x : Int) : x ∈ findV s t ↔ ∃ i : Nat, i ≤ s.length ∧ occ s t i = true ∧ x = i := by
  rw [← findK_all]
  unfold findK
  simp only [List.mem_map, List.mem_filter, List.mem_range]
  constructor
  · rintro ⟨i, ⟨h1, h2⟩, rfl⟩; exact ⟨i, by omega, h2, rfl⟩
  · rintro ⟨i, h1, h2, rfl⟩; exact ⟨i, ⟨by omega, h2⟩, rfl⟩
theorem foldB_foldB (c : UInt8) : foldB (foldB c) = foldB c := by
  unfold foldB
  by_cases h : 65 ≤ c ∧ c ≤ 90
  · rw [if_pos h, if_neg]
    intro h2
    have h3 := h.1; have h4 := h.2; have h5 := h2.2
    simp only [UInt8.le_iff_toNat_le, UInt8.toNat_add] at h3 h4 h5
    simp at h3 h4 h5
    omega
  · rw [if_neg h, if_neg h]
theorem foldS_foldS (s : List UInt8) : foldS (foldS s) = foldS s := by
  unfold foldS; rw [List.map_map]; congr 1; funext c; exact foldB_foldB c
theorem foldS_append (a b : List UInt8) : foldS (a ++ b) = foldS a ++ foldS b := by simp [foldS]
theorem needs_found (a t b : List UInt8) : ((a.length : Nat) : Int) ∈ findV (foldS (a ++ foldS t ++ b)) (foldS t) := by
  rw [findV_mem]
  refine ⟨a.length, by simp, ?_, rfl⟩
  unfold occ
  rw [decide_eq_true_iff, foldS_append, foldS_append, foldS_foldS, List.append_assoc]
  have h1 : a.length = (foldS a).length := by simp
  rw [h1, List.drop_left, List.take_left]
theorem codeAt_foldS' (s : List UInt8) (i : Nat) : codeAt (foldS s) i = codeAt s i := by
  have h : ∀ j, foldB ((foldS s).getD j 0) = foldB (s.getD j 0) := fun j => by
    rw [List.getD_eq_getElem?_getD, List.getD_eq_getElem?_getD]
    unfold foldS
    rw [List.getElem?_map]
    cases s[j]? with
    | none => rfl
    | some c => exact foldB_foldB c
  unfold codeAt; rw [h, h, h]
theorem needs_codes (a t b : List UInt8) : ∀ c ∈ ofV t, c ∈ ofV (a ++ foldS t ++ b) := by
  intro c hc
  obtain ⟨i, hi, rfl⟩ := (ofV_mem t c).1 hc
  refine (ofV_mem _ _).2 ⟨a.length + i, by simp; omega, ?_⟩
  rw [List.append_assoc, codeAt_right, codeAt_left (by simp; omega), codeAt_foldS']
theorem atV_grams (s : List UInt8) (c x : Int) : x ∈ atV (gramsV s) c ↔ ∃ j : Nat, j < s.length - 2 ∧ codeAt s j = c ∧ x = j := by
  unfold atV
  split
  · next g hg =>
    have hm := List.mem_of_find?_eq_some hg
    have hc : g.code = c := by simpa using List.find?_some hg
    obtain ⟨c', hc', rfl⟩ := List.mem_map.1 hm
    dsimp only at hc ⊢
    subst hc
    constructor
    · intro h; exact offK_mem h
    · rintro ⟨j, h1, h2, rfl⟩
      unfold offK
      exact List.mem_map.2 ⟨j, List.mem_filter.2 ⟨List.mem_range.2 h1, by simpa using h2⟩, rfl⟩
  · next hg =>
    constructor
    · intro h; cases h
    · rintro ⟨j, h1, h2, rfl⟩
      rw [List.find?_eq_none] at hg
      have := hg ⟨c, offK s (s.length - 2) c⟩ (List.mem_map.2 ⟨c, (ofV_mem s c).2 ⟨j, h1, h2⟩, rfl⟩)
      simp at this
theorem gramsV_GB {s : List UInt8} (hs : s.length ≤ 900) : GB (gramsV s) := by
  refine ⟨by have := ofV_length s; rw [gramsV_length]; omega, fun g hg => ⟨by have := gramsV_off g hg; omega, fun y hy => ?_⟩⟩
  obtain ⟨c, _, rfl⟩ := List.mem_map.1 hg
  obtain ⟨i, hi, _, rfl⟩ := offK_mem hy
  omega
theorem codeAt_eqq {s t : List UInt8} {i j : Nat} (hi : i + 2 < s.length) (hj : j + 2 < t.length) : codeAt s i = codeAt t j ↔ (foldB s[i] = foldB t[j] ∧ foldB s[i + 1] = foldB t[j + 1] ∧ foldB s[i + 2] = foldB t[j + 2]) := by
  rw [codeAt_eq hi, codeAt_eq hj]
  constructor
  · intro h; exact code3_inj h
  · rintro ⟨h1, h2, h3⟩; rw [h1, h2, h3]
theorem findV_inc (s t : List UInt8) : Inc (findV s t) := by
  unfold findV findK Inc
  rw [List.pairwise_map]
  refine List.Pairwise.sublist List.filter_sublist ?_
  exact List.pairwise_lt_range.imp fun h => by omega
theorem exact_cand {s t : List UInt8} (hs : s.length ≤ 900) (ht : ¬ t.length < 3) : candV (gramsV s) t = findV (foldS s) (foldS t) := by
  have hv : ∀ x : Int, x ∈ candV (gramsV s) t ↔ x ∈ atV (gramsV s) (codeAt t 0) ∧ 0 ≤ x ∧ ∀ i, i < t.length - 2 → x + i ∈ atV (gramsV s) (codeAt t i) := fun x => by
    unfold candV candI
    rw [if_neg ht, ins_foldl_mem, List.take_length, List.mem_filter, candJ_iff]
    simp
  have hinc : Inc (candV (gramsV s) t) := by unfold candV; rw [if_neg ht]; exact candI_inc _ _ _
  refine inc_unique hinc (findV_inc _ _) fun x => ?_
  rw [hv, findV_mem]
  constructor
  · rintro ⟨h1, h2, h3⟩
    obtain ⟨k, hk, _, rfl⟩ := (atV_grams s _ x).1 h1
    have hat : ∀ i, i < t.length - 2 → k + i < s.length - 2 ∧ codeAt s (k + i) = codeAt t i := fun i hi => by
      obtain ⟨j, hj, hc, he⟩ := (atV_grams s _ _).1 (h3 i hi)
      obtain rfl : j = k + i := by omega
      exact ⟨hj, hc⟩
    have hend := (hat (t.length - 3) (by omega)).1
    refine ⟨k, by simp; omega, ?_, rfl⟩
    rw [occ_iff]
    refine ⟨.inl (by simp; omega), fun j hj => ?_⟩
    have hj' : j < t.length := by simpa using hj
    have e1 : (foldS s)[k + j]? = some (foldB (s[k + j]'(by omega))) := by simp [foldS, List.getElem?_eq_getElem (show k + j < s.length by omega)]
    have e2 : (foldS t)[j]? = some (foldB t[j]) := by simp [foldS, List.getElem?_eq_getElem hj']
    rw [e1, e2]
    congr 1
    by_cases hl : j < t.length - 2
    · have h := (hat j hl)
      exact ((codeAt_eqq (by omega) (by omega)).1 h.2).1
    · have h := (hat (t.length - 3) (by omega))
      have h' := (codeAt_eqq (by omega) (by omega)).1 h.2
      by_cases e : j = t.length - 2
      · have := h'.2.1
        simp only [show k + (t.length - 3) + 1 = k + j by omega, show t.length - 3 + 1 = j by omega] at this
        exact this
      · have := h'.2.2
        simp only [show k + (t.length - 3) + 2 = k + j by omega, show t.length - 3 + 2 = j by omega] at this
        exact this
  · rintro ⟨k, hk, ho, rfl⟩
    rw [occ_iff] at ho
    obtain ⟨h1, h2⟩ := ho
    have hroom : k + t.length ≤ s.length := by
      rcases h1 with h | h
      · simpa using h
      · have := congrArg List.length h; simp at this; subst this; simp at ht
    have hb : ∀ j (hj : j < t.length), foldB (s[k + j]'(by omega)) = foldB t[j] := fun j hj => by
      have := h2 j (by simpa using hj)
      simp only [foldS, List.getElem?_map, List.getElem?_eq_getElem (show k + j < s.length by omega), List.getElem?_eq_getElem hj, Option.map_some, Option.some.injEq] at this
      exact this
    have hat : ∀ i, i < t.length - 2 → ((k : Int) + i) ∈ atV (gramsV s) (codeAt t i) := fun i hi => by
      refine (atV_grams s _ _).2 ⟨k + i, by omega, ?_, by omega⟩
      exact (codeAt_eqq (by omega) (by omega)).2 ⟨hb i (by omega), hb (i + 1) (by omega), hb (i + 2) (by omega)⟩
    exact ⟨by have := hat 0 (by omega); simpa using this, by omega, hat⟩
end Go.Hv
set_option linter.unusedVariables false
set_option linter.unusedSimpArgs false
namespace Go.Hv
open Go Go.Hv Go.Proofs
open Go.Proofs.Ytphohigoehpkeaa
theorem findV_len (s t : List UInt8) : (findV s t).length ≤ s.length + 1 := by
  have := findK_length s t (s.length + 1)
  rw [findK_all] at this; exact this
theorem apK_succ {m : Nat} {l : List Int} {i : Nat} (h : i < l.length) : apK m (l.take (i + 1)) = apS m (apK m (l.take i)) l[i] := by
  rw [List.take_succ_eq_append_getElem h, apK_snoc]
set_option maxHeartbeats 2000000 in
theorem apart_spec (s t : List UInt8) (b : Bool) (hs0 : s.length ≤ 140737488355328) (ht0 : t.length ≤ 140737488355328) : Spec1 Try.prog 7 [.str s, .str t, bo b] (bo true) := by
  have hfl := findV_len (fd b s) (fd b t)
  have hap := apart_count (fd b s) (fd b t)
  refine Spec1.of_HT Try.func7 rfl (by rw [Try.ntmps7]; simp) rfl ?_
  rw [Try.ntmps7]
  refine HT.seq ?_
  refine HT.region ?_   -- R0
  simp (disch := first | omega | (simp <;> omega) | fail) [wrap_i64, wrap_u64, wrap_u8']
  refine HT.seq ?_
  refine HT.seq ?_
  refine HT.region ?_   -- R1
  simp (disch := first | omega | (simp <;> omega) | fail) [wrap_i64, wrap_u64, wrap_u8']
  refine stepK.mk (.call1 _ _ _ _ rfl Ty.hb16 rfl (alive7_spec) rfl rfl) ?_
  simp (disch := first | omega | (simp <;> omega) | fail) [wrap_i64, wrap_u64, wrap_u8']
  refine HT.cond' ?_   -- if 12
  simp (disch := first | omega | (simp <;> omega) | fail) [wrap_i64, wrap_u64, wrap_u8']
  refine HT.skip ?_
  simp (disch := first | omega | (simp <;> omega) | fail) [wrap_i64, wrap_u64, wrap_u8']
  refine HT.seq ?_
  refine HT.seq ?_
  by_cases c1 : 400 < s.length
  · skip
    refine HT.region ?_   -- R3
    simp (disch := first | omega | (simp <;> omega) | fail) [wrap_i64, wrap_u64, wrap_u8', c1]
    refine HT.cond' ?_   -- if 20
    simp (disch := first | omega | (simp <;> omega) | fail) [wrap_i64, wrap_u64, wrap_u8']
    refine HT.seq ?_
    refine HT.region ?_   -- R4
    simp (disch := first | omega | (simp <;> omega) | fail) [wrap_i64, wrap_u64, wrap_u8']
    refine HT.ret ?_
    simp (disch := first | omega | (simp <;> omega) | fail) [wrap_i64, wrap_u64, wrap_u8']
  refine HT.region ?_   -- R3
  simp (disch := first | omega | (simp <;> omega) | fail) [wrap_i64, wrap_u64, wrap_u8', c1]
  refine HT.cond' ?_   -- if 20
  simp (disch := first | omega | (simp <;> omega) | fail) [wrap_i64, wrap_u64, wrap_u8']
  refine ⟨fun h20 => ?_, fun h20 => ?_⟩
  · skip
    refine HT.seq ?_
    refine HT.region ?_   -- R4
    simp (disch := first | omega | (simp <;> omega) | fail) [wrap_i64, wrap_u64, wrap_u8']
    refine HT.ret ?_
    simp (disch := first | omega | (simp <;> omega) | fail) [wrap_i64, wrap_u64, wrap_u8']
  · skip
    have hs : s.length ≤ 1000000 := by omega
    have ht : t.length ≤ 1000000 := by omega
    rw [fd_length] at hfl hap
    refine HT.skip ?_
    simp (disch := first | omega | (simp <;> omega) | fail) [wrap_i64, wrap_u64, wrap_u8']
    refine HT.seq ?_
    refine HT.region ?_   -- R5
    simp (disch := first | omega | (simp <;> omega) | fail) [wrap_i64, wrap_u64, wrap_u8']
    refine stepK.mk (.call1f _ _ _ _ _ rfl Ty.hb18 rfl rfl (Find_spec s t b hs ht) rfl) ?_
    simp (disch := first | omega | (simp <;> omega) | fail) [wrap_i64, wrap_u64, wrap_u8']
    refine HT.seq ?_
    refine HT.region ?_   -- R6
    simp (disch := first | omega | (simp <;> omega) | fail) [wrap_i64, wrap_u64, wrap_u8']
    refine HT.seq ?_
    refine HT.region ?_   -- R7
    simp (disch := first | omega | (simp <;> omega) | fail) [wrap_i64, wrap_u64, wrap_u8']
    refine HT.seq ?_
    refine HT.seq ?_
    refine HT.region ?_   -- R8
    simp (disch := first | omega | (simp <;> omega) | fail) [wrap_i64, wrap_u64, wrap_u8']
    refine HT.block ?_
    refine HT.loopK (fun k : {k : Nat // k ≤ (findV (fd b s) (fd b t)).length} => [.s 10 (i64 k), .s 8 (i64 (apK t.length ((findV (fd b s) (fd b t)).take k)).1), .s 9 (i64 (apK t.length ((findV (fd b s) (fd b t)).take k)).2)]) [0, 1, 2, 7] [] (fun k => (findV (fd b s) (fd b t)).length - k) (⟨0, by omega⟩) ?_ ?_   -- block 0 turned [8, 9, 10, 37, 38, 39, 40, 41, 42, 43]
    · simp (disch := first | omega | (simp <;> omega) | fail) [wrap_i64, wrap_u64, wrap_u8', apK]
    rintro ⟨k, hk⟩
    simp (disch := first | omega | (simp <;> omega) | fail) [wrap_i64, wrap_u64, wrap_u8']
    refine HT.seq ?_
    refine HT.seq ?_
    refine HT.region ?_   -- R9
    simp (disch := first | omega | (simp <;> omega) | fail) [wrap_i64, wrap_u64, wrap_u8']
    refine HT.cond' ?_   -- if 28
    simp (disch := first | omega | (simp <;> omega) | fail) [wrap_i64, wrap_u64, wrap_u8']
    refine ⟨fun h28 => ?_, fun h28 => ?_⟩
    · skip
      have hk' : k < (findV (fd b s) (fd b t)).length := by omega
      obtain ⟨x, hx, _, hxe⟩ := (findV_mem _ _ _).1 (List.getElem_mem hk')
      rw [fd_length] at hx
      have hle := apK_le t.length (findV (fd b s) (fd b t)) k
      have c3 : ¬ (findV (fd b s) (fd b t))[k] < 0 := by omega
      have c4 : ¬ (s.length : Int) < (findV (fd b s) (fd b t))[k] := by omega
      have tn : max (findV (fd b s) (fd b t))[k] 0 = (findV (fd b s) (fd b t))[k] := by omega
      refine HT.skip ?_
      simp (disch := first | omega | (simp <;> omega) | fail) [wrap_i64, wrap_u64, wrap_u8']
      refine HT.seq ?_
      refine HT.block ?_
      refine HT.seq ?_
      refine HT.seq ?_
      refine HT.region ?_   -- R11
      simp (disch := first | omega | (simp <;> omega) | fail) [wrap_i64, wrap_u64, wrap_u8', c3, c4]
      refine HT.cond' ?_   -- if 44
      simp (disch := first | omega | (simp <;> omega) | fail) [wrap_i64, wrap_u64, wrap_u8']
      refine HT.skip ?_
      simp (disch := first | omega | (simp <;> omega) | fail) [wrap_i64, wrap_u64, wrap_u8']
      refine HT.seq ?_
      refine HT.region ?_   -- R13
      simp (disch := first | omega | (simp <;> omega) | fail) [wrap_i64, wrap_u64, wrap_u8']
      refine HT.cond' ?_   -- if 50
      simp (disch := first | omega | (simp <;> omega) | fail) [wrap_i64, wrap_u64, wrap_u8']
      refine ⟨fun h50 => ?_, fun h50 => ?_⟩
      · skip
        refine HT.seq ?_
        refine HT.region ?_   -- R14
        simp (disch := first | omega | (simp <;> omega) | fail) [wrap_i64, wrap_u64, wrap_u8']
        refine HT.region ?_   -- R15
        simp (disch := first | omega | (simp <;> omega) | fail) [wrap_i64, wrap_u64, wrap_u8']
        refine HT.region ?_   -- R10
        simp (disch := first | omega | (simp <;> omega) | fail) [wrap_i64, wrap_u64, wrap_u8']
        refine Round.mk' (⟨k + 1, by omega⟩) (by dsimp only; omega) rfl ?_
        simp (disch := first | omega | (simp <;> omega) | fail) [wrap_i64, wrap_u64, wrap_u8', apK_succ hk', apS, h50, tn]
      · skip
        refine HT.skip ?_
        simp (disch := first | omega | (simp <;> omega) | fail) [wrap_i64, wrap_u64, wrap_u8']
        refine HT.region ?_   -- R10
        simp (disch := first | omega | (simp <;> omega) | fail) [wrap_i64, wrap_u64, wrap_u8']
        refine Round.mk' (⟨k + 1, by omega⟩) (by dsimp only; omega) rfl ?_
        simp (disch := first | omega | (simp <;> omega) | fail) [wrap_i64, wrap_u64, wrap_u8', apK_succ hk', apS, h50, tn]
    · skip
      obtain rfl : k = (findV (fd b s) (fd b t)).length := by omega
      rw [List.take_length, hap]
      refine HT.exit ?_
      simp (disch := first | omega | (simp <;> omega) | fail) [wrap_i64, wrap_u64, wrap_u8']
      refine HT.seq ?_
      refine HT.region ?_   -- R16
      simp (disch := first | omega | (simp <;> omega) | fail) [wrap_i64, wrap_u64, wrap_u8']
      refine stepK.mk (.call1 _ _ _ _ rfl Ty.hb20 rfl (Count_spec s t b hs ht) rfl rfl) ?_
      simp (disch := first | omega | (simp <;> omega) | fail) [wrap_i64, wrap_u64, wrap_u8']
      refine HT.ret ?_
      simp (disch := first | omega | (simp <;> omega) | fail) [wrap_i64, wrap_u64, wrap_u8']
theorem any_succ {l : List Int} {i : Nat} (p : Int → Bool) (h : i < l.length) : (l.take (i + 1)).any p = ((l.take i).any p || p l[i]) := by
  rw [List.take_succ_eq_append_getElem h, List.any_append]; simp
set_option maxHeartbeats 2000000 in
theorem needs_spec (a t c : List UInt8) (ha0 : a.length ≤ 140737488355328) (ht0 : t.length ≤ 140737488355328) (hc0 : c.length ≤ 140737488355328) : Spec1 Try.prog 8 [.str a, .str t, .str c] (bo true) := by
  have hfl := findV_len (foldS (a ++ foldS t ++ c)) (foldS t)
  have hfd := needs_found a t c
  have hcd := needs_codes a t c
  have hol := ofV_length (a ++ foldS t ++ c)
  refine Spec1.of_HT Try.func8 rfl (by rw [Try.ntmps8]; simp) rfl ?_
  rw [Try.ntmps8]
  refine HT.seq ?_
  refine HT.region ?_   -- R0
  simp (disch := first | omega | (simp <;> omega) | fail) [wrap_i64, wrap_u64, wrap_u8']
  refine HT.seq ?_
  refine HT.seq ?_
  refine HT.region ?_   -- R1
  simp (disch := first | omega | (simp <;> omega) | fail) [wrap_i64, wrap_u64, wrap_u8']
  refine stepK.mk (.call1 _ _ _ _ rfl Ty.hb16 rfl (alive7_spec) rfl rfl) ?_
  simp (disch := first | omega | (simp <;> omega) | fail) [wrap_i64, wrap_u64, wrap_u8']
  refine HT.cond' ?_   -- if 12
  simp (disch := first | omega | (simp <;> omega) | fail) [wrap_i64, wrap_u64, wrap_u8']
  refine HT.skip ?_
  simp (disch := first | omega | (simp <;> omega) | fail) [wrap_i64, wrap_u64, wrap_u8']
  refine HT.seq ?_
  refine HT.seq ?_
  by_cases c1 : 40 < a.length
  · skip
    refine HT.region ?_   -- R3
    simp (disch := first | omega | (simp <;> omega) | fail) [wrap_i64, wrap_u64, wrap_u8', c1]
    refine HT.cond' ?_   -- if 25
    simp (disch := first | omega | (simp <;> omega) | fail) [wrap_i64, wrap_u64, wrap_u8']
    refine HT.seq ?_
    refine HT.region ?_   -- R4
    simp (disch := first | omega | (simp <;> omega) | fail) [wrap_i64, wrap_u64, wrap_u8']
    refine HT.ret ?_
    simp (disch := first | omega | (simp <;> omega) | fail) [wrap_i64, wrap_u64, wrap_u8', hcd]
  by_cases c2 : 40 < t.length
  · skip
    refine HT.region ?_   -- R3
    simp (disch := first | omega | (simp <;> omega) | fail) [wrap_i64, wrap_u64, wrap_u8', c1, c2]
    refine HT.cond' ?_   -- if 25
    simp (disch := first | omega | (simp <;> omega) | fail) [wrap_i64, wrap_u64, wrap_u8']
    refine HT.seq ?_
    refine HT.region ?_   -- R4
    simp (disch := first | omega | (simp <;> omega) | fail) [wrap_i64, wrap_u64, wrap_u8']
    refine HT.ret ?_
    simp (disch := first | omega | (simp <;> omega) | fail) [wrap_i64, wrap_u64, wrap_u8', hcd]
  refine HT.region ?_   -- R3
  simp (disch := first | omega | (simp <;> omega) | fail) [wrap_i64, wrap_u64, wrap_u8', c1, c2]
  refine HT.cond' ?_   -- if 25
  simp (disch := first | omega | (simp <;> omega) | fail) [wrap_i64, wrap_u64, wrap_u8']
  refine ⟨fun h25 => ?_, fun h25 => ?_⟩
  · skip
    refine HT.seq ?_
    refine HT.region ?_   -- R4
    simp (disch := first | omega | (simp <;> omega) | fail) [wrap_i64, wrap_u64, wrap_u8']
    refine HT.ret ?_
    simp (disch := first | omega | (simp <;> omega) | fail) [wrap_i64, wrap_u64, wrap_u8', hcd]
  · skip
    have ha : a.length ≤ 40 := by omega
    have ht : t.length ≤ 40 := by omega
    have hc : c.length ≤ 40 := by omega
    have e1 : ∀ x, fd true x = foldS x := fun _ => rfl
    have hl : (a ++ (foldS t ++ c)).length = a.length + (t.length + c.length) := by simp
    rw [List.append_assoc] at hfl hfd hcd hol
    rw [foldS_length] at hfl
    refine HT.skip ?_
    simp (disch := first | omega | (simp <;> omega) | fail) [wrap_i64, wrap_u64, wrap_u8']
    refine HT.seq ?_
    refine HT.region ?_   -- R5
    simp (disch := first | omega | (simp <;> omega) | fail) [wrap_i64, wrap_u64, wrap_u8']
    refine stepK.mk (.call1 _ _ _ _ rfl Ty.hb28 rfl (refFold_spec t (by omega)) rfl rfl) ?_
    simp (disch := first | omega | (simp <;> omega) | fail) [wrap_i64, wrap_u64, wrap_u8']
    refine HT.seq ?_
    refine HT.region ?_   -- R6
    simp (disch := first | omega | (simp <;> omega) | fail) [wrap_i64, wrap_u64, wrap_u8']
    refine stepK.mk (.call1f _ _ _ _ _ rfl Ty.hb18 rfl rfl (Find_spec (a ++ (foldS t ++ c)) t true (by omega) (by omega)) rfl) ?_
    simp (disch := first | omega | (simp <;> omega) | fail) [wrap_i64, wrap_u64, wrap_u8', e1]
    refine HT.seq ?_
    refine HT.region ?_   -- R7
    simp (disch := first | omega | (simp <;> omega) | fail) [wrap_i64, wrap_u64, wrap_u8']
    refine HT.seq ?_
    refine HT.seq ?_
    refine HT.region ?_   -- R8
    simp (disch := first | omega | (simp <;> omega) | fail) [wrap_i64, wrap_u64, wrap_u8']
    refine HT.block ?_
    refine HT.loopK (fun k : {k : Nat // k ≤ (findV (foldS (a ++ (foldS t ++ c))) (foldS t)).length} => [.s 10 (i64 k), .s 9 (bo (((findV (foldS (a ++ (foldS t ++ c))) (foldS t)).take k).any fun x => decide (x = (a.length : Int))))]) [0, 1, 7, 8, 53, 54, 55, 56] [] (fun k => (findV (foldS (a ++ (foldS t ++ c))) (foldS t)).length - k) (⟨0, by omega⟩) ?_ ?_   -- block 0 turned [9, 10, 43, 44, 45, 46, 47, 48, 49]
    · simp (disch := first | omega | (simp <;> omega) | fail) [wrap_i64, wrap_u64, wrap_u8']
    rintro ⟨k, hk⟩
    simp (disch := first | omega | (simp <;> omega) | fail) [wrap_i64, wrap_u64, wrap_u8']
    refine HT.seq ?_
    refine HT.seq ?_
    refine HT.region ?_   -- R9
    simp (disch := first | omega | (simp <;> omega) | fail) [wrap_i64, wrap_u64, wrap_u8']
    refine HT.cond' ?_   -- if 38
    simp (disch := first | omega | (simp <;> omega) | fail) [wrap_i64, wrap_u64, wrap_u8']
    refine ⟨fun h38 => ?_, fun h38 => ?_⟩
    · skip
      have hk' : k < (findV (foldS (a ++ (foldS t ++ c))) (foldS t)).length := by omega
      refine HT.skip ?_
      simp (disch := first | omega | (simp <;> omega) | fail) [wrap_i64, wrap_u64, wrap_u8']
      refine HT.seq ?_
      refine HT.block ?_
      by_cases c5 : ((findV (foldS (a ++ (foldS t ++ c))) (foldS t)).take k).any (fun x => decide (x = (a.length : Int))) = true
      · skip
        refine HT.region ?_   -- R11
        simp (disch := first | omega | (simp <;> omega) | fail) [wrap_i64, wrap_u64, wrap_u8', c5]
        refine HT.region ?_   -- R10
        simp (disch := first | omega | (simp <;> omega) | fail) [wrap_i64, wrap_u64, wrap_u8']
        refine Round.mk' (⟨k + 1, by omega⟩) (by dsimp only; omega) rfl ?_
        simp (disch := first | omega | (simp <;> omega) | fail) [wrap_i64, wrap_u64, wrap_u8', any_succ _ hk', c5]
      rw [Bool.not_eq_true] at c5
      refine HT.region ?_   -- R11
      simp (disch := first | omega | (simp <;> omega) | fail) [wrap_i64, wrap_u64, wrap_u8', c5]
      refine HT.region ?_   -- R10
      simp (disch := first | omega | (simp <;> omega) | fail) [wrap_i64, wrap_u64, wrap_u8']
      refine Round.mk' (⟨k + 1, by omega⟩) (by dsimp only; omega) rfl ?_
      simp (disch := first | omega | (simp <;> omega) | fail) [wrap_i64, wrap_u64, wrap_u8', any_succ _ hk', c5]
    · skip
      obtain rfl : k = (findV (foldS (a ++ (foldS t ++ c))) (foldS t)).length := by omega
      have hany : ((findV (foldS (a ++ (foldS t ++ c))) (foldS t)).any fun x => decide (x = (a.length : Int))) = true := List.any_eq_true.2 ⟨_, hfd, by simp⟩
      rw [List.take_length, hany]
      refine HT.exit ?_
      simp (disch := first | omega | (simp <;> omega) | fail) [wrap_i64, wrap_u64, wrap_u8']
      refine HT.seq ?_
      refine HT.region ?_   -- R12
      simp (disch := first | omega | (simp <;> omega) | fail) [wrap_i64, wrap_u64, wrap_u8']
      refine stepK.mk (.call1f _ _ _ _ _ rfl Ty.hb29 rfl rfl (Of_spec (a ++ (foldS t ++ c)) (by omega)) rfl) ?_
      simp (disch := first | omega | (simp <;> omega) | fail) [wrap_i64, wrap_u64, wrap_u8']
      refine stepK.mk (.call1 _ _ _ _ rfl Ty.hb24 rfl (Possible_spec false (ofV (a ++ (foldS t ++ c))) t (by omega) (by omega)) rfl rfl) ?_
      simp (disch := first | omega | (simp <;> omega) | fail) [wrap_i64, wrap_u64, wrap_u8']
      refine HT.ret ?_
      simp (disch := first | omega | (simp <;> omega) | fail) [wrap_i64, wrap_u64, wrap_u8', hcd]
def smK (s t : List UInt8) (i j : Nat) : Bool := (List.range j).all fun m => decide (foldB (s.getD (i + m) 0) = foldB (t.getD m 0))
theorem smK_succ (s t : List UInt8) (i j : Nat) : smK s t i (j + 1) = (smK s t i j && decide (foldB (s.getD (i + j) 0) = foldB (t.getD j 0))) := by
  unfold smK; rw [List.range_succ, List.all_append]; simp
theorem smK_occ {s t : List UInt8} {i : Nat} (h : i + t.length ≤ s.length) : smK s t i t.length = occ (foldS s) (foldS t) i := by
  rw [Bool.eq_iff_iff, occ_iff]
  unfold smK
  simp only [List.all_eq_true, List.mem_range, decide_eq_true_eq, foldS_length]
  have e1 : ∀ (l : List UInt8) (j : Nat), j < l.length → (foldS l)[j]? = some (foldB (l.getD j 0)) := fun l j hj => by
    rw [List.getD_eq_getElem?_getD]; simp [foldS, List.getElem?_eq_getElem hj]
  constructor
  · intro hh
    exact ⟨.inl h, fun j hj => by rw [e1 s _ (by omega), e1 t _ hj, hh j hj]⟩
  · rintro ⟨_, hh⟩ j hj
    have := hh j hj
    rw [e1 s _ (by omega), e1 t _ hj] at this
    exact Option.some.inj this
theorem findK_pre (s t : List UInt8) : ∀ m k, ∃ r, findK s t (k + m) = findK s t k ++ r
  | 0, k => ⟨[], by simp⟩
  | m + 1, k => by
    obtain ⟨r, hr⟩ := findK_pre s t m k
    exact ⟨_, by rw [← Nat.add_assoc, findK_succ, hr, List.append_assoc]⟩
theorem findV_at {s t : List UInt8} {i : Nat} (hi : i < s.length + 1 - t.length) (h : occ s t i = true) : ∃ hk : (findK s t i).length < (findV s t).length, (findV s t)[(findK s t i).length] = (i : Int) := by
  obtain ⟨r, hr⟩ := findK_pre s t (s.length + 1 - t.length - (i + 1)) (i + 1)
  rw [show i + 1 + (s.length + 1 - t.length - (i + 1)) = s.length + 1 - t.length by omega, findK_succ, if_pos h] at hr
  have hv : findV s t = findK s t i ++ [(i : Int)] ++ r := hr
  rw [hv]
  refine ⟨by simp, ?_⟩
  rw [List.getElem_append_left (by simp), List.getElem_append_right (by simp)]
  simp
set_option maxHeartbeats 4000000 in
theorem exact_spec (s t : List UInt8) (hs0 : s.length ≤ 140737488355328) (ht0 : t.length ≤ 140737488355328) : Spec1 Try.prog 15 [.str s, .str t] (bo true) := by
  refine Spec1.of_HT Try.func15 rfl (by rw [Try.ntmps15]; simp) rfl ?_
  rw [Try.ntmps15]
  refine HT.seq ?_
  refine HT.region ?_   -- R0
  simp (disch := first | omega | (simp <;> omega) | fail) [wrap_i64, wrap_u64, wrap_u8']
  refine HT.seq ?_
  refine HT.seq ?_
  refine HT.region ?_   -- R1
  simp (disch := first | omega | (simp <;> omega) | fail) [wrap_i64, wrap_u64, wrap_u8']
  refine stepK.mk (.call1 _ _ _ _ rfl Ty.hb16 rfl (alive7_spec) rfl rfl) ?_
  simp (disch := first | omega | (simp <;> omega) | fail) [wrap_i64, wrap_u64, wrap_u8']
  refine HT.cond' ?_   -- if 12
  simp (disch := first | omega | (simp <;> omega) | fail) [wrap_i64, wrap_u64, wrap_u8']
  refine HT.skip ?_
  simp (disch := first | omega | (simp <;> omega) | fail) [wrap_i64, wrap_u64, wrap_u8']
  refine HT.seq ?_
  refine HT.seq ?_
  by_cases c1 : 400 < s.length
  · skip
    refine HT.region ?_   -- R3
    simp (disch := first | omega | (simp <;> omega) | fail) [wrap_i64, wrap_u64, wrap_u8', c1]
    refine HT.cond' ?_   -- if 20
    simp (disch := first | omega | (simp <;> omega) | fail) [wrap_i64, wrap_u64, wrap_u8']
    refine HT.seq ?_
    refine HT.region ?_   -- R4
    simp (disch := first | omega | (simp <;> omega) | fail) [wrap_i64, wrap_u64, wrap_u8']
    refine HT.ret ?_
    simp (disch := first | omega | (simp <;> omega) | fail) [wrap_i64, wrap_u64, wrap_u8']
  refine HT.region ?_   -- R3
  simp (disch := first | omega | (simp <;> omega) | fail) [wrap_i64, wrap_u64, wrap_u8', c1]
  refine HT.cond' ?_   -- if 20
  simp (disch := first | omega | (simp <;> omega) | fail) [wrap_i64, wrap_u64, wrap_u8']
  refine ⟨fun h20 => ?_, fun h20 => ?_⟩
  · skip
    refine HT.seq ?_
    refine HT.region ?_   -- R4
    simp (disch := first | omega | (simp <;> omega) | fail) [wrap_i64, wrap_u64, wrap_u8']
    refine HT.ret ?_
    simp (disch := first | omega | (simp <;> omega) | fail) [wrap_i64, wrap_u64, wrap_u8']
  · skip
    have hs : s.length ≤ 400 := by omega
    have ht : t.length ≤ 40 := by omega
    have hfl := findV_len (foldS s) (foldS t)
    rw [foldS_length] at hfl
    refine HT.skip ?_
    simp (disch := first | omega | (simp <;> omega) | fail) [wrap_i64, wrap_u64, wrap_u8']
    refine HT.seq ?_
    refine HT.region ?_   -- R5
    simp (disch := first | omega | (simp <;> omega) | fail) [wrap_i64, wrap_u64, wrap_u8']
    refine stepK.mk (.call1f _ _ _ _ _ rfl Ty.hb38 rfl rfl (Grams_spec s (by omega)) rfl) ?_
    simp (disch := first | omega | (simp <;> omega) | fail) [wrap_i64, wrap_u64, wrap_u8']
    refine stepK.mk (.callTf _ _ _ _ _ rfl Ty.hb26 rfl rfl (Cand_spec false (gramsV s) t (gramsV_GB (by omega)) (by omega)) rfl) ?_
    simp (disch := first | omega | (simp <;> omega) | fail) [wrap_i64, wrap_u64, wrap_u8']
    refine HT.seq ?_
    refine HT.seq ?_
    by_cases c0 : t.length < 3
    · skip
      refine HT.region ?_   -- R6
      simp (disch := first | omega | (simp <;> omega) | fail) [wrap_i64, wrap_u64, wrap_u8']
      refine HT.cond' ?_   -- if 30
      simp (disch := first | omega | (simp <;> omega) | fail) [wrap_i64, wrap_u64, wrap_u8']
      refine HT.seq ?_
      refine HT.region ?_   -- R7
      simp (disch := first | omega | (simp <;> omega) | fail) [wrap_i64, wrap_u64, wrap_u8', candV, c0]
      refine HT.ret ?_
      simp (disch := first | omega | (simp <;> omega) | fail) [wrap_i64, wrap_u64, wrap_u8']
    have hex := exact_cand (s := s) (t := t) (by omega) c0
    rw [hex]
    refine HT.region ?_   -- R6
    simp (disch := first | omega | (simp <;> omega) | fail) [wrap_i64, wrap_u64, wrap_u8']
    refine HT.cond' ?_   -- if 30
    simp (disch := first | omega | (simp <;> omega) | fail) [wrap_i64, wrap_u64, wrap_u8']
    refine HT.skip ?_
    simp (disch := first | omega | (simp <;> omega) | fail) [wrap_i64, wrap_u64, wrap_u8']
    refine HT.seq ?_
    refine HT.region ?_   -- R8
    simp (disch := first | omega | (simp <;> omega) | fail) [wrap_i64, wrap_u64, wrap_u8']
    refine HT.seq ?_
    refine HT.seq ?_
    refine HT.region ?_   -- R9
    simp (disch := first | omega | (simp <;> omega) | fail) [wrap_i64, wrap_u64, wrap_u8']
    refine HT.block ?_
    refine HT.loopK (fun i : {i : Nat // i ≤ s.length + 1 - t.length} => [.s 8 (i64 i), .s 7 (i64 (findK (foldS s) (foldS t) i).length)]) [0, 1, 5, 6, 84, 85, 86, 87] [] (fun i => s.length + 1 - t.length - i) (⟨0, by omega⟩) ?_ ?_   -- block 0 turned [7, 8, 55, 56, 57, 58, 59, 60, 61, 62, 63, 64, 65, 73, 74, 75, 76, 77, 78]
    · simp (disch := first | omega | (simp <;> omega) | fail) [wrap_i64, wrap_u64, wrap_u8', show findK (foldS s) (foldS t) 0 = [] from rfl]
    rintro ⟨i, hi⟩
    simp (disch := first | omega | (simp <;> omega) | fail) [wrap_i64, wrap_u64, wrap_u8']
    refine HT.seq ?_
    refine HT.seq ?_
    refine HT.region ?_   -- R10
    simp (disch := first | omega | (simp <;> omega) | fail) [wrap_i64, wrap_u64, wrap_u8']
    refine HT.cond' ?_   -- if 44
    simp (disch := first | omega | (simp <;> omega) | fail) [wrap_i64, wrap_u64, wrap_u8']
    refine ⟨fun h44 => ?_, fun h44 => ?_⟩
    · skip
      have hi' : i + t.length ≤ s.length := by omega
      have hkl := findK_length (foldS s) (foldS t) i
      refine HT.skip ?_
      simp (disch := first | omega | (simp <;> omega) | fail) [wrap_i64, wrap_u64, wrap_u8']
      refine HT.seq ?_
      refine HT.block ?_
      refine HT.seq ?_
      refine HT.region ?_   -- R12
      simp (disch := first | omega | (simp <;> omega) | fail) [wrap_i64, wrap_u64, wrap_u8']
      refine HT.seq ?_
      refine HT.seq ?_
      refine HT.region ?_   -- R13
      simp (disch := first | omega | (simp <;> omega) | fail) [wrap_i64, wrap_u64, wrap_u8']
      refine HT.block ?_
      refine HT.loopK (fun j : {j : Nat // j ≤ t.length} => [.s 10 (i64 j), .s 9 (bo (smK s t i j))]) [0, 1, 5, 6, 7, 8, 73, 74, 75, 76, 77, 78, 84, 85, 86, 87] [] (fun j => t.length - j) (⟨0, by omega⟩) ?_ ?_   -- block 2 turned [9, 10, 55, 56, 57, 58, 59, 60, 61, 62, 63, 64, 65]
      · simp (disch := first | omega | (simp <;> omega) | fail) [wrap_i64, wrap_u64, wrap_u8', smK]
      rintro ⟨j, hj⟩
      simp (disch := first | omega | (simp <;> omega) | fail) [wrap_i64, wrap_u64, wrap_u8']
      refine HT.seq ?_
      refine HT.seq ?_
      refine HT.region ?_   -- R14
      simp (disch := first | omega | (simp <;> omega) | fail) [wrap_i64, wrap_u64, wrap_u8']
      refine HT.cond' ?_   -- if 50
      simp (disch := first | omega | (simp <;> omega) | fail) [wrap_i64, wrap_u64, wrap_u8']
      refine ⟨fun h50 => ?_, fun h50 => ?_⟩
      · skip
        have hj' : j < t.length := by omega
        have hsk : i + j < s.length := by omega
        have hz : ((i : Int) + (j : Int)).toNat = i + j := by omega
        have g1 : s.getD (i + j) 0 = s[i + j] := getD_eq hsk
        have g2 : t.getD j 0 = t[j] := getD_eq hj'
        refine HT.skip ?_
        simp (disch := first | omega | (simp <;> omega) | fail) [wrap_i64, wrap_u64, wrap_u8']
        refine HT.seq ?_
        refine HT.block ?_
        by_cases c4 : ¬ smK s t i j = true
        · skip
          refine HT.draw [.batch [0, 1, 2, 3, 4, 5, 6, 7, 8, 9, 10, 11, 12, 13, 14]] (by kernel_rfl) ?_   -- R16
          simp -dsimp (disch := first | omega | (simp <;> omega) | fail) [wrap_i64, wrap_u64, wrap_u8', hz, c4, u8_inj]
          refine HT.region ?_   -- R15
          simp (disch := first | omega | (simp <;> omega) | fail) [wrap_i64, wrap_u64, wrap_u8']
          refine Round.mk' (⟨j + 1, by omega⟩) (by dsimp only; omega) rfl ?_
          simp (disch := first | omega | (simp <;> omega) | fail) [wrap_i64, wrap_u64, wrap_u8', smK_succ, c4]
        rw [Classical.not_not] at c4
        refine HT.draw [.batch [0, 1, 2, 3, 4, 5, 6, 7, 8, 9, 10, 11, 12, 13, 14]] (by kernel_rfl) ?_   -- R16
        simp -dsimp (disch := first | omega | (simp <;> omega) | fail) [wrap_i64, wrap_u64, wrap_u8', hz, c4, u8_inj]
        refine stepK.mk (.call1 _ _ _ rfl Ty.hb45 rfl rfl (FoldByte_spec s[i + j])) ?_
        simp -dsimp (disch := first | omega | (simp <;> omega) | fail) [wrap_i64, wrap_u64, wrap_u8', hz, c4, u8_inj]
        refine stepK.mk (.call1 _ _ _ rfl Ty.hb45 rfl rfl (FoldByte_spec t[j])) ?_
        simp -dsimp (disch := first | omega | (simp <;> omega) | fail) [wrap_i64, wrap_u64, wrap_u8', hz, c4, u8_inj]
        refine HT.region ?_   -- R15
        simp (disch := first | omega | (simp <;> omega) | fail) [wrap_i64, wrap_u64, wrap_u8']
        refine Round.mk' (⟨j + 1, by omega⟩) (by dsimp only; omega) rfl ?_
        simp (disch := first | omega | (simp <;> omega) | fail) [wrap_i64, wrap_u64, wrap_u8', smK_succ, c4]
      · skip
        obtain rfl : j = t.length := by omega
        have hso := smK_occ hi'
        refine HT.exit ?_
        simp (disch := first | omega | (simp <;> omega) | fail) [wrap_i64, wrap_u64, wrap_u8']
        refine HT.seq ?_
        by_cases c6 : ¬ occ (foldS s) (foldS t) i = true
        · skip
          refine HT.region ?_   -- R17
          simp (disch := first | omega | (simp <;> omega) | fail) [wrap_i64, wrap_u64, wrap_u8', hso, c6]
          refine HT.cond' ?_   -- if 67
          simp (disch := first | omega | (simp <;> omega) | fail) [wrap_i64, wrap_u64, wrap_u8']
          refine HT.skip ?_
          simp (disch := first | omega | (simp <;> omega) | fail) [wrap_i64, wrap_u64, wrap_u8']
          refine HT.region ?_   -- R11
          simp (disch := first | omega | (simp <;> omega) | fail) [wrap_i64, wrap_u64, wrap_u8']
          refine Round.mk' (⟨i + 1, by omega⟩) (by dsimp only; omega) rfl ?_
          simp (disch := first | omega | (simp <;> omega) | fail) [wrap_i64, wrap_u64, wrap_u8', findK_succ, c6]
        rw [Classical.not_not] at c6
        obtain ⟨hk1, hk2⟩ := findV_at (by simp; omega) c6
        refine HT.region ?_   -- R17
        simp (disch := first | omega | (simp <;> omega) | fail) [wrap_i64, wrap_u64, wrap_u8', hso, c6]
        refine HT.cond' ?_   -- if 67
        simp (disch := first | omega | (simp <;> omega) | fail) [wrap_i64, wrap_u64, wrap_u8']
        refine HT.seq ?_
        refine HT.seq ?_
        refine HT.region ?_   -- R18
        simp (disch := first | omega | (simp <;> omega) | fail) [wrap_i64, wrap_u64, wrap_u8']
        refine HT.cond' ?_   -- if 79
        simp (disch := first | omega | (simp <;> omega) | fail) [wrap_i64, wrap_u64, wrap_u8']
        refine HT.skip ?_
        simp (disch := first | omega | (simp <;> omega) | fail) [wrap_i64, wrap_u64, wrap_u8']
        refine HT.region ?_   -- R20
        simp (disch := first | omega | (simp <;> omega) | fail) [wrap_i64, wrap_u64, wrap_u8']
        refine HT.region ?_   -- R11
        simp (disch := first | omega | (simp <;> omega) | fail) [wrap_i64, wrap_u64, wrap_u8']
        refine Round.mk' (⟨i + 1, by omega⟩) (by dsimp only; omega) rfl ?_
        simp (disch := first | omega | (simp <;> omega) | fail) [wrap_i64, wrap_u64, wrap_u8', findK_succ, c6]
    · skip
      obtain rfl : i = s.length + 1 - t.length := by omega
      have hfv : findK (foldS s) (foldS t) (s.length + 1 - t.length) = findV (foldS s) (foldS t) := by unfold findV; simp
      refine HT.exit ?_
      simp (disch := first | omega | (simp <;> omega) | fail) [wrap_i64, wrap_u64, wrap_u8']
      refine HT.seq ?_
      refine HT.region ?_   -- R21
      simp (disch := first | omega | (simp <;> omega) | fail) [wrap_i64, wrap_u64, wrap_u8', hfv]
      refine HT.ret ?_
      simp (disch := first | omega | (simp <;> omega) | fail) [wrap_i64, wrap_u64, wrap_u8']
end Go.Hv
set_option linter.unusedVariables false
/- What the laws of this seat lean on besides their arguments: out of the world's shape. -/
namespace Go.Hv
open Go Go.Proofs
open Go.Proofs.Ytphohigoehpkeaa
theorem gok {w : World} (h : w.ShapedOpen Try.prog) : GI.G w :=
  Go.Proofs.cell_of_shapedOpen_int (g := 0) (zero := #[.int .i64 0]) (t := 3) h (of_decide_eq_true (by kernel_rfl)) (by kernel_rfl) rfl (by kernel_rfl) (by kernel_rfl) Try.underlying3
end Go.Hv
