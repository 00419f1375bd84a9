import Derived.Test.YtphohigoehpkeaaLocateExactW2
import Derived.Lib.RowBridge
set_option linter.unusedVariables false
set_option linter.unusedSimpArgs false
namespace Go.Hv
open Go Go.Hv Go.Proofs
open Go.Proofs.Ytphohigoehpkeaa
set_option maxHeartbeats 1000000 in
theorem refFind_spec (s t : List UInt8) (b : Bool) (hs : s.length ≤ 1000000) (ht : t.length ≤ 1000000) : Spec1 Try.prog 19 [.str s, .str t, bo b] (.sl 1 false (intsHV (findV (fd b s) (fd b t)))) := by
  refine Spec1.of_HT Try.func19 rfl (by rw [Try.ntmps19]; simp) rfl ?_
  rw [Try.ntmps19]
  refine HT.seq ?_
  refine HT.region ?_   -- R0
  simp (disch := first | omega | (simp <;> omega) | fail) [wrap_i64, wrap_u64, wrap_u8']
  refine HT.seq ?_
  refine HT.region ?_   -- R1
  simp (disch := first | omega | (simp <;> omega) | fail) [wrap_i64, wrap_u64, wrap_u8']
  refine HT.weaken (HS.le_own (t := 7) 200 3 1 _ (by decide) rfl (by decide)) ?_
  refine HT.seq ?_
  refine HT.seq ?_
  refine HT.region ?_   -- R2
  simp (disch := first | omega | (simp <;> omega) | fail) [wrap_i64, wrap_u64, wrap_u8']
  refine HT.block ?_
  refine HT.loopK (fun k : {k : Nat // k ≤ s.length + 1} => [.s 8 (i64 k), .s 7 (.ref 200), .o 200 (.row 3 1 (intsHV (findK (fd b s) (fd b t) k)))]) [0, 1, 2] [] (fun k => s.length + 1 - k) (⟨0, by omega⟩) ?_ ?_   -- block 0 turned [7, 8]
  · simp (disch := first | omega | (simp <;> omega) | fail) [wrap_i64, wrap_u64, wrap_u8', show findK (fd b s) (fd b t) 0 = [] from rfl]
  rintro ⟨k, hk⟩
  simp (disch := first | omega | (simp <;> omega) | fail) [wrap_i64, wrap_u64, wrap_u8']
  refine HT.seq ?_
  refine HT.seq ?_
  refine HT.region ?_   -- R3
  simp (disch := first | omega | (simp <;> omega) | fail) [wrap_i64, wrap_u64, wrap_u8']
  refine HT.cond' ?_   -- if 12
  simp (disch := first | omega | (simp <;> omega) | fail) [wrap_i64, wrap_u64, wrap_u8']
  refine ⟨fun h12 => ?_, fun h12 => ?_⟩
  · skip
    have hk' : k ≤ s.length := by omega
    have hb := findK_length (fd b s) (fd b t) k
    refine HT.skip ?_
    simp (disch := first | omega | (simp <;> omega) | fail) [wrap_i64, wrap_u64, wrap_u8']
    refine HT.seq ?_
    refine HT.block ?_
    refine HT.seq ?_
    refine HT.region ?_   -- R5
    simp (disch := first | omega | (simp <;> omega) | fail) [wrap_i64, wrap_u64, wrap_u8']
    refine stepK.mk (.call1 _ _ _ _ rfl Ty.hb47 rfl (Occurs_spec s t k b hs ht (by omega)) rfl rfl) ?_
    simp (disch := first | omega | (simp <;> omega) | fail) [wrap_i64, wrap_u64, wrap_u8']
    refine HT.cond' ?_   -- if 19
    simp (disch := first | omega | (simp <;> omega) | fail) [wrap_i64, wrap_u64, wrap_u8']
    refine ⟨fun h19 => ?_, fun h19 => ?_⟩
    · skip
      refine HT.region ?_   -- R6
      simp (disch := first | omega | (simp <;> omega) | fail) [wrap_i64, wrap_u64, wrap_u8']
      refine HT.region ?_   -- R4
      simp (disch := first | omega | (simp <;> omega) | fail) [wrap_i64, wrap_u64, wrap_u8']
      refine Round.mk' (⟨k + 1, by omega⟩) (by dsimp only; omega) rfl ?_
      simp (disch := first | omega | (simp <;> omega) | fail) [wrap_i64, wrap_u64, wrap_u8', findK_succ, h19]
    · skip
      refine HT.skip ?_
      simp (disch := first | omega | (simp <;> omega) | fail) [wrap_i64, wrap_u64, wrap_u8']
      refine HT.region ?_   -- R4
      simp (disch := first | omega | (simp <;> omega) | fail) [wrap_i64, wrap_u64, wrap_u8']
      refine Round.mk' (⟨k + 1, by omega⟩) (by dsimp only; omega) rfl ?_
      simp (disch := first | omega | (simp <;> omega) | fail) [wrap_i64, wrap_u64, wrap_u8', findK_succ, h19]
  · skip
    obtain rfl : k = s.length + 1 := by omega
    have e0 := findK_all (fd b s) (fd b t)
    rw [fd_length] at e0
    refine HT.exit ?_
    simp (disch := first | omega | (simp <;> omega) | fail) [wrap_i64, wrap_u64, wrap_u8']
    refine HT.seq ?_
    refine HT.region ?_   -- R7
    simp (disch := first | omega | (simp <;> omega) | fail) [wrap_i64, wrap_u64, wrap_u8']
    refine HT.ret ?_
    simp (disch := first | omega | (simp <;> omega) | fail) [wrap_i64, wrap_u64, wrap_u8', e0]
theorem prefix_occ (s t : List UInt8) (k : Nat) : t.isPrefixOf (s.drop k) = occ s t k := by
  rw [Bool.eq_iff_iff, List.isPrefixOf_iff_prefix, List.prefix_iff_eq_take]
  unfold occ
  rw [decide_eq_true_iff]
  exact eq_comm
theorem count_at {s t : List UInt8} {k : Nat} (ht : t ≠ []) (h : occ s t k = true) : Lib.count (s.drop k) t = 1 + Lib.count (s.drop (k + t.length)) t := by
  have h0 : Lib.index (s.drop k) t = (0 : Nat) := Lib.index_first (Nat.zero_le _) (by simp [Lib.occAt, prefix_occ, h]) (fun j hj => absurd hj (Nat.not_lt_zero _))
  rw [Lib.count_hit ht h0, Nat.zero_add, List.drop_drop]
theorem count_skip {b : UInt8} {l t : List UInt8} (ht : t ≠ []) (h : t.isPrefixOf (b :: l) = false) : Lib.count (b :: l) t = Lib.count l t := by
  have hi : Lib.index (b :: l) t = if Lib.index l t == -1 then -1 else Lib.index l t + 1 := by
    conv => lhs; unfold Lib.index
    rw [h]; simp
  by_cases hm : Lib.index l t = -1
  · rw [Lib.count_miss hm, Lib.count_miss (by rw [hi, hm]; rfl)]
  · have hge := Lib.index_ge l t
    obtain ⟨j, hj⟩ : ∃ j : Nat, Lib.index l t = j := ⟨(Lib.index l t).toNat, by omega⟩
    rw [Lib.count_hit ht hj, Lib.count_hit (i := j + 1) ht (by rw [hi, if_neg (by simpa using hm), hj]; rfl)]
    rw [show j + 1 + t.length = (j + t.length) + 1 by omega, List.drop_succ_cons]
theorem count_past {s t : List UInt8} {k : Nat} (ht : t ≠ []) (h : ¬ occ s t k = true) : Lib.count (s.drop k) t = Lib.count (s.drop (k + 1)) t := by
  rcases Nat.lt_or_ge k s.length with hk | hk
  · have hp : t.isPrefixOf (s.drop k) = false := by rw [prefix_occ]; simpa using h
    rw [List.drop_eq_getElem_cons hk] at hp ⊢
    exact count_skip ht hp
  · rw [List.drop_eq_nil_of_le hk, List.drop_eq_nil_of_le (by omega)]
theorem count_nil {t : List UInt8} (ht : t ≠ []) : Lib.count [] t = 0 := by
  refine Lib.count_miss (Lib.index_none fun j hj => ?_)
  cases t with
  | nil => exact absurd rfl ht
  | cons a r => simp [Lib.occAt]
def countV (s t : List UInt8) : Nat := if t = [] then s.length + 1 else Lib.count s t
theorem libCount_spec (s t : List UInt8) (h1 : 1 ≤ t.length) (hs : s.length ≤ 1000000) : Spec1 Try.prog 48 [.str s, .str t] (i64 (Lib.count s t)) := by
  intro D w vs hD hG hn hrep
  obtain ⟨m, hm⟩ := hG
  have e : ∀ (j : Nat) (hj : j < vs.size) (l : List UInt8), [HV.str s, HV.str t][j]? = some (.str l) → vs[j]? = some (.string ⟨l.toArray⟩) := fun j hj l hl => by
    have h := Array.getElem?_eq_getElem hj
    have r := hrep j _ _ hl h
    generalize vs[j] = v at h r
    cases r; exact h
  have e0 := e 0 (by rw [hn]; simp) s rfl
  have e1 := e 1 (by rw [hn]; simp) t rfl
  obtain rfl : vs = #[.string ⟨s.toArray⟩, .string ⟨t.toArray⟩] := by
    apply Array.ext_getElem?
    intro i
    match i with
    | 0 => rw [e0]; rfl
    | 1 => rw [e1]; rfl
    | i + 2 => rw [Array.getElem?_eq_none (by rw [hn]; simp), Array.getElem?_eq_none (by simp)]
  refine (Try.strings_Count_any ⟨s.toArray⟩ ⟨t.toArray⟩ m w (by show s.toArray.size < _; simp; omega) hm (by show 1 ≤ t.toArray.size; simpa using h1)).mono fun e w' ⟨h1, h2⟩ => ?_
  subst h1; subst h2
  exact ⟨_, rfl, Kept.refl _ _, by simp [Lib.countB]; exact .lit _⟩
set_option maxHeartbeats 1000000 in
theorem refCount_spec (s t : List UInt8) (b : Bool) (hs : s.length ≤ 1000000) (ht : t.length ≤ 1000000) : Spec1 Try.prog 21 [.str s, .str t, bo b] (i64 (countV (fd b s) (fd b t))) := by
  refine Spec1.of_HT Try.func21 rfl (by rw [Try.ntmps21]; simp) rfl ?_
  rw [Try.ntmps21]
  refine HT.seq ?_
  refine HT.region ?_   -- R0
  simp (disch := first | omega | (simp <;> omega) | fail) [wrap_i64, wrap_u64, wrap_u8']
  refine HT.seq ?_
  refine HT.seq ?_
  by_cases ct : t = []
  · skip
    refine HT.region ?_   -- R1
    simp (disch := first | omega | (simp <;> omega) | fail) [wrap_i64, wrap_u64, wrap_u8', ct]
    refine HT.cond' ?_   -- if 11
    simp (disch := first | omega | (simp <;> omega) | fail) [wrap_i64, wrap_u64, wrap_u8']
    refine HT.seq ?_
    refine HT.region ?_   -- R2
    simp (disch := first | omega | (simp <;> omega) | fail) [wrap_i64, wrap_u64, wrap_u8']
    refine HT.ret ?_
    simp (disch := first | omega | (simp <;> omega) | fail) [wrap_i64, wrap_u64, wrap_u8', countV, ct, show fd b [] = [] from by cases b <;> rfl]
  have ct2 : fd b t ≠ [] := fun h => ct (List.eq_nil_of_length_eq_zero (by have := congrArg List.length h; simpa using this))
  have ct3 : 0 < t.length := List.length_pos_iff.2 ct
  refine HT.region ?_   -- R1
  simp (disch := first | omega | (simp <;> omega) | fail) [wrap_i64, wrap_u64, wrap_u8']
  refine HT.cond' ?_   -- if 11
  simp (disch := first | omega | (simp <;> omega) | fail) [wrap_i64, wrap_u64, wrap_u8']
  refine HT.skip ?_
  simp (disch := first | omega | (simp <;> omega) | fail) [wrap_i64, wrap_u64, wrap_u8']
  refine HT.seq ?_
  refine HT.region ?_   -- R3
  simp (disch := first | omega | (simp <;> omega) | fail) [wrap_i64, wrap_u64, wrap_u8']
  refine HT.seq ?_
  refine HT.region ?_   -- R4
  simp (disch := first | omega | (simp <;> omega) | fail) [wrap_i64, wrap_u64, wrap_u8']
  refine HT.seq ?_
  refine HT.block ?_
  refine HT.loopK (fun q : {q : Nat × Nat // q.1 ≤ s.length + 1 ∧ q.2 + Lib.count ((fd b s).drop q.1) (fd b t) = Lib.count (fd b s) (fd b t)} => [.s 8 (i64 q.1.1), .s 7 (i64 q.1.2)]) [0, 1, 2] [] (fun q => s.length + 1 - q.1.1) (⟨(0, 0), by simp⟩) ?_ ?_   -- block 0 turned [7, 8]
  · simp (disch := first | omega | (simp <;> omega) | fail) [wrap_i64, wrap_u64, wrap_u8']
  rintro ⟨⟨k, n⟩, hk, hc⟩
  simp (disch := first | omega | (simp <;> omega) | fail) [wrap_i64, wrap_u64, wrap_u8']
  refine HT.seq ?_
  refine HT.seq ?_
  refine HT.region ?_   -- R5
  simp (disch := first | omega | (simp <;> omega) | fail) [wrap_i64, wrap_u64, wrap_u8']
  refine HT.cond' ?_   -- if 18
  simp (disch := first | omega | (simp <;> omega) | fail) [wrap_i64, wrap_u64, wrap_u8']
  refine ⟨fun h18 => ?_, fun h18 => ?_⟩
  · skip
    have hk' : k ≤ s.length := by omega
    have hcl := Lib.count_le (fd b s) (fd b t)
    rw [fd_length] at hcl
    dsimp only at hc
    refine HT.skip ?_
    simp (disch := first | omega | (simp <;> omega) | fail) [wrap_i64, wrap_u64, wrap_u8']
    refine HT.block ?_
    refine HT.seq ?_
    refine HT.region ?_   -- R6
    simp (disch := first | omega | (simp <;> omega) | fail) [wrap_i64, wrap_u64, wrap_u8']
    refine stepK.mk (.call1 _ _ _ _ rfl Ty.hb47 rfl (Occurs_spec s t k b hs ht (by omega)) rfl rfl) ?_
    simp (disch := first | omega | (simp <;> omega) | fail) [wrap_i64, wrap_u64, wrap_u8']
    refine HT.cond' ?_   -- if 23
    simp (disch := first | omega | (simp <;> omega) | fail) [wrap_i64, wrap_u64, wrap_u8']
    refine ⟨fun h23 => ?_, fun h23 => ?_⟩
    · skip
      have hrm : k + t.length ≤ s.length + 1 := by rcases occ_room h23 with h | h; exact absurd h ct2; simp at h; omega
      have hc1 : (n + 1) + Lib.count ((fd b s).drop (k + t.length)) (fd b t) = Lib.count (fd b s) (fd b t) := by rw [← hc, count_at ct2 h23, fd_length]; omega
      refine HT.seq ?_
      refine HT.region ?_   -- R7
      simp (disch := first | omega | (simp <;> omega) | fail) [wrap_i64, wrap_u64, wrap_u8']
      refine HT.region ?_   -- R8
      simp (disch := first | omega | (simp <;> omega) | fail) [wrap_i64, wrap_u64, wrap_u8']
      first | refine Round.mk' ⟨(k + t.length, n + 1), hrm, hc1⟩ (by dsimp only; omega) rfl ?_ | refine Round.mk' ⟨(k + 1, n), (by dsimp only; omega), (by dsimp only at hc ⊢; rw [← count_past ct2 (by rw [h23]; simp)]; exact hc)⟩ (by dsimp only; omega) rfl ?_
      simp (disch := first | omega | (simp <;> omega) | fail) [wrap_i64, wrap_u64, wrap_u8']
    · skip
      refine HT.region ?_   -- R9
      simp (disch := first | omega | (simp <;> omega) | fail) [wrap_i64, wrap_u64, wrap_u8']
      first | refine Round.mk' ⟨(k + t.length, n + 1), hrm, hc1⟩ (by dsimp only; omega) rfl ?_ | refine Round.mk' ⟨(k + 1, n), (by dsimp only; omega), (by dsimp only at hc ⊢; rw [← count_past ct2 (by rw [h23]; simp)]; exact hc)⟩ (by dsimp only; omega) rfl ?_
      simp (disch := first | omega | (simp <;> omega) | fail) [wrap_i64, wrap_u64, wrap_u8']
  · skip
    have hk2 : (fd b s).drop k = [] := List.drop_eq_nil_of_le (by simp; dsimp only at hk; omega)
    dsimp only at hc
    rw [hk2, count_nil ct2, Nat.add_zero] at hc
    refine HT.exit ?_
    simp (disch := first | omega | (simp <;> omega) | fail) [wrap_i64, wrap_u64, wrap_u8']
    refine HT.seq ?_
    refine HT.region ?_   -- R10
    simp (disch := first | omega | (simp <;> omega) | fail) [wrap_i64, wrap_u64, wrap_u8']
    refine HT.ret ?_
    simp (disch := first | omega | (simp <;> omega) | fail) [wrap_i64, wrap_u64, wrap_u8', countV, ct2, hc]
set_option maxHeartbeats 1000000 in
theorem Count_spec (s t : List UInt8) (b : Bool) (hs : s.length ≤ 1000000) (ht : t.length ≤ 1000000) : Spec1 Try.prog 20 [.str s, .str t, bo b] (i64 (countV (fd b s) (fd b t))) := by
  refine Spec1.of_HT Try.func20 rfl (by rw [Try.ntmps20]; simp) rfl ?_
  rw [Try.ntmps20]
  refine HT.seq ?_
  refine HT.region ?_   -- R0
  simp (disch := first | omega | (simp <;> omega) | fail) [wrap_i64, wrap_u64, wrap_u8']
  refine HT.seq ?_
  refine HT.seq ?_
  by_cases ct : t = []
  · skip
    refine HT.region ?_   -- R1
    simp (disch := first | omega | (simp <;> omega) | fail) [wrap_i64, wrap_u64, wrap_u8', ct]
    refine HT.cond' ?_   -- if 8
    simp (disch := first | omega | (simp <;> omega) | fail) [wrap_i64, wrap_u64, wrap_u8']
    refine HT.seq ?_
    refine HT.region ?_   -- R2
    simp (disch := first | omega | (simp <;> omega) | fail) [wrap_i64, wrap_u64, wrap_u8']
    refine HT.ret ?_
    simp (disch := first | omega | (simp <;> omega) | fail) [wrap_i64, wrap_u64, wrap_u8', countV, ct, show fd b [] = [] from by cases b <;> rfl]
  have ct2 : fd b t ≠ [] := fun h => ct (List.eq_nil_of_length_eq_zero (by have := congrArg List.length h; simpa using this))
  have ct3 : 0 < t.length := List.length_pos_iff.2 ct
  refine HT.region ?_   -- R1
  simp (disch := first | omega | (simp <;> omega) | fail) [wrap_i64, wrap_u64, wrap_u8', ct]
  refine HT.cond' ?_   -- if 8
  simp (disch := first | omega | (simp <;> omega) | fail) [wrap_i64, wrap_u64, wrap_u8']
  refine HT.skip ?_
  simp (disch := first | omega | (simp <;> omega) | fail) [wrap_i64, wrap_u64, wrap_u8']
  refine HT.seq ?_
  refine HT.region ?_   -- R3
  simp (disch := first | omega | (simp <;> omega) | fail) [wrap_i64, wrap_u64, wrap_u8']
  refine stepK.mk (.call1 _ _ _ _ rfl Ty.hb46 rfl (folded_sp s b (by omega)) rfl rfl) ?_
  simp (disch := first | omega | (simp <;> omega) | fail) [wrap_i64, wrap_u64, wrap_u8']
  refine stepK.mk (.call1 _ _ _ _ rfl Ty.hb46 rfl (folded_sp t b (by omega)) rfl rfl) ?_
  simp (disch := first | omega | (simp <;> omega) | fail) [wrap_i64, wrap_u64, wrap_u8']
  refine stepK.mk (.call1 _ _ _ _ rfl Ty.hb48 rfl (libCount_spec (fd b s) (fd b t) (by simp; omega) (by simp; omega)) rfl rfl) ?_
  simp (disch := first | omega | (simp <;> omega) | fail) [wrap_i64, wrap_u64, wrap_u8']
  refine HT.ret ?_
  simp (disch := first | omega | (simp <;> omega) | fail) [wrap_i64, wrap_u64, wrap_u8', countV, ct2]
end Go.Hv
set_option linter.unusedVariables false
set_option linter.unusedSimpArgs false
namespace Go.Hv
open Go Go.Hv Go.Proofs
open Go.Proofs.Ytphohigoehpkeaa
theorem Has_spec (f : Bool) (l : List Int) (c : Int) (hl : l.length ≤ 140737488355328) : Spec1 Try.prog 55 [.sl 1 f (intsHV l), i64 c] (bo (decide (c ∈ l))) := by
  refine Spec1.of_HT Try.func55 rfl (by rw [Try.ntmps55]; simp) rfl ?_
  rw [Try.ntmps55]
  refine HT.seq ?_
  refine HT.region ?_   -- R0
  simp (disch := first | omega | (simp <;> omega) | fail) [wrap_i64, wrap_u64, wrap_u8']
  refine HT.seq ?_
  refine HT.seq ?_
  refine HT.region ?_   -- R1
  simp (disch := first | omega | (simp <;> omega) | fail) [wrap_i64, wrap_u64, wrap_u8']
  refine HT.block ?_
  refine HT.loopK (fun k : {k : Nat // k ≤ l.length ∧ ∀ i, i < k → l[i]? ≠ some c} => [.s 5 (i64 k)]) [0, 1] [] (fun k => l.length - k) (⟨0, by simp⟩) ?_ ?_   -- block 0 turned [5]
  · simp (disch := first | omega | (simp <;> omega) | fail) [wrap_i64, wrap_u64, wrap_u8']
  rintro ⟨k, hk, hg⟩
  simp (disch := first | omega | (simp <;> omega) | fail) [wrap_i64, wrap_u64, wrap_u8']
  refine HT.seq ?_
  refine HT.seq ?_
  refine HT.region ?_   -- R2
  simp (disch := first | omega | (simp <;> omega) | fail) [wrap_i64, wrap_u64, wrap_u8']
  refine HT.cond' ?_   -- if 9
  simp (disch := first | omega | (simp <;> omega) | fail) [wrap_i64, wrap_u64, wrap_u8']
  refine ⟨fun h9 => ?_, fun h9 => ?_⟩
  · skip
    have hk' : k < l.length := by omega
    refine HT.skip ?_
    simp (disch := first | omega | (simp <;> omega) | fail) [wrap_i64, wrap_u64, wrap_u8']
    refine HT.seq ?_
    refine HT.block ?_
    refine HT.seq ?_
    refine HT.region ?_   -- R4
    simp (disch := first | omega | (simp <;> omega) | fail) [wrap_i64, wrap_u64, wrap_u8']
    refine HT.cond' ?_   -- if 17
    simp (disch := first | omega | (simp <;> omega) | fail) [wrap_i64, wrap_u64, wrap_u8']
    refine ⟨fun h17 => ?_, fun h17 => ?_⟩
    · skip
      refine HT.seq ?_
      refine HT.region ?_   -- R5
      simp (disch := first | omega | (simp <;> omega) | fail) [wrap_i64, wrap_u64, wrap_u8']
      refine HT.ret ?_
      have : c ∈ l := h17 ▸ List.getElem_mem hk'
      simp (disch := first | omega | (simp <;> omega) | fail) [wrap_i64, wrap_u64, wrap_u8', this]
    · skip
      refine HT.skip ?_
      simp (disch := first | omega | (simp <;> omega) | fail) [wrap_i64, wrap_u64, wrap_u8']
      refine HT.region ?_   -- R3
      simp (disch := first | omega | (simp <;> omega) | fail) [wrap_i64, wrap_u64, wrap_u8']
      refine Round.mk' (⟨k + 1, by omega, ne_succ hg hk' h17⟩) (by dsimp only; omega) rfl ?_
      simp (disch := first | omega | (simp <;> omega) | fail) [wrap_i64, wrap_u64, wrap_u8']
  · skip
    obtain rfl : k = l.length := by omega
    refine HT.exit ?_
    simp (disch := first | omega | (simp <;> omega) | fail) [wrap_i64, wrap_u64, wrap_u8']
    refine HT.seq ?_
    refine HT.region ?_   -- R6
    simp (disch := first | omega | (simp <;> omega) | fail) [wrap_i64, wrap_u64, wrap_u8']
    refine HT.ret ?_
    simp (disch := first | omega | (simp <;> omega) | fail) [wrap_i64, wrap_u64, wrap_u8', mem_take_none hg rfl]
theorem refCode7_spec (s : List UInt8) (i : Nat) (h : i + 2 < s.length) (hs : s.length ≤ 140737488355328) : Spec1 Try.prog 52 [.str s, i64 i] (i64 (codeAt s i)) := by
  have h0 := (foldB s[i]).toNat_lt; have h1 := (foldB s[i + 1]).toNat_lt; have h2 := (foldB s[i + 2]).toNat_lt
  refine Spec1.of_HT Try.func52 rfl (by rw [Try.ntmps52]; simp) rfl ?_
  rw [Try.ntmps52]
  refine HT.seq ?_
  refine HT.region ?_   -- R0
  simp (disch := first | omega | (simp <;> omega) | fail) [wrap_i64, wrap_u64, wrap_u8']
  refine HT.seq ?_
  refine HT.draw [.batch [0, 1, 2, 3, 4, 5, 6, 7, 8, 9, 10, 11, 12, 13, 14, 15, 16, 17, 18, 19, 20, 21]] (by kernel_rfl) ?_   -- R1
  simp (disch := first | omega | (simp <;> omega) | fail) [wrap_i64, wrap_u64, wrap_u8']
  refine stepK.mk (.call1 _ _ _ rfl Ty.hb45 rfl rfl (FoldByte_spec _)) ?_
  simp (disch := first | omega | (simp <;> omega) | fail) [wrap_i64, wrap_u64, wrap_u8']
  refine stepK.mk (.call1 _ _ _ rfl Ty.hb45 rfl rfl (FoldByte_spec _)) ?_
  simp (disch := first | omega | (simp <;> omega) | fail) [wrap_i64, wrap_u64, wrap_u8']
  refine stepK.mk (.call1 _ _ _ rfl Ty.hb45 rfl rfl (FoldByte_spec _)) ?_
  simp (disch := first | omega | (simp <;> omega) | fail) [wrap_i64, wrap_u64, wrap_u8']
  refine HT.ret ?_
  simp (disch := first | omega | (simp <;> omega) | fail) [wrap_i64, wrap_u64, wrap_u8', codeAt_eq h, code3] <;> omega
theorem foldS_take {s : List UInt8} {k : Nat} (hk : k < s.length) : foldS (s.take (k + 1)) = foldS (s.take k) ++ [foldB s[k]] := by
  unfold foldS; rw [List.take_succ_eq_append_getElem hk, List.map_append]; rfl
theorem refFold_spec (s : List UInt8) (hs : s.length ≤ 1000000) : Spec1 Try.prog 28 [.str s] (.str (foldS s)) := by
  refine Spec1.of_HT Try.func28 rfl (by rw [Try.ntmps28]; simp) rfl ?_
  rw [Try.ntmps28]
  refine HT.seq ?_
  refine HT.region ?_   -- R0
  simp (disch := first | omega | (simp <;> omega) | fail) [wrap_i64, wrap_u64, wrap_u8']
  refine HT.seq ?_
  refine HT.region ?_   -- R1
  simp (disch := first | omega | (simp <;> omega) | fail) [wrap_i64, wrap_u64, wrap_u8']
  refine HT.weaken (HS.le_own (t := 3) 200 5 1 _ (by decide) rfl (by decide)) ?_
  refine HT.seq ?_
  refine HT.seq ?_
  refine HT.region ?_   -- R2
  simp (disch := first | omega | (simp <;> omega) | fail) [wrap_i64, wrap_u64, wrap_u8']
  refine HT.block ?_
  refine HT.loopK (fun k : {k : Nat // k ≤ s.length} => [.s 4 (i64 k), .s 3 (.ref 200), .o 200 (.row 5 1 (bytesHV (foldS (s.take k))))]) [0] [] (fun k => s.length - k) (⟨0, by omega⟩) ?_ ?_   -- block 0 turned [3, 4]
  · simp (disch := first | omega | (simp <;> omega) | fail) [wrap_i64, wrap_u64, wrap_u8', foldS]
  rintro ⟨k, hk⟩
  simp (disch := first | omega | (simp <;> omega) | fail) [wrap_i64, wrap_u64, wrap_u8']
  refine HT.seq ?_
  refine HT.seq ?_
  refine HT.region ?_   -- R3
  simp (disch := first | omega | (simp <;> omega) | fail) [wrap_i64, wrap_u64, wrap_u8']
  refine HT.cond' ?_   -- if 8
  simp (disch := first | omega | (simp <;> omega) | fail) [wrap_i64, wrap_u64, wrap_u8']
  refine ⟨fun h8 => ?_, fun h8 => ?_⟩
  · skip
    have hk' : k < s.length := by omega
    refine HT.skip ?_
    simp (disch := first | omega | (simp <;> omega) | fail) [wrap_i64, wrap_u64, wrap_u8']
    refine HT.seq ?_
    refine HT.block ?_
    refine HT.region ?_   -- R5
    simp (disch := first | omega | (simp <;> omega) | fail) [wrap_i64, wrap_u64, wrap_u8']
    refine stepK.mk (.call1 _ _ _ _ rfl Ty.hb45 rfl (FoldByte_spec _) rfl rfl) ?_
    simp (disch := first | omega | (simp <;> omega) | fail) [wrap_i64, wrap_u64, wrap_u8']
    refine HT.region ?_   -- R4
    simp (disch := first | omega | (simp <;> omega) | fail) [wrap_i64, wrap_u64, wrap_u8']
    refine Round.mk' (⟨k + 1, by omega⟩) (by dsimp only; omega) rfl ?_
    simp (disch := first | omega | (simp <;> omega) | fail) [wrap_i64, wrap_u64, wrap_u8', foldS_take hk', bytesHV_snoc]
  · skip
    obtain rfl : k = s.length := by omega
    rw [List.take_length]
    refine HT.exit ?_
    simp (disch := first | omega | (simp <;> omega) | fail) [wrap_i64, wrap_u64, wrap_u8']
    refine HT.seq ?_
    refine HT.region ?_   -- R6
    simp (disch := first | omega | (simp <;> omega) | fail) [wrap_i64, wrap_u64, wrap_u8', unbytes_bytesHV]
    refine HT.ret ?_
    simp (disch := first | omega | (simp <;> omega) | fail) [wrap_i64, wrap_u64, wrap_u8']
theorem ins_gt {n : Int} : ∀ {a r : List Int}, n ∉ a → (∃ y ∈ a, n < y) → ins (a ++ r) n = ins a n ++ r
  | [], _, _, h => by obtain ⟨y, hy, _⟩ := h; cases hy
  | x :: a, r, hn, h => by
    have hx : n ≠ x := fun e => hn (by rw [e]; simp)
    have ha : n ∉ a := fun e => hn (List.mem_cons_of_mem _ e)
    rw [List.cons_append]
    unfold ins
    by_cases h1 : x < n
    · rw [if_pos h1, if_pos h1]
      obtain ⟨y, hy, hlt⟩ := h
      have : y ∈ a := by rcases List.mem_cons.1 hy with rfl | hy; omega; exact hy
      rw [ins_gt ha ⟨y, this, hlt⟩]; rfl
    · rw [if_neg h1, if_neg h1, if_neg (fun e => hx e.symm), if_neg (fun e => hx e.symm)]; rfl
theorem ins_lt {n : Int} : ∀ {a r : List Int}, (∀ y ∈ a, y < n) → ins (a ++ r) n = a ++ ins r n
  | [], _, _ => rfl
  | x :: a, r, h => by
    rw [List.cons_append]
    conv => lhs; unfold ins
    rw [if_pos (h x (by simp)), ins_lt (fun y hy => h y (List.mem_cons_of_mem _ hy))]; rfl
theorem insP_t {l : List Int} {n : Int} {k : Nat} (hk : k < l.length) (hn : n ∉ l) (h : ∃ y ∈ l.take k, n < y) : (∃ y ∈ l.take (k + 1), n < y) ∧ ins (l.take (k + 1)) n = ins (l.take k) n ++ [l[k]] := by
  rw [List.take_succ_eq_append_getElem hk]
  refine ⟨?_, ins_gt (fun h' => hn (List.mem_of_mem_take h')) h⟩
  obtain ⟨y, hy, hlt⟩ := h
  exact ⟨y, List.mem_append_left _ hy, hlt⟩
theorem insP_f1 {l : List Int} {n : Int} {k : Nat} (hk : k < l.length) (h : ∀ y ∈ l.take k, y < n) (h2 : n < l[k]) : (∃ y ∈ l.take (k + 1), n < y) ∧ ins (l.take (k + 1)) n = l.take k ++ [n] ++ [l[k]] := by
  rw [List.take_succ_eq_append_getElem hk]
  refine ⟨⟨l[k], List.mem_append_right _ (List.mem_singleton_self _), h2⟩, ?_⟩
  rw [ins_lt h, List.append_assoc]
  unfold ins
  rw [if_neg (by omega), if_neg (by omega)]; rfl
theorem insP_f2 {l : List Int} {n : Int} {k : Nat} (hk : k < l.length) (hn : n ∉ l) (h : ∀ y ∈ l.take k, y < n) (h2 : ¬ n < l[k]) : ∀ y ∈ l.take (k + 1), y < n := by
  rw [List.take_succ_eq_append_getElem hk]
  intro y hy
  rcases List.mem_append.1 hy with hy | hy
  · exact h y hy
  · obtain rfl : y = l[k] := by simpa using hy
    have : n ≠ l[k] := fun e => hn (by rw [e]; exact List.getElem_mem hk)
    omega
theorem ins_end {l : List Int} {n : Int} (h : ∀ y ∈ l, y < n) : ins l n = l ++ [n] := by
  have := ins_lt (r := []) h
  rw [List.append_nil] at this
  rw [this]; rfl
theorem ins_has {n : Int} : ∀ {l : List Int}, Inc l → n ∈ l → ins l n = l
  | x :: l, hi, h => by
    unfold ins
    rcases List.mem_cons.1 h with rfl | h
    · rw [if_neg (by omega), if_pos rfl]
    · have := (List.pairwise_cons.1 hi).1 n h
      rw [if_pos this, ins_has (List.pairwise_cons.1 hi).2 h]
def insI (l : List Int) (n : Int) (k : Nat) (pl : Bool) : Prop := if pl = true then ∃ y ∈ l.take k, n < y else ∀ y ∈ l.take k, y < n
set_option maxHeartbeats 1000000 in
theorem Insert_spec (l : List Int) (n : Int) (hl : l.length ≤ 1000000) (hinc : Inc l) : Spec1 Try.prog 51 [.sl 1 false (intsHV l), i64 n] (.sl 1 false (intsHV (ins l n))) := by
  refine Spec1.of_HT Try.func51 rfl (by rw [Try.ntmps51]; simp) rfl ?_
  rw [Try.ntmps51]
  refine HT.seq ?_
  refine HT.region ?_   -- R0
  simp (disch := first | omega | (simp <;> omega) | fail) [wrap_i64, wrap_u64, wrap_u8']
  refine HT.seq ?_
  refine HT.seq ?_
  by_cases cn : n ∈ l
  · skip
    refine HT.region ?_   -- R1
    simp (disch := first | omega | (simp <;> omega) | fail) [wrap_i64, wrap_u64, wrap_u8']
    refine stepK.mk (.call1f _ _ _ _ _ rfl Ty.hb55 rfl rfl (Has_spec _ _ _ (by omega)) rfl) ?_
    simp (disch := first | omega | (simp <;> omega) | fail) [wrap_i64, wrap_u64, wrap_u8']
    refine HT.cond' ?_   -- if 10
    simp (disch := first | omega | (simp <;> omega) | fail) [wrap_i64, wrap_u64, wrap_u8']
    refine HT.seq ?_
    refine HT.region ?_   -- R2
    simp (disch := first | omega | (simp <;> omega) | fail) [wrap_i64, wrap_u64, wrap_u8']
    refine HT.ret ?_
    simp (disch := first | omega | (simp <;> omega) | fail) [wrap_i64, wrap_u64, wrap_u8', ins_has hinc cn]
  refine HT.region ?_   -- R1
  simp (disch := first | omega | (simp <;> omega) | fail) [wrap_i64, wrap_u64, wrap_u8']
  refine stepK.mk (.call1f _ _ _ _ _ rfl Ty.hb55 rfl rfl (Has_spec _ _ _ (by omega)) rfl) ?_
  simp (disch := first | omega | (simp <;> omega) | fail) [wrap_i64, wrap_u64, wrap_u8']
  refine HT.cond' ?_   -- if 10
  simp (disch := first | omega | (simp <;> omega) | fail) [wrap_i64, wrap_u64, wrap_u8']
  refine HT.skip ?_
  simp (disch := first | omega | (simp <;> omega) | fail) [wrap_i64, wrap_u64, wrap_u8']
  refine HT.seq ?_
  refine HT.region ?_   -- R3
  simp (disch := first | omega | (simp <;> omega) | fail) [wrap_i64, wrap_u64, wrap_u8']
  refine HT.weaken (HS.le_own (t := 5) 200 3 1 _ (by decide) rfl (by decide)) ?_
  refine HT.seq ?_
  refine HT.region ?_   -- R4
  simp (disch := first | omega | (simp <;> omega) | fail) [wrap_i64, wrap_u64, wrap_u8']
  refine HT.seq ?_
  refine HT.seq ?_
  refine HT.region ?_   -- R5
  simp (disch := first | omega | (simp <;> omega) | fail) [wrap_i64, wrap_u64, wrap_u8']
  refine HT.block ?_
  refine HT.loopK (fun q : {q : Nat × Bool // q.1 ≤ l.length ∧ insI l n q.1 q.2} => [.s 7 (i64 q.1.1), .s 6 (bo q.1.2), .s 5 (.ref 200), .o 200 (.row 3 1 (intsHV (if q.1.2 = true then ins (l.take q.1.1) n else l.take q.1.1)))]) [0, 1] [] (fun q => l.length - q.1.1) (⟨(0, false), by simp [insI]⟩) ?_ ?_   -- block 0 turned [5, 6, 7, 21, 22, 23, 24, 25, 26]
  · simp (disch := first | omega | (simp <;> omega) | fail) [wrap_i64, wrap_u64, wrap_u8']
  rintro ⟨⟨k, pl⟩, hk, hp⟩
  simp (disch := first | omega | (simp <;> omega) | fail) [wrap_i64, wrap_u64, wrap_u8']
  have hil := ins_length (l.take k) n
  have htl : (l.take k).length ≤ l.length := by rw [List.length_take]; omega
  refine HT.seq ?_
  refine HT.seq ?_
  refine HT.region ?_   -- R6
  simp (disch := first | omega | (simp <;> omega) | fail) [wrap_i64, wrap_u64, wrap_u8']
  refine HT.cond' ?_   -- if 15
  simp (disch := first | omega | (simp <;> omega) | fail) [wrap_i64, wrap_u64, wrap_u8']
  refine ⟨fun h15 => ?_, fun h15 => ?_⟩
  · skip
    have hk' : k < l.length := by dsimp only at *; omega
    refine HT.skip ?_
    simp (disch := first | omega | (simp <;> omega) | fail) [wrap_i64, wrap_u64, wrap_u8']
    refine HT.seq ?_
    refine HT.block ?_
    refine HT.seq ?_
    refine HT.seq ?_
    by_cases c0 : pl = true
    · skip
      subst c0
      have hp : ∃ y ∈ l.take k, n < y := hp
      refine HT.region ?_   -- R8
      simp (disch := first | omega | (simp <;> omega) | fail) [wrap_i64, wrap_u64, wrap_u8']
      refine HT.cond' ?_   -- if 27
      simp (disch := first | omega | (simp <;> omega) | fail) [wrap_i64, wrap_u64, wrap_u8']
      refine HT.skip ?_
      simp (disch := first | omega | (simp <;> omega) | fail) [wrap_i64, wrap_u64, wrap_u8']
      refine HT.region ?_   -- R11
      simp (disch := first | omega | (simp <;> omega) | fail) [wrap_i64, wrap_u64, wrap_u8']
      refine HT.region ?_   -- R7
      simp (disch := first | omega | (simp <;> omega) | fail) [wrap_i64, wrap_u64, wrap_u8']
      first | refine Round.mk' ⟨(k + 1, true), hk', (insP_t hk' cn hp).1⟩ (by dsimp only; omega) rfl ?_ | refine Round.mk' ⟨(k + 1, true), hk', (insP_f1 hk' hp c2).1⟩ (by dsimp only; omega) rfl ?_ | refine Round.mk' ⟨(k + 1, false), hk', insP_f2 hk' cn hp c2⟩ (by dsimp only; omega) rfl ?_
      simp (disch := first | omega | (simp <;> omega) | fail) [wrap_i64, wrap_u64, wrap_u8']
      all_goals first | rw [(insP_t hk' cn hp).2] | (rw [(insP_f1 hk' hp c2).2]; try simp) | (rw [List.take_succ_eq_append_getElem hk']; try simp)
    obtain rfl : pl = false := by simpa using c0
    have hp : ∀ y ∈ l.take k, y < n := hp
    by_cases c2 : n < l[k]
    · skip
      refine HT.region ?_   -- R8
      simp (disch := first | omega | (simp <;> omega) | fail) [wrap_i64, wrap_u64, wrap_u8']
      refine HT.cond' ?_   -- if 27
      simp (disch := first | omega | (simp <;> omega) | fail) [wrap_i64, wrap_u64, wrap_u8']
      refine HT.seq ?_
      refine HT.region ?_   -- R9
      simp (disch := first | omega | (simp <;> omega) | fail) [wrap_i64, wrap_u64, wrap_u8']
      refine HT.region ?_   -- R10
      simp (disch := first | omega | (simp <;> omega) | fail) [wrap_i64, wrap_u64, wrap_u8']
      refine HT.region ?_   -- R11
      simp (disch := first | omega | (simp <;> omega) | fail) [wrap_i64, wrap_u64, wrap_u8']
      refine HT.region ?_   -- R7
      simp (disch := first | omega | (simp <;> omega) | fail) [wrap_i64, wrap_u64, wrap_u8']
      first | refine Round.mk' ⟨(k + 1, true), hk', (insP_t hk' cn hp).1⟩ (by dsimp only; omega) rfl ?_ | refine Round.mk' ⟨(k + 1, true), hk', (insP_f1 hk' hp c2).1⟩ (by dsimp only; omega) rfl ?_ | refine Round.mk' ⟨(k + 1, false), hk', insP_f2 hk' cn hp c2⟩ (by dsimp only; omega) rfl ?_
      simp (disch := first | omega | (simp <;> omega) | fail) [wrap_i64, wrap_u64, wrap_u8']
      all_goals first | rw [(insP_t hk' cn hp).2] | (rw [(insP_f1 hk' hp c2).2]; try simp) | (rw [List.take_succ_eq_append_getElem hk']; try simp)
    refine HT.region ?_   -- R8
    simp (disch := first | omega | (simp <;> omega) | fail) [wrap_i64, wrap_u64, wrap_u8']
    refine HT.cond' ?_   -- if 27
    simp (disch := first | omega | (simp <;> omega) | fail) [wrap_i64, wrap_u64, wrap_u8']
    refine HT.skip ?_
    simp (disch := first | omega | (simp <;> omega) | fail) [wrap_i64, wrap_u64, wrap_u8']
    refine HT.region ?_   -- R11
    simp (disch := first | omega | (simp <;> omega) | fail) [wrap_i64, wrap_u64, wrap_u8']
    refine HT.region ?_   -- R7
    simp (disch := first | omega | (simp <;> omega) | fail) [wrap_i64, wrap_u64, wrap_u8']
    first | refine Round.mk' ⟨(k + 1, true), hk', (insP_t hk' cn hp).1⟩ (by dsimp only; omega) rfl ?_ | refine Round.mk' ⟨(k + 1, true), hk', (insP_f1 hk' hp c2).1⟩ (by dsimp only; omega) rfl ?_ | refine Round.mk' ⟨(k + 1, false), hk', insP_f2 hk' cn hp c2⟩ (by dsimp only; omega) rfl ?_
    simp (disch := first | omega | (simp <;> omega) | fail) [wrap_i64, wrap_u64, wrap_u8']
    all_goals first | rw [(insP_t hk' cn hp).2] | (rw [(insP_f1 hk' hp c2).2]; try simp) | (rw [List.take_succ_eq_append_getElem hk']; try simp)
  · skip
    obtain rfl : k = l.length := by dsimp only at *; omega
    refine HT.exit ?_
    simp (disch := first | omega | (simp <;> omega) | fail) [wrap_i64, wrap_u64, wrap_u8']
    refine HT.seq ?_
    refine HT.seq ?_
    by_cases c0 : pl = true
    · skip
      subst c0
      refine HT.region ?_   -- R12
      simp (disch := first | omega | (simp <;> omega) | fail) [wrap_i64, wrap_u64, wrap_u8']
      refine HT.cond' ?_   -- if 40
      simp (disch := first | omega | (simp <;> omega) | fail) [wrap_i64, wrap_u64, wrap_u8']
      refine HT.skip ?_
      simp (disch := first | omega | (simp <;> omega) | fail) [wrap_i64, wrap_u64, wrap_u8']
      refine HT.seq ?_
      refine HT.region ?_   -- R14
      simp (disch := first | omega | (simp <;> omega) | fail) [wrap_i64, wrap_u64, wrap_u8']
      refine HT.ret ?_
      first | (simp (disch := first | omega | (simp <;> omega) | fail) [wrap_i64, wrap_u64, wrap_u8', List.take_length]; done) | simp (disch := first | omega | (simp <;> omega) | fail) [wrap_i64, wrap_u64, wrap_u8', List.take_length, ins_end hp]
    obtain rfl : pl = false := by simpa using c0
    have hp : ∀ y ∈ l.take l.length, y < n := hp
    rw [List.take_length] at hp
    refine HT.region ?_   -- R12
    simp (disch := first | omega | (simp <;> omega) | fail) [wrap_i64, wrap_u64, wrap_u8']
    refine HT.cond' ?_   -- if 40
    simp (disch := first | omega | (simp <;> omega) | fail) [wrap_i64, wrap_u64, wrap_u8']
    refine HT.region ?_   -- R13
    simp (disch := first | omega | (simp <;> omega) | fail) [wrap_i64, wrap_u64, wrap_u8']
    refine HT.seq ?_
    refine HT.region ?_   -- R14
    simp (disch := first | omega | (simp <;> omega) | fail) [wrap_i64, wrap_u64, wrap_u8']
    refine HT.ret ?_
    first | (simp (disch := first | omega | (simp <;> omega) | fail) [wrap_i64, wrap_u64, wrap_u8', List.take_length]; done) | simp (disch := first | omega | (simp <;> omega) | fail) [wrap_i64, wrap_u64, wrap_u8', List.take_length, ins_end hp]
end Go.Hv
set_option linter.unusedVariables false
set_option linter.unusedSimpArgs false
namespace Go.Hv
open Go Go.Hv Go.Proofs
open Go.Proofs.Ytphohigoehpkeaa
theorem refCodes_spec (s : List UInt8) (hs : s.length ≤ 900000) : Spec1 Try.prog 23 [.str s] (.sl 1 false (intsHV (ofV s))) := by
  refine Spec1.of_HT Try.func23 rfl (by rw [Try.ntmps23]; simp) rfl ?_
  rw [Try.ntmps23]
  refine HT.seq ?_
  refine HT.region ?_   -- R0
  simp (disch := first | omega | (simp <;> omega) | fail) [wrap_i64, wrap_u64, wrap_u8']
  refine HT.seq ?_
  refine HT.region ?_   -- R1
  simp (disch := first | omega | (simp <;> omega) | fail) [wrap_i64, wrap_u64, wrap_u8']
  refine HT.weaken (HS.le_wk 3 (.sl 1 false []) (by decide) rfl rfl (HLe.nilf 0 1 true)) ?_
  refine HT.seq ?_
  refine HT.seq ?_
  refine HT.region ?_   -- R2
  simp (disch := first | omega | (simp <;> omega) | fail) [wrap_i64, wrap_u64, wrap_u8']
  refine HT.block ?_
  refine HT.loopK (fun k : {k : Nat // k ≤ s.length - 2} => [.s 4 (i64 k), .s 3 (.sl 1 false (intsHV (ofK s k)))]) [0] [] (fun k => s.length - k) (⟨0, by omega⟩) ?_ ?_   -- block 0 turned [3, 4]
  · simp (disch := first | omega | (simp <;> omega) | fail) [wrap_i64, wrap_u64, wrap_u8', show ofK s 0 = [] from rfl]
  rintro ⟨k, hk⟩
  simp (disch := first | omega | (simp <;> omega) | fail) [wrap_i64, wrap_u64, wrap_u8']
  refine HT.seq ?_
  refine HT.seq ?_
  refine HT.region ?_   -- R3
  simp (disch := first | omega | (simp <;> omega) | fail) [wrap_i64, wrap_u64, wrap_u8']
  refine HT.cond' ?_   -- if 9
  simp (disch := first | omega | (simp <;> omega) | fail) [wrap_i64, wrap_u64, wrap_u8']
  refine ⟨fun h9 => ?_, fun h9 => ?_⟩
  · skip
    have hk' : k + 2 < s.length := by omega
    have hb := ofK_length s k
    refine HT.skip ?_
    simp (disch := first | omega | (simp <;> omega) | fail) [wrap_i64, wrap_u64, wrap_u8']
    refine HT.seq ?_
    refine HT.block ?_
    refine HT.region ?_   -- R5
    simp (disch := first | omega | (simp <;> omega) | fail) [wrap_i64, wrap_u64, wrap_u8']
    refine stepK.mk (.call1 _ _ _ _ rfl Ty.hb52 rfl (refCode7_spec s k hk' (by omega)) rfl rfl) ?_
    simp (disch := first | omega | (simp <;> omega) | fail) [wrap_i64, wrap_u64, wrap_u8']
    refine stepK.mk (.call1f _ _ _ _ _ rfl Ty.hb51 rfl rfl (Insert_spec (ofK s k) (codeAt s k) (by omega) (ofK_inc s k)) rfl) ?_
    simp (disch := first | omega | (simp <;> omega) | fail) [wrap_i64, wrap_u64, wrap_u8']
    refine HT.region ?_   -- R4
    simp (disch := first | omega | (simp <;> omega) | fail) [wrap_i64, wrap_u64, wrap_u8']
    refine Round.mk' (⟨k + 1, by omega⟩) (by dsimp only; omega) rfl ?_
    simp (disch := first | omega | (simp <;> omega) | fail) [wrap_i64, wrap_u64, wrap_u8', ofK_succ]
  · skip
    obtain rfl : k = s.length - 2 := by omega
    refine HT.exit ?_
    simp (disch := first | omega | (simp <;> omega) | fail) [wrap_i64, wrap_u64, wrap_u8']
    refine HT.seq ?_
    refine HT.region ?_   -- R6
    simp (disch := first | omega | (simp <;> omega) | fail) [wrap_i64, wrap_u64, wrap_u8']
    refine HT.ret ?_
    simp (disch := first | omega | (simp <;> omega) | fail) [wrap_i64, wrap_u64, wrap_u8', ofV]
theorem refPossible_spec (f : Bool) (l : List Int) (s : List UInt8) (hl : l.length ≤ 140737488355328) (hs : s.length ≤ 900000) : Spec1 Try.prog 25 [.sl 1 f (intsHV l), .str s] (bo (decide (∀ c ∈ ofV s, c ∈ l))) := by
  have hol := ofV_length s
  refine Spec1.of_HT Try.func25 rfl (by rw [Try.ntmps25]; simp) rfl ?_
  rw [Try.ntmps25]
  refine HT.seq ?_
  refine HT.region ?_   -- R0
  simp (disch := first | omega | (simp <;> omega) | fail) [wrap_i64, wrap_u64, wrap_u8']
  refine HT.seq ?_
  refine HT.region ?_   -- R1
  simp (disch := first | omega | (simp <;> omega) | fail) [wrap_i64, wrap_u64, wrap_u8']
  refine stepK.mk (.call1f _ _ _ _ _ rfl Ty.hb23 rfl rfl (refCodes_spec s hs) rfl) ?_
  simp (disch := first | omega | (simp <;> omega) | fail) [wrap_i64, wrap_u64, wrap_u8']
  refine HT.seq ?_
  refine HT.seq ?_
  refine HT.region ?_   -- R2
  simp (disch := first | omega | (simp <;> omega) | fail) [wrap_i64, wrap_u64, wrap_u8']
  refine HT.block ?_
  refine HT.loopK (fun k : {k : Nat // k ≤ (ofV s).length ∧ ∀ i x, i < k → (ofV s)[i]? = some x → x ∈ l} => [.s 6 (i64 k)]) [0, 5] [] (fun k => (ofV s).length - k) (⟨0, by simp⟩) ?_ ?_   -- block 0 turned [6]
  · simp (disch := first | omega | (simp <;> omega) | fail) [wrap_i64, wrap_u64, wrap_u8']
  rintro ⟨k, hk, hg⟩
  simp (disch := first | omega | (simp <;> omega) | fail) [wrap_i64, wrap_u64, wrap_u8']
  refine HT.seq ?_
  refine HT.seq ?_
  refine HT.region ?_   -- R3
  simp (disch := first | omega | (simp <;> omega) | fail) [wrap_i64, wrap_u64, wrap_u8']
  refine HT.cond' ?_   -- if 12
  simp (disch := first | omega | (simp <;> omega) | fail) [wrap_i64, wrap_u64, wrap_u8']
  refine ⟨fun h12 => ?_, fun h12 => ?_⟩
  · skip
    have hk' : k < (ofV s).length := by omega
    refine HT.skip ?_
    simp (disch := first | omega | (simp <;> omega) | fail) [wrap_i64, wrap_u64, wrap_u8']
    refine HT.seq ?_
    refine HT.block ?_
    refine HT.seq ?_
    refine HT.region ?_   -- R5
    simp (disch := first | omega | (simp <;> omega) | fail) [wrap_i64, wrap_u64, wrap_u8']
    refine stepK.mk (.call1f _ _ _ _ _ rfl Ty.hb55 rfl rfl (Has_spec f l (ofV s)[k] hl) rfl) ?_
    simp (disch := first | omega | (simp <;> omega) | fail) [wrap_i64, wrap_u64, wrap_u8']
    refine HT.cond' ?_   -- if 21
    simp (disch := first | omega | (simp <;> omega) | fail) [wrap_i64, wrap_u64, wrap_u8']
    refine ⟨fun h21 => ?_, fun h21 => ?_⟩
    · skip
      refine HT.seq ?_
      refine HT.region ?_   -- R6
      simp (disch := first | omega | (simp <;> omega) | fail) [wrap_i64, wrap_u64, wrap_u8']
      refine HT.ret ?_
      have : ¬ ∀ x ∈ ofV s, x ∈ l := fun h' => h21 (h' _ (List.getElem_mem hk'))
      simp (disch := first | omega | (simp <;> omega) | fail) [wrap_i64, wrap_u64, wrap_u8', this]
    · skip
      refine HT.skip ?_
      simp (disch := first | omega | (simp <;> omega) | fail) [wrap_i64, wrap_u64, wrap_u8']
      refine HT.region ?_   -- R4
      simp (disch := first | omega | (simp <;> omega) | fail) [wrap_i64, wrap_u64, wrap_u8']
      refine Round.mk' (⟨k + 1, by omega, all_succ hg hk' h21⟩) (by dsimp only; omega) rfl ?_
      simp (disch := first | omega | (simp <;> omega) | fail) [wrap_i64, wrap_u64, wrap_u8']
  · skip
    obtain rfl : k = (ofV s).length := by omega
    refine HT.exit ?_
    simp (disch := first | omega | (simp <;> omega) | fail) [wrap_i64, wrap_u64, wrap_u8']
    refine HT.seq ?_
    refine HT.region ?_   -- R7
    simp (disch := first | omega | (simp <;> omega) | fail) [wrap_i64, wrap_u64, wrap_u8']
    refine HT.ret ?_
    have := all_of hg rfl
    simp (disch := first | omega | (simp <;> omega) | fail) [wrap_i64, wrap_u64, wrap_u8', this]
theorem at7_spec (f : Bool) (l : List Gram) (c : Int) (hl : l.length ≤ 140737488355328) : Spec1 Try.prog 63 [.sl 2 f (gramsHV l), i64 c] (.sl 1 false (intsHV (atV l c))) := by
  refine Spec1.of_HT Try.func63 rfl (by rw [Try.ntmps63]; simp) rfl ?_
  rw [Try.ntmps63]
  refine HT.seq ?_
  refine HT.region ?_   -- R0
  simp (disch := first | omega | (simp <;> omega) | fail) [wrap_i64, wrap_u64, wrap_u8']
  refine HT.seq ?_
  refine HT.seq ?_
  refine HT.region ?_   -- R1
  simp (disch := first | omega | (simp <;> omega) | fail) [wrap_i64, wrap_u64, wrap_u8']
  refine HT.block ?_
  refine HT.loopK (fun k : {k : Nat // k ≤ l.length ∧ atV l c = atV (l.drop k) c} => [.s 5 (i64 k)]) [0, 1] [] (fun k => l.length - k) (⟨0, by simp⟩) ?_ ?_   -- block 0 turned [5]
  · simp (disch := first | omega | (simp <;> omega) | fail) [wrap_i64, wrap_u64, wrap_u8']
  rintro ⟨k, hk, hg⟩
  simp (disch := first | omega | (simp <;> omega) | fail) [wrap_i64, wrap_u64, wrap_u8']
  refine HT.seq ?_
  refine HT.seq ?_
  refine HT.region ?_   -- R2
  simp (disch := first | omega | (simp <;> omega) | fail) [wrap_i64, wrap_u64, wrap_u8']
  refine HT.cond' ?_   -- if 9
  simp (disch := first | omega | (simp <;> omega) | fail) [wrap_i64, wrap_u64, wrap_u8']
  refine ⟨fun h9 => ?_, fun h9 => ?_⟩
  · skip
    have hk' : k < l.length := by omega
    rw [atV_drop hk'] at hg
    refine HT.skip ?_
    simp (disch := first | omega | (simp <;> omega) | fail) [wrap_i64, wrap_u64, wrap_u8']
    refine HT.seq ?_
    refine HT.block ?_
    refine HT.seq ?_
    refine HT.region ?_   -- R4
    simp (disch := first | omega | (simp <;> omega) | fail) [wrap_i64, wrap_u64, wrap_u8']
    refine HT.cond' ?_   -- if 18
    simp (disch := first | omega | (simp <;> omega) | fail) [wrap_i64, wrap_u64, wrap_u8']
    refine ⟨fun h18 => ?_, fun h18 => ?_⟩
    · skip
      refine HT.seq ?_
      refine HT.region ?_   -- R5
      simp (disch := first | omega | (simp <;> omega) | fail) [wrap_i64, wrap_u64, wrap_u8']
      refine HT.ret ?_
      simp (disch := first | omega | (simp <;> omega) | fail) [wrap_i64, wrap_u64, wrap_u8', hg, h18]
    · skip
      refine HT.skip ?_
      simp (disch := first | omega | (simp <;> omega) | fail) [wrap_i64, wrap_u64, wrap_u8']
      refine HT.region ?_   -- R3
      simp (disch := first | omega | (simp <;> omega) | fail) [wrap_i64, wrap_u64, wrap_u8']
      refine Round.mk' (⟨k + 1, by omega, by rw [hg, if_neg h18]⟩) (by dsimp only; omega) rfl ?_
      simp (disch := first | omega | (simp <;> omega) | fail) [wrap_i64, wrap_u64, wrap_u8']
  · skip
    obtain rfl : k = l.length := by omega
    rw [List.drop_length] at hg
    refine HT.exit ?_
    simp (disch := first | omega | (simp <;> omega) | fail) [wrap_i64, wrap_u64, wrap_u8']
    refine HT.seq ?_
    refine HT.region ?_   -- R6
    simp (disch := first | omega | (simp <;> omega) | fail) [wrap_i64, wrap_u64, wrap_u8']
    refine HT.weaken (HS.le_wk 4 (.sl 1 false []) (by decide) rfl rfl (HLe.nilf 0 1 true)) ?_
    refine HT.ret ?_
    simp (disch := first | omega | (simp <;> omega) | fail) [wrap_i64, wrap_u64, wrap_u8', hg, show atV [] c = [] from rfl]
def W64 (l : List Int) : Prop := ∀ y ∈ l, -9223372036854775808 ≤ y ∧ y < 9223372036854775808
def folB (y x : Int) (j : Nat) : Bool := decide ((j : Int) ≤ y ∧ y - j = x)
def folV (l : List Int) (x : Int) (j : Nat) : Bool := l.any fun y => folB y x j
theorem fol_no {l : List Int} {x : Int} {j k : Nat} (hg : ∀ i y, i < k → l[i]? = some y → folB y x j = false) (h : k = l.length) : folV l x j = false := by
  unfold folV
  rw [List.any_eq_false]
  intro y hy
  obtain ⟨i, hi⟩ := List.mem_iff_getElem?.1 hy
  rw [hg i y (by rw [h]; exact getElem?_lt hi) hi]; simp
theorem fol_yes {l : List Int} {x : Int} {j k : Nat} (hk : k < l.length) (h : folB l[k] x j = true) : folV l x j = true := by
  unfold folV
  exact List.any_eq_true.2 ⟨_, List.getElem_mem hk, h⟩
theorem fol_succ {l : List Int} {x : Int} {j k : Nat} (hg : ∀ i y, i < k → l[i]? = some y → folB y x j = false) (hk : k < l.length) (h : folB l[k] x j = false) : ∀ i y, i < k + 1 → l[i]? = some y → folB y x j = false := fun i y hi hy => by
  rcases Nat.lt_or_ge i k with h1 | h1
  · exact hg i y h1 hy
  · obtain rfl : i = k := by omega
    rw [List.getElem?_eq_getElem hk] at hy
    cases hy; exact h
theorem follows_spec (f : Bool) (l : List Int) (x : Int) (j : Nat) (hl : l.length ≤ 140737488355328) (hw : W64 l) (hj : j ≤ 1000000) : Spec1 Try.prog 64 [.sl 1 f (intsHV l), i64 x, i64 j] (bo (folV l x j)) := by
  refine Spec1.of_HT Try.func64 rfl (by rw [Try.ntmps64]; simp) rfl ?_
  rw [Try.ntmps64]
  refine HT.seq ?_
  refine HT.region ?_   -- R0
  simp (disch := first | omega | (simp <;> omega) | fail) [wrap_i64, wrap_u64, wrap_u8']
  refine HT.seq ?_
  refine HT.seq ?_
  refine HT.region ?_   -- R1
  simp (disch := first | omega | (simp <;> omega) | fail) [wrap_i64, wrap_u64, wrap_u8']
  refine HT.block ?_
  refine HT.loopK (fun k : {k : Nat // k ≤ l.length ∧ ∀ i y, i < k → l[i]? = some y → folB y x j = false} => [.s 7 (i64 k)]) [0, 1, 2] [] (fun k => l.length - k) (⟨0, by simp⟩) ?_ ?_   -- block 0 turned [7, 21, 22, 23, 24, 25, 26, 27, 28]
  · simp (disch := first | omega | (simp <;> omega) | fail) [wrap_i64, wrap_u64, wrap_u8']
  rintro ⟨k, hk, hg⟩
  simp (disch := first | omega | (simp <;> omega) | fail) [wrap_i64, wrap_u64, wrap_u8']
  refine HT.seq ?_
  refine HT.seq ?_
  refine HT.region ?_   -- R2
  simp (disch := first | omega | (simp <;> omega) | fail) [wrap_i64, wrap_u64, wrap_u8']
  refine HT.cond' ?_   -- if 11
  simp (disch := first | omega | (simp <;> omega) | fail) [wrap_i64, wrap_u64, wrap_u8']
  refine ⟨fun h11 => ?_, fun h11 => ?_⟩
  · skip
    have hk' : k < l.length := by omega
    have hy := hw _ (List.getElem_mem hk')
    refine HT.skip ?_
    simp (disch := first | omega | (simp <;> omega) | fail) [wrap_i64, wrap_u64, wrap_u8']
    refine HT.seq ?_
    refine HT.block ?_
    refine HT.seq ?_
    by_cases c1 : l[k] < (j : Int)
    · skip
      refine HT.region ?_   -- R4
      simp (disch := first | omega | (simp <;> omega) | fail) [wrap_i64, wrap_u64, wrap_u8']
      refine HT.cond' ?_   -- if 29
      simp (disch := first | omega | (simp <;> omega) | fail) [wrap_i64, wrap_u64, wrap_u8']
      refine HT.skip ?_
      simp (disch := first | omega | (simp <;> omega) | fail) [wrap_i64, wrap_u64, wrap_u8']
      refine HT.region ?_   -- R3
      simp (disch := first | omega | (simp <;> omega) | fail) [wrap_i64, wrap_u64, wrap_u8']
      refine Round.mk' (⟨k + 1, by omega, fol_succ hg hk' (decide_eq_false (by omega))⟩) (by dsimp only; omega) rfl ?_
      simp (disch := first | omega | (simp <;> omega) | fail) [wrap_i64, wrap_u64, wrap_u8']
    by_cases c2 : ¬ l[k] - (j : Int) = x
    · skip
      refine HT.region ?_   -- R4
      simp (disch := first | omega | (simp <;> omega) | fail) [wrap_i64, wrap_u64, wrap_u8']
      refine HT.cond' ?_   -- if 29
      simp (disch := first | omega | (simp <;> omega) | fail) [wrap_i64, wrap_u64, wrap_u8']
      refine HT.skip ?_
      simp (disch := first | omega | (simp <;> omega) | fail) [wrap_i64, wrap_u64, wrap_u8']
      refine HT.region ?_   -- R3
      simp (disch := first | omega | (simp <;> omega) | fail) [wrap_i64, wrap_u64, wrap_u8']
      refine Round.mk' (⟨k + 1, by omega, fol_succ hg hk' (decide_eq_false (by omega))⟩) (by dsimp only; omega) rfl ?_
      simp (disch := first | omega | (simp <;> omega) | fail) [wrap_i64, wrap_u64, wrap_u8']
    refine HT.region ?_   -- R4
    simp (disch := first | omega | (simp <;> omega) | fail) [wrap_i64, wrap_u64, wrap_u8']
    refine HT.cond' ?_   -- if 29
    simp (disch := first | omega | (simp <;> omega) | fail) [wrap_i64, wrap_u64, wrap_u8']
    refine HT.seq ?_
    refine HT.region ?_   -- R5
    simp (disch := first | omega | (simp <;> omega) | fail) [wrap_i64, wrap_u64, wrap_u8']
    refine HT.ret ?_
    simp (disch := first | omega | (simp <;> omega) | fail) [wrap_i64, wrap_u64, wrap_u8', fol_yes hk' (decide_eq_true (show (j : Int) ≤ l[k] ∧ l[k] - j = x by omega))]
  · skip
    obtain rfl : k = l.length := by omega
    refine HT.exit ?_
    simp (disch := first | omega | (simp <;> omega) | fail) [wrap_i64, wrap_u64, wrap_u8']
    refine HT.seq ?_
    refine HT.region ?_   -- R6
    simp (disch := first | omega | (simp <;> omega) | fail) [wrap_i64, wrap_u64, wrap_u8']
    refine HT.ret ?_
    simp (disch := first | omega | (simp <;> omega) | fail) [wrap_i64, wrap_u64, wrap_u8', fol_no hg rfl]
end Go.Hv
set_option linter.unusedVariables false
set_option linter.unusedSimpArgs false
namespace Go.Hv
open Go Go.Hv Go.Proofs
open Go.Proofs.Ytphohigoehpkeaa
def GB (l : List Gram) : Prop := l.length ≤ 140737488355328 ∧ ∀ g ∈ l, g.off.length ≤ 1000 ∧ W64 g.off
theorem atV_cases (l : List Gram) (c : Int) : atV l c = [] ∨ ∃ g ∈ l, g.code = c ∧ atV l c = g.off := by
  unfold atV
  split
  · next g hg => exact .inr ⟨g, List.mem_of_find?_eq_some hg, by simpa using List.find?_some hg, rfl⟩
  · exact .inl rfl
theorem atV_GB {l : List Gram} (h : GB l) (c : Int) : (atV l c).length ≤ 1000 ∧ W64 (atV l c) := by
  rcases atV_cases l c with e | ⟨g, hg, _, e⟩
  · rw [e]; exact ⟨by simp, fun y hy => by cases hy⟩
  · rw [e]; exact h.2 g hg
def candJ (l : List Gram) (s : List UInt8) (x : Int) (j : Nat) : Bool := decide (0 ≤ x) && (List.range j).all fun i => folV (atV l (codeAt s i)) x i
theorem candJ_succ (l : List Gram) (s : List UInt8) (x : Int) (j : Nat) : candJ l s x (j + 1) = (candJ l s x j && folV (atV l (codeAt s j)) x j) := by
  unfold candJ; rw [List.range_succ, List.all_append]; simp [Bool.and_assoc]
def candI (l : List Gram) (s : List UInt8) (k : Nat) : List Int := (((atV l (codeAt s 0)).take k).filter fun x => candJ l s x (s.length - 2)).foldl ins []
theorem candI_succ {l : List Gram} {s : List UInt8} {k : Nat} (hk : k < (atV l (codeAt s 0)).length) : candI l s (k + 1) = if candJ l s (atV l (codeAt s 0))[k] (s.length - 2) = true then ins (candI l s k) (atV l (codeAt s 0))[k] else candI l s k := by
  unfold candI
  rw [List.take_succ_eq_append_getElem hk, List.filter_append, List.foldl_append]
  by_cases h : candJ l s (atV l (codeAt s 0))[k] (s.length - 2) = true <;> simp [h]
theorem foldl_ins_inc : ∀ (r a : List Int), Inc a → Inc (r.foldl ins a)
  | [], _, h => h
  | x :: r, a, h => foldl_ins_inc r _ (ins_inc h x)
theorem foldl_ins_len : ∀ (r a : List Int), (r.foldl ins a).length ≤ a.length + r.length
  | [], _ => by simp
  | x :: r, a => by have h1 := foldl_ins_len r (ins a x); have h2 := ins_length a x; simp only [List.foldl_cons, List.length_cons]; omega
theorem candI_inc (l : List Gram) (s : List UInt8) (k : Nat) : Inc (candI l s k) := foldl_ins_inc _ _ List.Pairwise.nil
theorem candI_len (l : List Gram) (s : List UInt8) (k : Nat) : (candI l s k).length ≤ k := by
  unfold candI
  have h1 := foldl_ins_len (((atV l (codeAt s 0)).take k).filter fun x => candJ l s x (s.length - 2)) []
  have h2 := List.length_filter_le (fun x => candJ l s x (s.length - 2)) ((atV l (codeAt s 0)).take k)
  have h3 : ((atV l (codeAt s 0)).take k).length ≤ k := by rw [List.length_take]; omega
  simp at h1; omega
def candV (l : List Gram) (s : List UInt8) : List Int := if s.length < 3 then [] else candI l s (atV l (codeAt s 0)).length
set_option maxHeartbeats 4000000 in
set_option maxRecDepth 20000 in
theorem refCand_spec (f : Bool) (l : List Gram) (s : List UInt8) (hl : GB l) (hs : s.length ≤ 900000) : SpecT Try.prog 27 [.sl 2 f (gramsHV l), .str s] [.sl 1 false (intsHV (candV l s)), bo (decide (¬ s.length < 3))] := by
  have hfirst := atV_GB hl (codeAt s 0)
  refine SpecT.of_HT Try.func27 rfl (by rw [Try.ntmps27]; simp) (rs := [.tmp 4, .tmp 5]) rfl (by decide) ?_
  rw [Try.ntmps27]
  refine HT.seq ?_
  refine HT.region ?_   -- R0
  simp (disch := first | omega | (simp <;> omega) | fail) [wrap_i64, wrap_u64, wrap_u8']
  refine HT.seq ?_
  refine HT.seq ?_
  by_cases c0 : s.length < 3
  · skip
    refine HT.region ?_   -- R1
    simp (disch := first | omega | (simp <;> omega) | fail) [wrap_i64, wrap_u64, wrap_u8']
    refine HT.cond' ?_   -- if 13
    simp (disch := first | omega | (simp <;> omega) | fail) [wrap_i64, wrap_u64, wrap_u8']
    refine HT.seq ?_
    refine HT.region ?_   -- R2
    simp (disch := first | omega | (simp <;> omega) | fail) [wrap_i64, wrap_u64, wrap_u8']
    refine HT.weaken (HS.le_wk 4 (.sl 1 false []) (by decide) rfl rfl (HLe.nilf 0 1 true)) ?_
    refine HT.ret ?_
    simp (disch := first | omega | (simp <;> omega) | fail) [wrap_i64, wrap_u64, wrap_u8', candV, c0]
  refine HT.region ?_   -- R1
  simp (disch := first | omega | (simp <;> omega) | fail) [wrap_i64, wrap_u64, wrap_u8']
  refine HT.cond' ?_   -- if 13
  simp (disch := first | omega | (simp <;> omega) | fail) [wrap_i64, wrap_u64, wrap_u8']
  refine HT.skip ?_
  simp (disch := first | omega | (simp <;> omega) | fail) [wrap_i64, wrap_u64, wrap_u8']
  refine HT.seq ?_
  refine HT.region ?_   -- R3
  simp (disch := first | omega | (simp <;> omega) | fail) [wrap_i64, wrap_u64, wrap_u8']
  refine HT.weaken (HS.le_wk 6 (.sl 1 false []) (by decide) rfl rfl (HLe.nilf 0 1 true)) ?_
  refine HT.seq ?_
  refine HT.region ?_   -- R4
  simp (disch := first | omega | (simp <;> omega) | fail) [wrap_i64, wrap_u64, wrap_u8']
  refine stepK.mk (.call1 _ _ _ _ rfl Ty.hb52 rfl (refCode7_spec s 0 (by omega) (by omega)) rfl rfl) ?_
  simp (disch := first | omega | (simp <;> omega) | fail) [wrap_i64, wrap_u64, wrap_u8']
  refine stepK.mk (.call1f _ _ _ _ _ rfl Ty.hb63 rfl rfl (at7_spec f l (codeAt s 0) hl.1) rfl) ?_
  simp (disch := first | omega | (simp <;> omega) | fail) [wrap_i64, wrap_u64, wrap_u8']
  refine HT.seq ?_
  refine HT.seq ?_
  refine HT.region ?_   -- R5
  simp (disch := first | omega | (simp <;> omega) | fail) [wrap_i64, wrap_u64, wrap_u8']
  refine HT.block ?_
  refine HT.loopK (fun k : {k : Nat // k ≤ (atV l (codeAt s 0)).length} => [.s 8 (i64 k), .s 6 (.sl 1 false (intsHV (candI l s k)))]) [0, 1, 7] [] (fun k => (atV l (codeAt s 0)).length - k) (⟨0, by omega⟩) ?_ ?_   -- block 0 turned [6, 8, 38, 39, 40, 41, 42, 43, 44, 45, 46, 47, 48]
  · simp (disch := first | omega | (simp <;> omega) | fail) [wrap_i64, wrap_u64, wrap_u8', candI]
  rintro ⟨k, hk⟩
  simp (disch := first | omega | (simp <;> omega) | fail) [wrap_i64, wrap_u64, wrap_u8']
  refine HT.seq ?_
  refine HT.seq ?_
  refine HT.region ?_   -- R6
  simp (disch := first | omega | (simp <;> omega) | fail) [wrap_i64, wrap_u64, wrap_u8']
  refine HT.cond' ?_   -- if 21
  simp (disch := first | omega | (simp <;> omega) | fail) [wrap_i64, wrap_u64, wrap_u8']
  refine ⟨fun h21 => ?_, fun h21 => ?_⟩
  · skip
    have hk' : k < (atV l (codeAt s 0)).length := by omega
    have hb := candI_len l s k
    have hx := hfirst.2 _ (List.getElem_mem hk')
    refine HT.skip ?_
    simp (disch := first | omega | (simp <;> omega) | fail) [wrap_i64, wrap_u64, wrap_u8']
    refine HT.seq ?_
    refine HT.block ?_
    refine HT.seq ?_
    refine HT.region ?_   -- R8
    simp (disch := first | omega | (simp <;> omega) | fail) [wrap_i64, wrap_u64, wrap_u8']
    refine HT.seq ?_
    refine HT.seq ?_
    refine HT.region ?_   -- R9
    simp (disch := first | omega | (simp <;> omega) | fail) [wrap_i64, wrap_u64, wrap_u8']
    refine HT.block ?_
    refine HT.loopK (fun j : {j : Nat // j ≤ s.length - 2} => [.s 10 (i64 j), .s 9 (bo (candJ l s (atV l (codeAt s 0))[k] j))]) [0, 1, 6, 7, 8] [] (fun j => s.length - j) (⟨0, by omega⟩) ?_ ?_   -- block 2 turned [9, 10, 38, 39, 40, 41, 42, 43, 44, 45, 46, 47, 48]
    · simp (disch := first | omega | (simp <;> omega) | fail) [wrap_i64, wrap_u64, wrap_u8', candJ]
    rintro ⟨j, hj⟩
    simp (disch := first | omega | (simp <;> omega) | fail) [wrap_i64, wrap_u64, wrap_u8']
    refine HT.seq ?_
    refine HT.seq ?_
    refine HT.region ?_   -- R10
    simp (disch := first | omega | (simp <;> omega) | fail) [wrap_i64, wrap_u64, wrap_u8']
    refine HT.cond' ?_   -- if 33
    simp (disch := first | omega | (simp <;> omega) | fail) [wrap_i64, wrap_u64, wrap_u8']
    refine ⟨fun h33 => ?_, fun h33 => ?_⟩
    · skip
      have hj' : j + 2 < s.length := by omega
      have hat := atV_GB hl (codeAt s j)
      refine HT.skip ?_
      simp (disch := first | omega | (simp <;> omega) | fail) [wrap_i64, wrap_u64, wrap_u8']
      refine HT.seq ?_
      refine HT.block ?_
      by_cases c4 : ¬ candJ l s (atV l (codeAt s 0))[k] j = true
      · skip
        refine HT.draw [.batch [0, 1, 2, 3, 4, 5, 6, 7, 8, 9, 10, 11, 12, 13, 14]] (by kernel_rfl) ?_   -- R12
        simp -dsimp (disch := first | omega | (simp <;> omega) | fail) [wrap_i64, wrap_u64, wrap_u8', c4]
        refine HT.region ?_   -- R11
        simp (disch := first | omega | (simp <;> omega) | fail) [wrap_i64, wrap_u64, wrap_u8']
        refine Round.mk' (⟨j + 1, by omega⟩) (by dsimp only; omega) rfl ?_
        simp (disch := first | omega | (simp <;> omega) | fail) [wrap_i64, wrap_u64, wrap_u8', candJ_succ, c4]
      rw [Classical.not_not] at c4
      refine HT.draw [.batch [0, 1, 2, 3, 4, 5, 6, 7, 8, 9, 10, 11, 12, 13, 14]] (by kernel_rfl) ?_   -- R12
      simp -dsimp (disch := first | omega | (simp <;> omega) | fail) [wrap_i64, wrap_u64, wrap_u8', c4]
      refine stepK.mk (.call1 _ _ _ rfl Ty.hb52 rfl rfl (refCode7_spec s j hj' (by omega))) ?_
      simp -dsimp (disch := first | omega | (simp <;> omega) | fail) [wrap_i64, wrap_u64, wrap_u8', c4]
      refine stepK.mk (.call1 _ _ _ rfl Ty.hb63 rfl rfl (at7_spec f l (codeAt s j) hl.1)) ?_
      simp -dsimp (disch := first | omega | (simp <;> omega) | fail) [wrap_i64, wrap_u64, wrap_u8', c4]
      refine stepK.mk (.call1 _ _ _ rfl Ty.hb64 rfl rfl (follows_spec false (atV l (codeAt s j)) (atV l (codeAt s 0))[k] j (by omega) hat.2 (by omega))) ?_
      simp -dsimp (disch := first | omega | (simp <;> omega) | fail) [wrap_i64, wrap_u64, wrap_u8', c4]
      refine HT.region ?_   -- R11
      simp (disch := first | omega | (simp <;> omega) | fail) [wrap_i64, wrap_u64, wrap_u8']
      refine Round.mk' (⟨j + 1, by omega⟩) (by dsimp only; omega) rfl ?_
      simp (disch := first | omega | (simp <;> omega) | fail) [wrap_i64, wrap_u64, wrap_u8', candJ_succ, c4]
    · skip
      obtain rfl : j = s.length - 2 := by omega
      refine HT.exit ?_
      simp (disch := first | omega | (simp <;> omega) | fail) [wrap_i64, wrap_u64, wrap_u8']
      refine HT.seq ?_
      refine HT.region ?_   -- R13
      simp (disch := first | omega | (simp <;> omega) | fail) [wrap_i64, wrap_u64, wrap_u8']
      refine HT.cond' ?_   -- if 50
      simp (disch := first | omega | (simp <;> omega) | fail) [wrap_i64, wrap_u64, wrap_u8']
      refine ⟨fun h50 => ?_, fun h50 => ?_⟩
      · skip
        refine HT.region ?_   -- R14
        simp (disch := first | omega | (simp <;> omega) | fail) [wrap_i64, wrap_u64, wrap_u8']
        refine stepK.mk (.call1f _ _ _ _ _ rfl Ty.hb51 rfl rfl (Insert_spec (candI l s k) (atV l (codeAt s 0))[k] (by omega) (candI_inc l s k)) rfl) ?_
        simp (disch := first | omega | (simp <;> omega) | fail) [wrap_i64, wrap_u64, wrap_u8']
        refine HT.region ?_   -- R7
        simp (disch := first | omega | (simp <;> omega) | fail) [wrap_i64, wrap_u64, wrap_u8']
        refine Round.mk' (⟨k + 1, by omega⟩) (by dsimp only; omega) rfl ?_
        simp (disch := first | omega | (simp <;> omega) | fail) [wrap_i64, wrap_u64, wrap_u8', candI_succ hk', h50]
      · skip
        refine HT.skip ?_
        simp (disch := first | omega | (simp <;> omega) | fail) [wrap_i64, wrap_u64, wrap_u8']
        refine HT.region ?_   -- R7
        simp (disch := first | omega | (simp <;> omega) | fail) [wrap_i64, wrap_u64, wrap_u8']
        refine Round.mk' (⟨k + 1, by omega⟩) (by dsimp only; omega) rfl ?_
        simp (disch := first | omega | (simp <;> omega) | fail) [wrap_i64, wrap_u64, wrap_u8', candI_succ hk', h50]
  · skip
    obtain rfl : k = (atV l (codeAt s 0)).length := by omega
    refine HT.exit ?_
    simp (disch := first | omega | (simp <;> omega) | fail) [wrap_i64, wrap_u64, wrap_u8']
    refine HT.seq ?_
    refine HT.region ?_   -- R15
    simp (disch := first | omega | (simp <;> omega) | fail) [wrap_i64, wrap_u64, wrap_u8']
    refine HT.ret ?_
    simp (disch := first | omega | (simp <;> omega) | fail) [wrap_i64, wrap_u64, wrap_u8', candV, c0]
end Go.Hv
set_option linter.unusedVariables false
set_option linter.unusedSimpArgs false
/- Library functions that only read a slice of numbers, or copy it. -/
namespace Go.Hv
open Go Go.Hv Go.Proofs Go.RowKit
open Go.Proofs.Ytphohigoehpkeaa
theorem ints_arg {w : World} {dead : Nat → Prop} {f : Bool} {l : List Int} {v : Value} (h : IRep w dead (.sl 1 f (intsHV l)) v) :
    (l = [] ∧ ∃ A cap, v = .slice A 0 cap ∧ (A = none → cap = 0)) ∨ ∃ b off cap, v = .slice (some ⟨b, off, none⟩) l.length cap ∧ ¬ dead b ∧ b < w.heap.size ∧ ∀ j, j < l.length → w.cell? ⟨b, off + j, none⟩ = some (.int .i64 (l.getD j 0)) := by
  generalize he : intsHV l = es at h
  cases h with
  | nil hf hA =>
    left
    have : l = [] := List.eq_nil_of_length_eq_zero (by have := congrArg List.length he; simpa using this)
    exact ⟨this, _, _, rfl, hA⟩
  | sl g hsz hc hf hb hbl hcell h1 h =>
    right
    subst he
    refine ⟨_, _, _, by rw [intsHV_length], hb, hbl, fun j hj => ?_⟩
    have hc := hcell j 0 (by simpa using hj) (by omega)
    rw [Nat.mul_one, Nat.add_zero] at hc
    rw [hc]
    have hx : (intsHV l)[j]? = some [i64 l[j]] := by simp [intsHV, hj]
    have hr := h j 0 _ _ hx rfl
    rw [irep_lit hr]
    simp [List.getD_eq_getElem?_getD, hj]
theorem args_two {w : World} {dead : Nat → Prop} {a : HV} {x : Value} {vs : Array Value} (hn : vs.size = 2) (hrep : ∀ (j : Nat) (c : HV) (v : Value), [a, HV.lit x][j]? = some c → vs[j]? = some v → IRep w dead c v) :
    ∃ v, IRep w dead a v ∧ vs = #[v, x] := by
  have h0 := Array.getElem?_eq_getElem (show 0 < vs.size by omega)
  have h1 := Array.getElem?_eq_getElem (show 1 < vs.size by omega)
  have r1 := hrep 1 _ _ rfl h1
  refine ⟨vs[0], hrep 0 _ _ rfl h0, ?_⟩
  rw [irep_lit r1] at h1
  apply Array.ext_getElem?
  intro i
  match i with
  | 0 => rw [h0]; rfl
  | 1 => rw [h1]; rfl
  | i + 2 => rw [Array.getElem?_eq_none (by omega), Array.getElem?_eq_none (by simp)]
theorem Contains_spec (f : Bool) (l : List Int) (x : Int) (hl : l.length ≤ 1000000) : Spec1 Try.prog 54 [.sl 1 f (intsHV l), i64 x] (bo (decide (x ∈ l))) := by
  intro D w vs hD hG hn hrep
  obtain ⟨v, hv, rfl⟩ := args_two hn hrep
  rcases ints_arg hv with ⟨rfl, A, cap, rfl, _⟩ | ⟨b, off, cap, rfl, _, _, hc⟩
  · refine (Try.slices_Contains_int_empty A cap x w).mono fun e w' ⟨h1, h2⟩ => ?_
    subst h1; subst h2
    exact ⟨_, rfl, Kept.refl _ _, by simp; exact .lit _⟩
  · refine (Try.slices_Contains_int b off l.length cap l x w (Nat.le_refl _) (by omega) hc).mono fun e w' ⟨h1, h2⟩ => ?_
    subst h1; subst h2
    refine ⟨_, rfl, Kept.refl _ _, ?_⟩
    rw [List.take_length, List.contains_eq_mem]
    exact .lit _
theorem grow_nil (w : World) : Go.Sort.grow w #[] = w := by cases w; simp [Go.Sort.grow]
open Go.Sort (putRow putCells Holds grow mapBlock onCells) in
theorem Compact_spec (l : List Int) (hlen : l.length ≤ 1000000) (hc : (Lib.compact l).length ≤ l.length) : SpecR Try.prog 50 3 1 (intsHV l) [] (intsHV (Lib.compact l)) := by
  refine SpecR.of_cells (by simpa using hc) (fun x hx => by obtain ⟨p, _, rfl⟩ := List.mem_map.1 hx; rfl) (by simp) (fun w blk cap us V dead hVs hcell hblk hcap hmax hone hdead hrep hus hargs => ?_) (fun A w us dead hus hargs hes => ?_)
  · have hu : us = #[] := Array.eq_empty_of_size_eq_zero hus
    subst hu
    have hV : V = (l.map (Value.int .i64)).toArray := by
      apply Array.ext_getElem?
      intro i
      rcases Nat.lt_or_ge i l.length with hi | hi
      · have hg := List.getElem?_eq_getElem hi
        obtain ⟨u, h1, h2⟩ := hrep i 0 [.lit (.int .i64 l[i])] _ (by simp [intsHV, hg, i64]) rfl
        rw [irep_lit h2] at h1
        simpa [hg] using h1
      · rw [Array.getElem?_eq_none (by rw [hVs]; simp; omega), Array.getElem?_eq_none (by simp; omega)]
    subst hV
    have hH : Holds (Value.int .i64) w blk 0 l.toArray := by
      intro i hi
      have := hcell i (by simpa using hi)
      have hi' : i < l.length := by simpa using hi
      rw [Nat.zero_add]
      refine ⟨?_, this.2⟩
      rw [this.1]
      simp [List.getElem?_eq_getElem hi', getElem!_pos l i hi']
    have := Try.slices_Compact_int blk 0 cap l w hH (by omega) (by simpa using hcap)
    rw [show (intsHV l).length = l.length by simp, show (intsHV (Lib.compact l)).length = (Lib.compact l).length by simp]
    refine this.mono ?_
    rintro x w' ⟨rfl, n, rfl⟩
    refine ⟨rfl, n, #[], ((Lib.compact l ++ List.replicate (l.length - (Lib.compact l).length) 0).map (Value.int .i64)).toArray, by simp; omega, fun v hv => by simp at hv; rcases hv with ⟨a, _, rfl⟩ | ⟨_, rfl⟩ <;> rfl, ?_, fun i j x c hx hc => ?_⟩
    · rw [putRow_map, grow_nil]; simp
    · obtain ⟨rfl, a, ha, rfl⟩ := isLit_intsHV_at hx hc
      have hi := getElem?_lt ha
      exact ⟨.int .i64 a, by simp only [Nat.mul_one, Nat.add_zero, List.getElem?_toArray, List.map_append]; rw [List.getElem?_append_left (by simpa using hi), List.getElem?_map, ha]; rfl, .lit _⟩
  · have hu : us = #[] := Array.eq_empty_of_size_eq_zero hus
    subst hu
    exact Try.slices_Compact_int_empty A 0 w
end Go.Hv
set_option linter.unusedVariables false
set_option linter.unusedSimpArgs false
namespace Go.Hv
open Go Go.Hv Go.Proofs
open Go.Proofs.Ytphohigoehpkeaa
theorem compact_upto {l : List Int} (hs : l.Pairwise (· ≤ ·)) : ∀ m, m ≤ l.length → Inc (Lib.compactUpTo l.toArray m) ∧ ∀ x, x ∈ Lib.compactUpTo l.toArray m ↔ ∃ j, j < m ∧ l.toArray[j]! = x
  | 0, _ => ⟨List.Pairwise.nil, fun x => by simp [Lib.compactUpTo]⟩
  | m + 1, hm => by
    obtain ⟨h1, h2⟩ := compact_upto hs m (by omega)
    rw [Lib.compactUpTo_succ]
    have hle : ∀ i j, i ≤ j → j < l.length → l.toArray[i]! ≤ l.toArray[j]! := fun i j hij hj => by
      rw [getElem!_pos l.toArray i (by simp; omega), getElem!_pos l.toArray j (by simpa using hj)]
      rcases Nat.lt_or_ge i j with h | h
      · simpa using List.pairwise_iff_getElem.1 hs i j (by omega) hj h
      · obtain rfl : i = j := by omega
        omega
    by_cases hk : Lib.keeps l.toArray m = true
    · rw [if_pos hk]
      have hlt : ∀ x ∈ Lib.compactUpTo l.toArray m, x < l.toArray[m]! := fun x hx => by
        obtain ⟨j, hj, rfl⟩ := (h2 x).1 hx
        have a1 := hle j (m - 1) (by omega) (by omega)
        have a2 := hle (m - 1) m (by omega) (by omega)
        have a3 : l.toArray[m]! ≠ l.toArray[m - 1]! := by
          rcases of_decide_eq_true hk with h | h
          · omega
          · exact h
        omega
      refine ⟨?_, fun x => ?_⟩
      · unfold Inc
        rw [List.pairwise_append]
        exact ⟨h1, List.pairwise_singleton _ _, fun a ha b hb => by simp only [List.mem_singleton] at hb; subst hb; exact hlt a ha⟩
      · rw [List.mem_append, h2, List.mem_singleton]
        constructor
        · rintro (⟨j, h, e⟩ | rfl)
          · exact ⟨j, by omega, e⟩
          · exact ⟨m, by omega, rfl⟩
        · rintro ⟨j, h, e⟩
          by_cases e' : j = m
          · subst e'; exact .inr e.symm
          · exact .inl ⟨j, by omega, e⟩
    · rw [if_neg hk, List.append_nil]
      refine ⟨h1, fun x => ?_⟩
      rw [h2]
      constructor
      · rintro ⟨j, h, e⟩; exact ⟨j, by omega, e⟩
      · rintro ⟨j, h, e⟩
        by_cases e' : j = m
        · subst e'
          have hk' : ¬ (j = 0 ∨ l.toArray[j]! ≠ l.toArray[j - 1]!) := fun h => hk (decide_eq_true h)
          have h0 : j ≠ 0 := fun h => hk' (.inl h)
          have h3 : l.toArray[j]! = l.toArray[j - 1]! := by
            rcases Classical.em (l.toArray[j]! = l.toArray[j - 1]!) with h | h
            · exact h
            · exact absurd (.inr h) hk'
          exact ⟨j - 1, by omega, by rw [← h3, e]⟩
        · exact ⟨j, by omega, e⟩
theorem mem_arr {l : List Int} (x : Int) : (∃ j, j < l.length ∧ l.toArray[j]! = x) ↔ x ∈ l := by
  constructor
  · rintro ⟨j, hj, rfl⟩
    rw [getElem!_pos l.toArray j (by simpa using hj)]
    simp
  · intro h
    obtain ⟨j, hj, rfl⟩ := List.mem_iff_getElem.1 h
    exact ⟨j, hj, by rw [getElem!_pos l.toArray j (by simpa using hj)]; simp⟩
theorem compact_sorted {l : List Int} (hs : l.Pairwise (· ≤ ·)) : Inc (Lib.compact l) ∧ ∀ x, x ∈ Lib.compact l ↔ x ∈ l := by
  obtain ⟨h1, h2⟩ := compact_upto hs l.length (Nat.le_refl _)
  exact ⟨h1, fun x => (h2 x).trans (mem_arr x)⟩
theorem mergeSort_leI (l : List Int) : (l.mergeSort leI).Pairwise (· ≤ ·) := by
  have := List.pairwise_mergeSort (le := leI) (fun a b c h1 h2 => by simp [leI] at *; omega) (fun a b => by simp [leI]; omega) l
  exact this.imp fun h => by simpa [leI] using h
theorem compact_sort (l : List Int) : Inc (Lib.compact (l.mergeSort leI)) ∧ ∀ x, x ∈ Lib.compact (l.mergeSort leI) ↔ x ∈ l := by
  obtain ⟨h1, h2⟩ := compact_sorted (mergeSort_leI l)
  exact ⟨h1, fun x => (h2 x).trans List.mem_mergeSort⟩
def rawK (s : List UInt8) (k : Nat) : List Int := (List.range k).map (codeAt s)
@[simp] theorem rawK_length (s : List UInt8) (k : Nat) : (rawK s k).length = k := by simp [rawK]
theorem rawK_succ (s : List UInt8) (k : Nat) : rawK s (k + 1) = rawK s k ++ [codeAt s k] := by unfold rawK; rw [List.range_succ, List.map_append]; rfl
theorem codes_final (s : List UInt8) : Lib.compact ((rawK s (s.length - 2)).mergeSort leI) = ofV s := by
  obtain ⟨h1, h2⟩ := compact_sort (rawK s (s.length - 2))
  refine inc_unique h1 (ofK_inc s _) fun x => ?_
  rw [h2, ofV_mem]
  simp [rawK]
theorem cut3_length {s : List UInt8} {k : Nat} (h : k + 3 ≤ s.length) : (List.drop k (List.take (k + 3) s)).length = 3 := by simp; omega
theorem codeV_cut {s : List UInt8} {k : Nat} (h : k + 3 ≤ s.length) : codeV (List.drop k (List.take (k + 3) s)) = codeAt s k := by
  unfold codeV
  rw [if_pos (cut3_length h)]
  unfold codeAt
  simp only [List.getD_eq_getElem?_getD, List.getElem?_drop, List.getElem?_take]
  simp
set_option maxHeartbeats 1000000 in
theorem Codes_spec (s : List UInt8) (hs : s.length ≤ 900000) : Spec1 Try.prog 22 [.str s] (.sl 1 false (intsHV (ofV s))) := by
  have hcf := codes_final s
  have hcl := Lib.compact_length_le ((rawK s (s.length - 2)).mergeSort leI)
  have hml : ((rawK s (s.length - 2)).mergeSort leI).length = s.length - 2 := by rw [List.length_mergeSort, rawK_length]
  refine Spec1.of_HT Try.func22 rfl (by rw [Try.ntmps22]; simp) rfl ?_
  rw [Try.ntmps22]
  refine HT.seq ?_
  refine HT.region ?_   -- R0
  simp (disch := first | omega | (simp <;> omega) | fail) [wrap_i64, wrap_u64, wrap_u8']
  refine HT.seq ?_
  refine HT.region ?_   -- R1
  simp (disch := first | omega | (simp <;> omega) | fail) [wrap_i64, wrap_u64, wrap_u8']
  refine HT.weaken (HS.le_own (t := 3) 200 3 1 _ (by decide) rfl (by decide)) ?_
  refine HT.seq ?_
  refine HT.seq ?_
  refine HT.region ?_   -- R2
  simp (disch := first | omega | (simp <;> omega) | fail) [wrap_i64, wrap_u64, wrap_u8']
  refine HT.block ?_
  refine HT.loopK (fun k : {k : Nat // k ≤ s.length - 2} => [.s 4 (i64 k), .s 3 (.ref 200), .o 200 (.row 3 1 (intsHV (rawK s k)))]) [0] [] (fun k => s.length - k) (⟨0, by omega⟩) ?_ ?_   -- block 0 turned [3, 4]
  · simp (disch := first | omega | (simp <;> omega) | fail) [wrap_i64, wrap_u64, wrap_u8', show rawK s 0 = [] from rfl]
  rintro ⟨k, hk⟩
  simp (disch := first | omega | (simp <;> omega) | fail) [wrap_i64, wrap_u64, wrap_u8']
  refine HT.seq ?_
  refine HT.seq ?_
  refine HT.region ?_   -- R3
  simp (disch := first | omega | (simp <;> omega) | fail) [wrap_i64, wrap_u64, wrap_u8']
  refine HT.cond' ?_   -- if 11
  simp (disch := first | omega | (simp <;> omega) | fail) [wrap_i64, wrap_u64, wrap_u8']
  refine ⟨fun h11 => ?_, fun h11 => ?_⟩
  · skip
    have hk' : k + 3 ≤ s.length := by omega
    have hcu := codeV_cut hk'
    have hcu3 := cut3_length hk'
    refine HT.skip ?_
    simp (disch := first | omega | (simp <;> omega) | fail) [wrap_i64, wrap_u64, wrap_u8']
    refine HT.seq ?_
    refine HT.block ?_
    refine HT.seq ?_
    refine HT.region ?_   -- R5
    simp (disch := first | omega | (simp <;> omega) | fail) [wrap_i64, wrap_u64, wrap_u8', hcu, hcu3]
    refine stepK.mk (.callT _ _ _ _ rfl Ty.hb31 rfl (Code_spec (List.drop k (List.take (k + 3) s)) (by omega)) rfl rfl) ?_
    simp (disch := first | omega | (simp <;> omega) | fail) [wrap_i64, wrap_u64, wrap_u8', hcu, hcu3]
    refine HT.seq ?_
    refine HT.region ?_   -- R6
    simp (disch := first | omega | (simp <;> omega) | fail) [wrap_i64, wrap_u64, wrap_u8']
    refine HT.cond' ?_   -- if 23
    simp (disch := first | omega | (simp <;> omega) | fail) [wrap_i64, wrap_u64, wrap_u8']
    refine HT.region ?_   -- R7
    simp (disch := first | omega | (simp <;> omega) | fail) [wrap_i64, wrap_u64, wrap_u8']
    refine HT.region ?_   -- R4
    simp (disch := first | omega | (simp <;> omega) | fail) [wrap_i64, wrap_u64, wrap_u8']
    refine Round.mk' (⟨k + 1, by omega⟩) (by dsimp only; omega) rfl ?_
    simp (disch := first | omega | (simp <;> omega) | fail) [wrap_i64, wrap_u64, wrap_u8', rawK_succ]
  · skip
    obtain rfl : k = s.length - 2 := by omega
    refine HT.exit ?_
    simp (disch := first | omega | (simp <;> omega) | fail) [wrap_i64, wrap_u64, wrap_u8']
    refine HT.seq ?_
    refine HT.region ?_   -- R8
    simp (disch := first | omega | (simp <;> omega) | fail) [wrap_i64, wrap_u64, wrap_u8']
    refine stepK.mk (.callS _ _ _ _ _ _ _ rfl Ty.hb49 rfl (by simp) (by first | rfl | simp) (Sort_spec (rawK s (s.length - 2)) (by simp; omega)) rfl) ?_
    simp (disch := first | omega | (simp <;> omega) | fail) [wrap_i64, wrap_u64, wrap_u8']
    refine HT.seq ?_
    refine HT.region ?_   -- R9
    simp (disch := first | omega | (simp <;> omega) | fail) [wrap_i64, wrap_u64, wrap_u8']
    refine stepK.mk (.callR _ _ _ _ _ _ _ rfl Ty.hb50 rfl (by simp) (by first | rfl | simp) (Compact_spec ((rawK s (s.length - 2)).mergeSort leI) (by omega) hcl) rfl) ?_
    simp (disch := first | omega | (simp <;> omega) | fail) [wrap_i64, wrap_u64, wrap_u8']
    refine HT.ret ?_
    simp (disch := first | omega | (simp <;> omega) | fail) [wrap_i64, wrap_u64, wrap_u8', hcf]
end Go.Hv
set_option linter.unusedVariables false
set_option linter.unusedSimpArgs false
namespace Go.Hv
open Go Go.Hv Go.Proofs
open Go.Proofs.Ytphohigoehpkeaa
theorem Poss1_spec (f : Bool) (l : List Int) (x : Int) (hl : l.length ≤ 1000000) : Spec1 Try.prog 53 [i64 x, .cptr [.sl 1 f (intsHV l)]] (bo (decide (x ∈ l))) := by
  refine Spec1.of_HT Try.func53 rfl (by rw [Try.ntmps53]; simp) rfl ?_
  rw [Try.ntmps53]
  refine HT.seq ?_
  refine HT.region ?_   -- R0
  simp (disch := first | omega | (simp <;> omega) | fail) [wrap_i64, wrap_u64, wrap_u8']
  refine HT.seq ?_
  refine HT.region ?_   -- R1
  simp (disch := first | omega | (simp <;> omega) | fail) [wrap_i64, wrap_u64, wrap_u8']
  refine stepK.mk (.call1f _ _ _ _ _ rfl Ty.hb54 rfl rfl (Contains_spec f l x hl) rfl) ?_
  simp (disch := first | omega | (simp <;> omega) | fail) [wrap_i64, wrap_u64, wrap_u8']
  refine HT.ret ?_
  simp (disch := first | omega | (simp <;> omega) | fail) [wrap_i64, wrap_u64, wrap_u8']
set_option maxHeartbeats 1000000 in
theorem Possible_spec (f : Bool) (l : List Int) (s : List UInt8) (hl : l.length ≤ 1000000) (hs : s.length ≤ 900000) : Spec1 Try.prog 24 [.sl 1 f (intsHV l), .str s] (bo (decide (∀ c ∈ ofV s, c ∈ l))) := by
  have hol := ofV_length s
  refine Spec1.of_HT Try.func24 rfl (by rw [Try.ntmps24]; simp) rfl ?_
  rw [Try.ntmps24]
  refine HT.seq ?_
  refine HT.region ?_   -- R0
  simp (disch := first | omega | (simp <;> omega) | fail) [wrap_i64, wrap_u64, wrap_u8']
  refine HT.weaken (HS.le_frzbox 2 2 (by decide) rfl rfl (by simp [isIL, isI])) ?_
  refine HT.seq ?_
  refine HT.region ?_   -- R1
  simp (disch := first | omega | (simp <;> omega) | fail) [wrap_i64, wrap_u64, wrap_u8']
  refine HT.seq ?_
  refine HT.seq ?_
  refine HT.region ?_   -- R2
  simp (disch := first | omega | (simp <;> omega) | fail) [wrap_i64, wrap_u64, wrap_u8']
  refine stepK.mk (.call1f _ _ _ _ _ rfl Ty.hb22 rfl rfl (Codes_spec s hs) rfl) ?_
  simp (disch := first | omega | (simp <;> omega) | fail) [wrap_i64, wrap_u64, wrap_u8']
  refine HT.block ?_
  refine HT.loopK (fun k : {k : Nat // k ≤ (ofV s).length ∧ ∀ i x, i < k → (ofV s)[i]? = some x → x ∈ l} => [.s 12 (i64 k)]) [5, 10, 11] [] (fun k => (ofV s).length - k) (⟨0, by simp⟩) ?_ ?_   -- block 0 turned [12]
  · simp (disch := first | omega | (simp <;> omega) | fail) [wrap_i64, wrap_u64, wrap_u8']
  rintro ⟨k, hk, hg⟩
  simp (disch := first | omega | (simp <;> omega) | fail) [wrap_i64, wrap_u64, wrap_u8']
  refine HT.seq ?_
  refine HT.region ?_   -- R3
  simp (disch := first | omega | (simp <;> omega) | fail) [wrap_i64, wrap_u64, wrap_u8']
  refine HT.seq ?_
  refine HT.cond' ?_   -- if 13
  simp (disch := first | omega | (simp <;> omega) | fail) [wrap_i64, wrap_u64, wrap_u8']
  refine ⟨fun h13 => ?_, fun h13 => ?_⟩
  · skip
    have hk' : k < (ofV s).length := by omega
    refine HT.skip ?_
    simp (disch := first | omega | (simp <;> omega) | fail) [wrap_i64, wrap_u64, wrap_u8']
    refine HT.seq ?_
    refine HT.block ?_
    refine HT.seq ?_
    refine HT.region ?_   -- R4
    simp (disch := first | omega | (simp <;> omega) | fail) [wrap_i64, wrap_u64, wrap_u8']
    refine HT.seq ?_
    refine HT.region ?_   -- R5
    simp (disch := first | omega | (simp <;> omega) | fail) [wrap_i64, wrap_u64, wrap_u8']
    refine stepK.mk (.call1f _ _ _ _ _ rfl Ty.hb53 rfl rfl (Poss1_spec f l (ofV s)[k] hl) rfl) ?_
    simp (disch := first | omega | (simp <;> omega) | fail) [wrap_i64, wrap_u64, wrap_u8']
    refine HT.cond' ?_   -- if 19
    simp (disch := first | omega | (simp <;> omega) | fail) [wrap_i64, wrap_u64, wrap_u8']
    refine ⟨fun h19 => ?_, fun h19 => ?_⟩
    · skip
      refine HT.seq ?_
      refine HT.region ?_   -- R6
      simp (disch := first | omega | (simp <;> omega) | fail) [wrap_i64, wrap_u64, wrap_u8']
      refine HT.ret ?_
      have : ¬ ∀ x ∈ ofV s, x ∈ l := fun h' => h19 (h' _ (List.getElem_mem hk'))
      simp (disch := first | omega | (simp <;> omega) | fail) [wrap_i64, wrap_u64, wrap_u8', this]
    · skip
      refine HT.skip ?_
      simp (disch := first | omega | (simp <;> omega) | fail) [wrap_i64, wrap_u64, wrap_u8']
      refine HT.region ?_   -- R7
      simp (disch := first | omega | (simp <;> omega) | fail) [wrap_i64, wrap_u64, wrap_u8']
      refine Round.mk' (⟨k + 1, by omega, all_succ hg hk' h19⟩) (by dsimp only; omega) rfl ?_
      simp (disch := first | omega | (simp <;> omega) | fail) [wrap_i64, wrap_u64, wrap_u8']
  · skip
    obtain rfl : k = (ofV s).length := by omega
    refine HT.exit ?_
    simp (disch := first | omega | (simp <;> omega) | fail) [wrap_i64, wrap_u64, wrap_u8']
    refine HT.seq ?_
    refine HT.region ?_   -- R8
    simp (disch := first | omega | (simp <;> omega) | fail) [wrap_i64, wrap_u64, wrap_u8']
    refine HT.ret ?_
    have := all_of hg rfl
    simp (disch := first | omega | (simp <;> omega) | fail) [wrap_i64, wrap_u64, wrap_u8', this]
end Go.Hv
set_option linter.unusedVariables false
set_option linter.unusedSimpArgs false
namespace Go.Hv
open Go Go.Hv Go.Proofs
open Go.Proofs.Ytphohigoehpkeaa
theorem upTo_succ {α : Type} {Q : α → Prop} {a : List α} {k : Nat} (hg : ∀ i x, i < k → a[i]? = some x → Q x) (hk : k < a.length) (h : Q a[k]) : ∀ i x, i < k + 1 → a[i]? = some x → Q x := fun i x hi hx => by
  by_cases e : i = k
  · subst e; rw [List.getElem?_eq_getElem hk] at hx; cases hx; exact h
  · exact hg i x (by omega) hx
theorem cIsNaN_spec (x : Int) : Spec1 Try.prog 96 [i64 x] (bo false) := by
  refine Spec1.of_HT Try.func96 rfl (by rw [Try.ntmps96]; simp) rfl ?_
  rw [Try.ntmps96]
  refine HT.seq ?_
  refine HT.region ?_   -- R0
  simp (disch := first | omega | (simp <;> omega) | fail) [wrap_i64, wrap_u64, wrap_u8']
  refine HT.seq ?_
  refine HT.region ?_   -- R1
  simp (disch := first | omega | (simp <;> omega) | fail) [wrap_i64, wrap_u64, wrap_u8']
  refine HT.ret ?_
  simp (disch := first | omega | (simp <;> omega) | fail) [wrap_i64, wrap_u64, wrap_u8']
theorem sIsNaN_spec (x : Int) : Spec1 Try.prog 81 [i64 x] (bo false) := by
  refine Spec1.of_HT Try.func81 rfl (by rw [Try.ntmps81]; simp) rfl ?_
  rw [Try.ntmps81]
  refine HT.seq ?_
  refine HT.region ?_   -- R0
  simp (disch := first | omega | (simp <;> omega) | fail) [wrap_i64, wrap_u64, wrap_u8']
  refine HT.seq ?_
  refine HT.region ?_   -- R1
  simp (disch := first | omega | (simp <;> omega) | fail) [wrap_i64, wrap_u64, wrap_u8']
  refine HT.ret ?_
  simp (disch := first | omega | (simp <;> omega) | fail) [wrap_i64, wrap_u64, wrap_u8']
theorem Less_spec (x y : Int) : Spec1 Try.prog 80 [i64 x, i64 y] (bo (decide (x < y))) := by
  refine Spec1.of_HT Try.func80 rfl (by rw [Try.ntmps80]; simp) rfl ?_
  rw [Try.ntmps80]
  refine HT.seq ?_
  refine HT.region ?_   -- R0
  simp (disch := first | omega | (simp <;> omega) | fail) [wrap_i64, wrap_u64, wrap_u8']
  refine HT.seq ?_
  refine HT.region ?_   -- R1
  simp (disch := first | omega | (simp <;> omega) | fail) [wrap_i64, wrap_u64, wrap_u8']
  refine stepK.mk (.call1 _ _ _ _ rfl Ty.hb96 rfl (cIsNaN_spec x) rfl rfl) ?_
  simp (disch := first | omega | (simp <;> omega) | fail) [wrap_i64, wrap_u64, wrap_u8']
  -- CALL slot 9 fn cmp.isNaN[int]
  refine HT.ret ?_
  simp (disch := first | omega | (simp <;> omega) | fail) [wrap_i64, wrap_u64, wrap_u8']
theorem Clone_spec (f : Bool) (l : List Int) (hl : l.length ≤ 1000000) : SpecO Try.prog 57 [.sl 1 f (intsHV l)] 3 1 (intsHV l) := by
  refine SpecO.of_HT Try.func57 rfl (by rw [Try.ntmps57]; simp) rfl ?_
  rw [Try.ntmps57]
  refine HT.seq ?_
  refine HT.region ?_   -- R0
  simp (disch := first | omega | (simp <;> omega) | fail) [wrap_i64, wrap_u64, wrap_u8']
  refine HT.seq ?_
  refine HT.seq ?_
  refine HT.region ?_   -- R1
  simp (disch := first | omega | (simp <;> omega) | fail) [wrap_i64, wrap_u64, wrap_u8']
  refine ⟨fun hnil => ?_, ?_⟩
  · skip
    refine HT.cond' ?_   -- if 4
    simp (disch := first | omega | (simp <;> omega) | fail) [wrap_i64, wrap_u64, wrap_u8']
    refine HT.seq ?_
    refine HT.region ?_   -- R2
    simp (disch := first | omega | (simp <;> omega) | fail) [wrap_i64, wrap_u64, wrap_u8']
    refine HT.weaken (HS.le_own (t := 2) 200 3 1 _ (by decide) rfl (by decide)) ?_
    refine HT.ret ?_
    simp (disch := first | omega | (simp <;> omega) | fail) [wrap_i64, wrap_u64, wrap_u8', hnil]
  · skip
    refine HT.cond' ?_   -- if 4
    simp (disch := first | omega | (simp <;> omega) | fail) [wrap_i64, wrap_u64, wrap_u8']
    refine HT.skip ?_
    simp (disch := first | omega | (simp <;> omega) | fail) [wrap_i64, wrap_u64, wrap_u8']
    refine HT.seq ?_
    refine HT.region ?_   -- R3
    simp (disch := first | omega | (simp <;> omega) | fail) [wrap_i64, wrap_u64, wrap_u8']
    refine HT.ret ?_
    simp (disch := first | omega | (simp <;> omega) | fail) [wrap_i64, wrap_u64, wrap_u8']
def idxF (p : Int → Bool) (l : List Int) : Int := match l.findIdx? p with | some i => (i : Int) | none => -1
theorem idxF_of {p : Int → Bool} {l : List Int} {k : Nat} (hk : k < l.length) (hp : p l[k] = true) (hb : ∀ i x, i < k → l[i]? = some x → p x = false) : idxF p l = k := by
  unfold idxF
  have : l.findIdx? p = some k := by
    rw [List.findIdx?_eq_some_iff_getElem]
    exact ⟨hk, hp, fun j hj => by simp [hb j l[j] hj (List.getElem?_eq_getElem (by omega))]⟩
  rw [this]
theorem idxF_none {p : Int → Bool} {l : List Int} (hb : ∀ i x, i < l.length → l[i]? = some x → p x = false) : idxF p l = -1 := by
  unfold idxF
  have : l.findIdx? p = none := by
    rw [List.findIdx?_eq_none_iff]
    intro x hx
    obtain ⟨i, hi⟩ := List.mem_iff_getElem?.1 hx
    exact hb i x (getElem?_lt hi) hi
  rw [this]
theorem idxF_cases (p : Int → Bool) (l : List Int) : (idxF p l = -1 ∧ l.filter (fun x => !p x) = l) ∨ ∃ k : Nat, ∃ hk : k < l.length, idxF p l = k ∧ p l[k] = true ∧ ∀ i x, i < k → l[i]? = some x → p x = false := by
  unfold idxF
  cases h : l.findIdx? p with
  | none =>
    left
    refine ⟨rfl, ?_⟩
    rw [List.findIdx?_eq_none_iff] at h
    rw [List.filter_eq_self]
    intro x hx; simp [h x hx]
  | some k =>
    right
    rw [List.findIdx?_eq_some_iff_getElem] at h
    obtain ⟨hk, hp, hb⟩ := h
    refine ⟨k, hk, rfl, hp, fun i x hi hx => ?_⟩
    have hl := getElem?_lt hx
    have := hb i hi
    rw [List.getElem?_eq_getElem hl] at hx
    cases hx
    simpa using this
theorem IndexFunc_spec (g : Nat) (hg : hasBody Try.prog g = true) (cap : List HV) (hcap : isIL cap = true) (p : Int → Bool) (full : Bool) (l : List Int) (hl : l.length ≤ 1000000) (hp : ∀ x ∈ l, Spec1 Try.prog g (i64 x :: cap) (bo (p x))) : Spec1 Try.prog 82 [.sl 1 full (intsHV l), .fn (.func g) cap] (i64 (idxF p l)) := by
  refine Spec1.of_HT Try.func82 rfl (by rw [Try.ntmps82]; simp) rfl ?_
  rw [Try.ntmps82]
  refine HT.seq ?_
  refine HT.region ?_   -- R0
  simp (disch := first | omega | (simp <;> omega) | fail) [wrap_i64, wrap_u64, wrap_u8']
  refine HT.seq ?_
  refine HT.seq ?_
  refine HT.region ?_   -- R1
  simp (disch := first | omega | (simp <;> omega) | fail) [wrap_i64, wrap_u64, wrap_u8']
  refine HT.block ?_
  refine HT.loopK (fun k : {k : Nat // k ≤ l.length ∧ ∀ i x, i < k → l[i]? = some x → p x = false} => [.s 8 (i64 k)]) [0, 1, 7] [] (fun k => l.length - k) (⟨0, by simp⟩) ?_ ?_   -- block 0 turned [8]
  · simp (disch := first | omega | (simp <;> omega) | fail) [wrap_i64, wrap_u64, wrap_u8']
  rintro ⟨k, hk, hb⟩
  simp (disch := first | omega | (simp <;> omega) | fail) [wrap_i64, wrap_u64, wrap_u8']
  refine HT.seq ?_
  refine HT.region ?_   -- R2
  simp (disch := first | omega | (simp <;> omega) | fail) [wrap_i64, wrap_u64, wrap_u8']
  refine HT.seq ?_
  refine HT.cond' ?_   -- if 9
  simp (disch := first | omega | (simp <;> omega) | fail) [wrap_i64, wrap_u64, wrap_u8']
  refine ⟨fun h9 => ?_, fun h9 => ?_⟩
  · skip
    have hk' : k < l.length := by omega
    refine HT.skip ?_
    simp (disch := first | omega | (simp <;> omega) | fail) [wrap_i64, wrap_u64, wrap_u8']
    refine HT.seq ?_
    refine HT.block ?_
    refine HT.seq ?_
    refine HT.region ?_   -- R3
    simp (disch := first | omega | (simp <;> omega) | fail) [wrap_i64, wrap_u64, wrap_u8']
    refine HT.seq ?_
    refine HT.region ?_   -- R4
    simp (disch := first | omega | (simp <;> omega) | fail) [wrap_i64, wrap_u64, wrap_u8']
    refine stepK.mk (.call1 _ _ _ _ rfl hg (by simp [rdL, rd, rdL_isI, hcap]) (hp l[k] (List.getElem_mem hk')) rfl rfl) ?_
    simp (disch := first | omega | (simp <;> omega) | fail) [wrap_i64, wrap_u64, wrap_u8']
    refine HT.cond' ?_   -- if 16
    simp (disch := first | omega | (simp <;> omega) | fail) [wrap_i64, wrap_u64, wrap_u8']
    refine ⟨fun h16 => ?_, fun h16 => ?_⟩
    · skip
      refine HT.seq ?_
      refine HT.region ?_   -- R5
      simp (disch := first | omega | (simp <;> omega) | fail) [wrap_i64, wrap_u64, wrap_u8']
      refine HT.ret ?_
      have := idxF_of hk' h16 hb
      simp (disch := first | omega | (simp <;> omega) | fail) [wrap_i64, wrap_u64, wrap_u8', this]
    · skip
      refine HT.skip ?_
      simp (disch := first | omega | (simp <;> omega) | fail) [wrap_i64, wrap_u64, wrap_u8']
      refine HT.region ?_   -- R6
      simp (disch := first | omega | (simp <;> omega) | fail) [wrap_i64, wrap_u64, wrap_u8']
      refine Round.mk' (⟨k + 1, by omega, upTo_succ hb hk' h16⟩) (by dsimp only; omega) rfl ?_
      simp (disch := first | omega | (simp <;> omega) | fail) [wrap_i64, wrap_u64, wrap_u8']
  · skip
    obtain rfl : k = l.length := by omega
    refine HT.exit ?_
    simp (disch := first | omega | (simp <;> omega) | fail) [wrap_i64, wrap_u64, wrap_u8']
    refine HT.seq ?_
    refine HT.region ?_   -- R7
    simp (disch := first | omega | (simp <;> omega) | fail) [wrap_i64, wrap_u64, wrap_u8']
    refine HT.ret ?_
    have := idxF_none hb
    simp (disch := first | omega | (simp <;> omega) | fail) [wrap_i64, wrap_u64, wrap_u8', this]
theorem filt_take_succ {α : Type} (q : α → Bool) {l : List α} {j : Nat} (hj : j < l.length) : (l.take (j + 1)).filter q = (l.take j).filter q ++ (if q l[j] = true then [l[j]] else []) := by
  rw [List.take_succ_eq_append_getElem hj, List.filter_append]
  by_cases h : q l[j] = true <;> simp [h]
/-- What the row holds while DeleteFunc works: what is kept of the first j, then what lay there. -/
def delRow (q : Int → Bool) (l : List Int) (j : Nat) : List Int := (l.take j).filter q ++ l.drop ((l.take j).filter q).length
theorem delRow_length (q : Int → Bool) (l : List Int) (j : Nat) : (delRow q l j).length = l.length := by
  have h1 := List.length_filter_le q (l.take j)
  have h2 : (l.take j).length ≤ l.length := by rw [List.length_take]; omega
  unfold delRow; rw [List.length_append, List.length_drop]; omega
theorem delRow_get (q : Int → Bool) (l : List Int) (j : Nat) (hj : j < l.length) : (delRow q l j)[j]'(by rw [delRow_length]; exact hj) = l[j] := by
  have h1 := List.length_filter_le q (l.take j)
  have h2 : (l.take j).length = j := by rw [List.length_take]; omega
  unfold delRow
  rw [List.getElem_append_right (by omega), List.getElem_drop]
  congr 1; omega
def delN (q : Int → Bool) (l : List Int) (j : Nat) : Nat := ((l.take j).filter q).length
theorem delN_le (q : Int → Bool) (l : List Int) (j : Nat) (hj : j ≤ l.length) : delN q l j ≤ j := by
  have h1 := List.length_filter_le q (l.take j)
  have h2 : (l.take j).length = j := by rw [List.length_take]; omega
  unfold delN; omega
theorem delRow_keep {q : Int → Bool} {l : List Int} {j : Nat} (hj : j < l.length) (hq : q l[j] = true) : delRow q l (j + 1) = (delRow q l j).set (delN q l j) l[j] ∧ delN q l (j + 1) = delN q l j + 1 := by
  have h1 := delN_le q l j (by omega)
  have e : (l.take (j + 1)).filter q = (l.take j).filter q ++ [l[j]] := by rw [filt_take_succ q hj, if_pos hq]
  refine ⟨?_, by unfold delN; rw [e]; simp⟩
  unfold delN at h1 ⊢
  unfold delRow
  rw [e, List.set_append_right _ _ (Nat.le_refl _), Nat.sub_self, List.append_assoc]
  congr 1
  have hd : l.drop ((l.take j).filter q).length = l[((l.take j).filter q).length]'(by omega) :: l.drop (((l.take j).filter q).length + 1) := List.drop_eq_getElem_cons (by omega)
  rw [hd, List.length_append]
  rfl
theorem delRow_drop {q : Int → Bool} {l : List Int} {j : Nat} (hj : j < l.length) (hq : ¬ q l[j] = true) : delRow q l (j + 1) = delRow q l j ∧ delN q l (j + 1) = delN q l j := by
  have e : (l.take (j + 1)).filter q = (l.take j).filter q := by rw [filt_take_succ q hj, if_neg hq, List.append_nil]
  unfold delRow delN
  rw [e]
  exact ⟨rfl, rfl⟩
theorem delRow_first {q : Int → Bool} {l : List Int} {i : Nat} (hi : i < l.length) (h1 : ¬ q l[i] = true) (h2 : ∀ j x, j < i → l[j]? = some x → q x = true) : delRow q l (i + 1) = l ∧ delN q l (i + 1) = i := by
  have h0 : (l.take i).filter q = l.take i := by
    rw [List.filter_eq_self]
    intro x hx
    obtain ⟨j, hj⟩ := List.mem_iff_getElem?.1 hx
    have hl := getElem?_lt hj
    rw [List.length_take] at hl
    rw [List.getElem?_take_of_lt (by omega)] at hj
    exact h2 j x (by omega) hj
  have hd := delRow_drop hi h1
  rw [hd.1, hd.2]
  unfold delRow delN
  rw [h0]
  have : (l.take i).length = i := by rw [List.length_take]; omega
  rw [this]
  exact ⟨by simp, rfl⟩
theorem delRow_last (q : Int → Bool) (l : List Int) : (delRow q l l.length).take (delN q l l.length) = l.filter q ∧ delN q l l.length = (l.filter q).length := by
  unfold delRow delN
  rw [List.take_length]
  simp
theorem intsHV_set (l : List Int) (n : Nat) (x : Int) : (intsHV l).set n [i64 x] = intsHV (l.set n x) := by unfold intsHV; rw [List.map_set]
theorem intsHV_take (l : List Int) (n : Nat) : (intsHV l).take n = intsHV (l.take n) := by unfold intsHV; rw [List.map_take]
set_option maxHeartbeats 1000000 in
theorem DeleteFunc_spec (g : Nat) (hg : hasBody Try.prog g = true) (cap : List HV) (hcap : isIL cap = true) (p : Int → Bool) (l : List Int) (hl : l.length ≤ 1000000) (hp : ∀ x ∈ l, Spec1 Try.prog g (i64 x :: cap) (bo (p x))) : SpecR Try.prog 60 3 1 (intsHV l) [.fn (.func g) cap] (intsHV (l.filter fun x => !p x)) := by
  refine SpecR.of_HT Try.func60 rfl (by rw [Try.ntmps60]; simp) rfl ?_
  rw [Try.ntmps60]
  refine HT.seq ?_
  refine HT.region ?_   -- R0
  simp (disch := first | omega | (simp <;> omega) | fail) [wrap_i64, wrap_u64, wrap_u8', delRow_length]
  refine HT.seq ?_
  refine HT.region ?_   -- R1
  simp (disch := first | omega | (simp <;> omega) | fail) [wrap_i64, wrap_u64, wrap_u8', delRow_length]
  refine stepK.mk (.call1 _ _ _ _ rfl Ty.hb82 (by simp [rdL, rd, rdL_isI, hcap]) (IndexFunc_spec g hg cap hcap p false l hl hp) rfl rfl) ?_
  simp (disch := first | omega | (simp <;> omega) | fail) [wrap_i64, wrap_u64, wrap_u8', delRow_length]
  refine HT.seq ?_
  refine HT.seq ?_
  by_cases cc : idxF p l = -1
  · skip
    refine HT.region ?_   -- R2
    simp (disch := first | omega | (simp <;> omega) | fail) [wrap_i64, wrap_u64, wrap_u8', delRow_length, cc]
    refine HT.cond' ?_   -- if 12
    simp (disch := first | omega | (simp <;> omega) | fail) [wrap_i64, wrap_u64, wrap_u8', delRow_length]
    refine HT.seq ?_
    refine HT.region ?_   -- R3
    simp (disch := first | omega | (simp <;> omega) | fail) [wrap_i64, wrap_u64, wrap_u8', delRow_length]
    refine HT.ret ?_
    have hfl : l.filter (fun x => !p x) = l := (idxF_cases p l).elim (·.2) (fun ⟨k, hk, h0, _⟩ => absurd (cc.symm.trans h0) (by omega))
    simp (disch := first | omega | (simp <;> omega) | fail) [wrap_i64, wrap_u64, wrap_u8', delRow_length, hfl]
  obtain ⟨i0, hi0, c2, h1, h2⟩ := (idxF_cases p l).resolve_left (fun h => cc h.1)
  have c3 : ¬ ((i0 : Int) = -1) := by omega
  have hdl := delRow_last (fun x => !p x) l
  have hnl := delN_le (fun x => !p x) l l.length (Nat.le_refl _)
  have hdr := delRow_first (q := fun x => !p x) hi0 (by simpa using h1) (fun j x hj hx => by simp [h2 j x hj hx])
  refine HT.region ?_   -- R2
  simp (disch := first | omega | (simp <;> omega) | fail) [wrap_i64, wrap_u64, wrap_u8', delRow_length, cc]
  refine HT.cond' ?_   -- if 12
  simp (disch := first | omega | (simp <;> omega) | fail) [wrap_i64, wrap_u64, wrap_u8', delRow_length]
  refine HT.skip ?_
  simp (disch := first | omega | (simp <;> omega) | fail) [wrap_i64, wrap_u64, wrap_u8', delRow_length]
  refine HT.seq ?_
  refine HT.seq ?_
  refine HT.region ?_   -- R4
  simp (disch := first | omega | (simp <;> omega) | fail) [wrap_i64, wrap_u64, wrap_u8', delRow_length]
  refine HT.block ?_
  refine HT.loopK (fun j : {j : Nat // i0 < j ∧ j ≤ l.length} => [.s 6 (i64 j), .s 5 (i64 (delN (fun x => !p x) l j)), .o 900 (.row 3 1 (intsHV (delRow (fun x => !p x) l j)))]) [0, 1] [] (fun j => l.length - j) (⟨i0 + 1, by omega⟩) ?_ ?_   -- block 0 turned [5, 6]
  · simp (disch := first | omega | (simp <;> omega) | fail) [wrap_i64, wrap_u64, wrap_u8', delRow_length, hdr.1, hdr.2, c2]
  rintro ⟨j, hj0, hj⟩
  simp (disch := first | omega | (simp <;> omega) | fail) [wrap_i64, wrap_u64, wrap_u8', delRow_length]
  refine HT.seq ?_
  refine HT.seq ?_
  refine HT.region ?_   -- R5
  simp (disch := first | omega | (simp <;> omega) | fail) [wrap_i64, wrap_u64, wrap_u8', delRow_length]
  refine HT.cond' ?_   -- if 19
  simp (disch := first | omega | (simp <;> omega) | fail) [wrap_i64, wrap_u64, wrap_u8', delRow_length]
  refine ⟨fun h19 => ?_, fun h19 => ?_⟩
  · skip
    have hj' : j < l.length := by omega
    have hg0 : (intsHV (delRow (fun x => !p x) l j))[j]? = some [i64 l[j]] := by rw [List.getElem?_eq_getElem (by simp [delRow_length]; exact hj'), intsHV_getElem, delRow_get _ l j hj']
    have hn0 := delN_le (fun x => !p x) l j hj
    refine HT.skip ?_
    simp (disch := first | omega | (simp <;> omega) | fail) [wrap_i64, wrap_u64, wrap_u8', delRow_length]
    refine HT.seq ?_
    refine HT.block ?_
    refine HT.seq ?_
    refine HT.region ?_   -- R7
    simp (disch := first | omega | (simp <;> omega) | fail) [wrap_i64, wrap_u64, wrap_u8', delRow_length, hg0]
    refine HT.seq ?_
    refine HT.region ?_   -- R8
    simp (disch := first | omega | (simp <;> omega) | fail) [wrap_i64, wrap_u64, wrap_u8', delRow_length]
    refine stepK.mk (.call1 _ _ _ _ rfl hg (by simp [rdL, rd, rdL_isI, hcap]) (hp l[j] (List.getElem_mem hj')) rfl rfl) ?_
    simp (disch := first | omega | (simp <;> omega) | fail) [wrap_i64, wrap_u64, wrap_u8', delRow_length]
    refine HT.cond' ?_   -- if 29
    simp (disch := first | omega | (simp <;> omega) | fail) [wrap_i64, wrap_u64, wrap_u8', delRow_length]
    refine ⟨fun h29 => ?_, fun h29 => ?_⟩
    · skip
      have hk := delRow_keep hj' (q := fun x => !p x) (by simp [h29])
      refine HT.seq ?_
      refine HT.region ?_   -- R9
      simp (disch := first | omega | (simp <;> omega) | fail) [wrap_i64, wrap_u64, wrap_u8', delRow_length, intsHV_set]
      refine HT.region ?_   -- R10
      simp (disch := first | omega | (simp <;> omega) | fail) [wrap_i64, wrap_u64, wrap_u8', delRow_length]
      refine HT.region ?_   -- R6
      simp (disch := first | omega | (simp <;> omega) | fail) [wrap_i64, wrap_u64, wrap_u8', delRow_length]
      refine Round.mk' (⟨j + 1, by omega⟩) (by dsimp only; omega) rfl ?_
      simp (disch := first | omega | (simp <;> omega) | fail) [wrap_i64, wrap_u64, wrap_u8', delRow_length, hk.1, hk.2]
    · skip
      have hk := delRow_drop hj' (q := fun x => !p x) (by simp [h29])
      refine HT.skip ?_
      simp (disch := first | omega | (simp <;> omega) | fail) [wrap_i64, wrap_u64, wrap_u8', delRow_length]
      refine HT.region ?_   -- R6
      simp (disch := first | omega | (simp <;> omega) | fail) [wrap_i64, wrap_u64, wrap_u8', delRow_length]
      refine Round.mk' (⟨j + 1, by omega⟩) (by dsimp only; omega) rfl ?_
      simp (disch := first | omega | (simp <;> omega) | fail) [wrap_i64, wrap_u64, wrap_u8', delRow_length, hk.1, hk.2]
  · skip
    obtain rfl : j = l.length := by omega
    refine HT.exit ?_
    simp (disch := first | omega | (simp <;> omega) | fail) [wrap_i64, wrap_u64, wrap_u8', delRow_length]
    refine HT.seq ?_
    refine HT.region ?_   -- R11
    simp (disch := first | omega | (simp <;> omega) | fail) [wrap_i64, wrap_u64, wrap_u8', delRow_length, hnl]
    refine HT.seq ?_
    refine HT.region ?_   -- R12
    simp (disch := first | omega | (simp <;> omega) | fail) [wrap_i64, wrap_u64, wrap_u8', delRow_length, hnl]
    refine HT.ret ?_
    simp (disch := first | omega | (simp <;> omega) | fail) [wrap_i64, wrap_u64, wrap_u8', delRow_length, intsHV_take, hdl.1]
def lbI (l : List Int) (x : Int) : Nat := l.findIdx fun y => decide (x ≤ y)
theorem lbI_of {l : List Int} {x : Int} {k : Nat} (hk : k ≤ l.length) (h1 : ∀ i y, i < k → l[i]? = some y → y < x) (h2 : ∀ i y, k ≤ i → l[i]? = some y → x ≤ y) : lbI l x = k := by
  unfold lbI
  rcases Nat.lt_or_ge k l.length with h | h
  · rw [List.findIdx_eq h]
    refine ⟨by simpa using h2 k _ (Nat.le_refl _) (List.getElem?_eq_getElem h), fun j hj => ?_⟩
    have := h1 j _ hj (List.getElem?_eq_getElem (by omega))
    simp; omega
  · obtain rfl : k = l.length := by omega
    rw [List.findIdx_eq_length]
    intro y hy
    obtain ⟨i, hi⟩ := List.mem_iff_getElem?.1 hy
    have := h1 i y (getElem?_lt hi) hi
    simp; omega
theorem sorted_le {l : List Int} (hs : l.Pairwise (· ≤ ·)) {i j : Nat} {x y : Int} (hij : i ≤ j) (hx : l[i]? = some x) (hy : l[j]? = some y) : x ≤ y := by
  have h1 := getElem?_lt hx
  have h2 := getElem?_lt hy
  rw [List.getElem?_eq_getElem h1] at hx
  rw [List.getElem?_eq_getElem h2] at hy
  cases hx; cases hy
  rcases Nat.lt_or_ge i j with h | h
  · exact List.pairwise_iff_getElem.1 hs i j h1 h2 h
  · obtain rfl : i = j := by omega
    exact Int.le_refl _
theorem lbI_mem {l : List Int} {x : Int} {k : Nat} (hk : k ≤ l.length) (h1 : ∀ i y, i < k → l[i]? = some y → y < x) (h2 : ∀ i y, k ≤ i → l[i]? = some y → x ≤ y) (hs : l.Pairwise (· ≤ ·)) : x ∈ l ↔ ∃ h : k < l.length, l[k] = x := by
  constructor
  · intro hx
    obtain ⟨i, hi⟩ := List.mem_iff_getElem?.1 hx
    have hki : k ≤ i := by
      rcases Nat.lt_or_ge i k with h | h
      · have := h1 i x h hi; omega
      · exact h
    have hil := getElem?_lt hi
    refine ⟨by omega, ?_⟩
    have a1 := sorted_le hs hki (List.getElem?_eq_getElem (by omega)) hi
    have a2 := h2 k _ (Nat.le_refl _) (List.getElem?_eq_getElem (by omega))
    omega
  · rintro ⟨h, rfl⟩; exact List.getElem_mem h
set_option maxHeartbeats 1000000 in
theorem BinarySearch_spec (f : Bool) (l : List Int) (x : Int) (hl : l.length ≤ 1000000) (hs : l.Pairwise (· ≤ ·)) : SpecT Try.prog 59 [.sl 1 f (intsHV l), i64 x] [i64 (lbI l x), bo (decide (x ∈ l))] := by
  refine SpecT.of_HT Try.func59 rfl (by rw [Try.ntmps59]; simp) (rs := [.tmp 4, .tmp 5]) rfl (by decide) ?_
  rw [Try.ntmps59]
  refine HT.seq ?_
  refine HT.region ?_   -- R0
  simp (disch := first | omega | (simp <;> omega) | fail) [wrap_i64, wrap_u64, wrap_u8']
  refine HT.seq ?_
  refine HT.region ?_   -- R1
  simp (disch := first | omega | (simp <;> omega) | fail) [wrap_i64, wrap_u64, wrap_u8']
  refine HT.seq ?_
  refine HT.region ?_   -- R2
  simp (disch := first | omega | (simp <;> omega) | fail) [wrap_i64, wrap_u64, wrap_u8']
  refine HT.seq ?_
  refine HT.block ?_
  refine HT.loopK (fun p : {p : Nat × Nat // p.1 ≤ p.2 ∧ p.2 ≤ l.length ∧ (∀ i y, i < p.1 → l[i]? = some y → y < x) ∧ ∀ i y, p.2 ≤ i → l[i]? = some y → x ≤ y} => [.s 7 (i64 p.1.1), .s 8 (i64 p.1.2)]) [0, 1, 6, 36, 37, 38, 39, 40, 41, 42, 43, 44, 45, 46, 47, 48, 49, 50, 51, 52] [] (fun p => p.1.2 - p.1.1) (⟨(0, l.length), by simp, by simp, by simp, fun i y hi hy => absurd (getElem?_lt hy) (by omega)⟩) ?_ ?_   -- block 0 turned [7, 8]
  · simp (disch := first | omega | (simp <;> omega) | fail) [wrap_i64, wrap_u64, wrap_u8']
  rintro ⟨⟨a, b⟩, hab, hb, h1, h2⟩
  simp (disch := first | omega | (simp <;> omega) | fail) [wrap_i64, wrap_u64, wrap_u8']
  dsimp only at hab hb h1 h2
  generalize hm : (a + b) / 2 = m
  refine HT.seq ?_
  refine HT.seq ?_
  refine HT.region ?_   -- R3
  simp (disch := first | omega | (simp <;> omega) | fail) [wrap_i64, wrap_u64, wrap_u8']
  refine HT.cond' ?_   -- if 15
  simp (disch := first | omega | (simp <;> omega) | fail) [wrap_i64, wrap_u64, wrap_u8']
  refine ⟨fun h15 => ?_, fun h15 => ?_⟩
  · skip
    have hm1 : m < b := by omega
    have hm2 : a ≤ m := by omega
    have hm3 : m < l.length := by omega
    have hdv : ((a : Int) + b).fdiv (2 ^ min 1 IntKind.u64.bits) = (m : Int) := by
      show Int.fdiv ((a : Int) + b) 2 = m
      rw [Int.fdiv_eq_ediv_of_nonneg _ (by omega)]; omega
    refine HT.skip ?_
    simp (disch := first | omega | (simp <;> omega) | fail) [wrap_i64, wrap_u64, wrap_u8']
    refine HT.block ?_
    refine HT.seq ?_
    refine HT.region ?_   -- R4
    simp (disch := first | omega | (simp <;> omega) | fail) [wrap_i64, wrap_u64, wrap_u8', hdv]
    refine HT.seq ?_
    refine HT.region ?_   -- R5
    simp (disch := first | omega | (simp <;> omega) | fail) [wrap_i64, wrap_u64, wrap_u8']
    refine stepK.mk (.call1 _ _ _ _ rfl Ty.hb80 rfl (Less_spec l[m] x) rfl rfl) ?_
    simp (disch := first | omega | (simp <;> omega) | fail) [wrap_i64, wrap_u64, wrap_u8']
    refine HT.cond' ?_   -- if 27
    simp (disch := first | omega | (simp <;> omega) | fail) [wrap_i64, wrap_u64, wrap_u8']
    refine ⟨fun h27 => ?_, fun h27 => ?_⟩
    · skip
      refine HT.region ?_   -- R6
      simp (disch := first | omega | (simp <;> omega) | fail) [wrap_i64, wrap_u64, wrap_u8']
      refine Round.mk' (⟨(m + 1, b), by dsimp only; omega, hb, fun i y hi hy => by have := sorted_le hs (j := m) (by omega) hy (List.getElem?_eq_getElem hm3); omega, h2⟩) (by dsimp only; omega) rfl ?_
      simp (disch := first | omega | (simp <;> omega) | fail) [wrap_i64, wrap_u64, wrap_u8']
    · skip
      refine HT.region ?_   -- R7
      simp (disch := first | omega | (simp <;> omega) | fail) [wrap_i64, wrap_u64, wrap_u8']
      refine Round.mk' (⟨(a, m), hm2, by dsimp only; omega, h1, fun i y hi hy => by have := sorted_le hs (i := m) hi (List.getElem?_eq_getElem hm3) hy; omega⟩) (by dsimp only; omega) rfl ?_
      simp (disch := first | omega | (simp <;> omega) | fail) [wrap_i64, wrap_u64, wrap_u8']
  · skip
    obtain rfl : a = b := by omega
    have hlb := lbI_of hb h1 h2
    have hmem := lbI_mem hb h1 h2 hs
    refine HT.exit ?_
    simp (disch := first | omega | (simp <;> omega) | fail) [wrap_i64, wrap_u64, wrap_u8']
    refine HT.seq ?_
    have c2 : True := trivial
    by_cases c1 : ¬ a < l.length
    · skip
      refine HT.region ?_   -- R8
      simp (disch := first | omega | (simp <;> omega) | fail) [wrap_i64, wrap_u64, wrap_u8', c1, c2]
      -- CALL slot 50 fn slices.isNaN[int]
      refine HT.ret ?_
      simp (disch := first | omega | (simp <;> omega) | fail) [wrap_i64, wrap_u64, wrap_u8', hlb, hmem, c1, c2]
    rw [Classical.not_not] at c1
    clear c2
    by_cases c2 : l[a] = x
    · skip
      refine HT.region ?_   -- R8
      simp (disch := first | omega | (simp <;> omega) | fail) [wrap_i64, wrap_u64, wrap_u8', c1, c2]
      -- CALL slot 50 fn slices.isNaN[int]
      refine HT.ret ?_
      simp (disch := first | omega | (simp <;> omega) | fail) [wrap_i64, wrap_u64, wrap_u8', hlb, hmem, c1, c2]
    refine HT.region ?_   -- R8
    simp (disch := first | omega | (simp <;> omega) | fail) [wrap_i64, wrap_u64, wrap_u8', c1, c2]
    refine stepK.mk (.call1 _ _ _ _ rfl Ty.hb81 rfl (sIsNaN_spec l[a]) rfl rfl) ?_
    simp (disch := first | omega | (simp <;> omega) | fail) [wrap_i64, wrap_u64, wrap_u8', c1, c2]
    -- CALL slot 50 fn slices.isNaN[int]
    refine HT.ret ?_
    simp (disch := first | omega | (simp <;> omega) | fail) [wrap_i64, wrap_u64, wrap_u8', hlb, hmem, c1, c2]
end Go.Hv
