import Derived.Test.YtmpgljmmjipioaaLawMoves
import Derived.Test.YtmpgljmmjipioaaHv25
set_option linter.unusedVariables false
set_option linter.unusedSimpArgs false
namespace Go.Hv
open Go Go.Hv Go.Proofs
open Go.Proofs.Ytmpgljmmjipioaa
def intsHV (l : List Int) : List (List HV) := l.map fun n => [i64 n]
@[simp] theorem intsHV_length (l : List Int) : (intsHV l).length = l.length := by simp [intsHV]
@[simp] theorem intsHV_getElem (l : List Int) (k : Nat) (h : k < (intsHV l).length) : (intsHV l)[k] = [i64 (l[k]'(by simpa using h))] := by simp [intsHV]
@[simp] theorem isILL_intsHV (l : List Int) : isILL (intsHV l) = true := by simp [isILL, intsHV, isIL, isI]
theorem intsHV_append (a b : List Int) : intsHV (a ++ b) = intsHV a ++ intsHV b := by simp [intsHV]
@[simp] theorem intsHV_nil : intsHV [] = [] := rfl
theorem intsHV_cons (a : Int) (b : List Int) : intsHV (a :: b) = [i64 a] :: intsHV b := rfl
theorem f19_spec (fa fb : Bool) (x y : List Int) (hx : x.length < 2 ^ 40) : Spec1 Try.prog 19 [.sl 1 fa (intsHV x), .sl 1 fb (intsHV y)] (bo (decide (x = y))) := by
  refine Spec1.of_HT Try.func19 rfl (by rw [Try.ntmps19]; simp) rfl ?_
  rw [Try.ntmps19]
  refine HT.seq ?_
  refine HT.region ?_   -- R0
  simp
  refine HT.seq ?_
  refine HT.seq ?_
  refine HT.region ?_   -- R1
  simp
  refine HT.cond' ?_
  simp
  constructor
  · intro h
    refine HT.seq ?_
    refine HT.region ?_   -- R2
    simp
    refine HT.ret ?_
    have : x ≠ y := fun e => h (by rw [e])
    simp [this]
  · intro h
    refine HT.skip ?_
    simp
    refine HT.seq ?_
    refine HT.seq ?_
    refine HT.region ?_   -- R3
    simp
    refine HT.block ?_
    refine HT.loop (fun k : {k : Nat // k ≤ x.length ∧ x.take k = y.take k} => ⟨[.s 0 (.sl 1 fa (intsHV x)), .s 1 (.sl 1 fb (intsHV y)), .s 5 (i64 k)], 26⟩) (fun k => x.length - k) ⟨0, by simp⟩ (HS.le_fits ?_) ?_   -- turned: [4, 5, 11, 12, 13, 14, 15, 16, 17, 18, 19, 20, 21, 22, 23, 24, 25]
    · simp
    rintro ⟨k, hk, hg⟩
    refine HT.seq ?_
    refine HT.seq ?_
    refine HT.region ?_   -- R4
    simp
    refine HT.cond' ?_
    simp
    constructor
    · intro h
      have hk1 : k < x.length := by omega
      have hk2 : k < y.length := by omega
      refine HT.skip ?_
      simp
      refine HT.seq ?_
      refine HT.block ?_
      refine HT.seq ?_
      refine HT.draw [.batch [0, 1, 2, 3, 4, 5, 6, 7, 8]] (by kernel_rfl) ?_   -- R6
      simp [hk1, hk2, show (k : Int) < x.length by omega, show (k : Int) < y.length by omega]
      refine HT.cond' ?_
      simp
      constructor
      · intro h
        refine HT.seq ?_
        refine HT.region ?_   -- R7
        simp
        refine HT.ret ?_
        have : x ≠ y := fun e => h (by subst e; rfl)
        simp [this]
      · intro h
        refine HT.skip ?_
        simp
        refine HT.region ?_   -- R5
        simp
        refine ⟨k + 1, by omega, ⟨by omega, by rw [List.take_succ_eq_append_getElem hk1, List.take_succ_eq_append_getElem hk2, hg, h]⟩, HS.le_fits ?_⟩
        simp
        rw [wrap_i64] <;> omega
    · intro h
      refine HT.exit ?_
      simp
      refine HT.seq ?_
      refine HT.region ?_   -- R8
      simp
      refine HT.ret ?_
      have : x = y := by rw [List.take_of_length_le (by omega), List.take_of_length_le (by omega)] at hg; exact hg
      simp [this]
/-- The documents that move from a shards to b. -/
def movesV (l : List Doc) (a b : Int) : List Int := (l.filter fun d => !decide (ofV d.repo d.path a = ofV d.repo d.path b)).map (·.id)
theorem movesV_length (l : List Doc) (a b : Int) : (movesV l a b).length ≤ l.length := by
  unfold movesV; rw [List.length_map]; exact List.length_filter_le _ _
theorem movesV_succ {l : List Doc} {k : Nat} (h : k < l.length) (a b : Int) : movesV (l.take (k + 1)) a b = movesV (l.take k) a b ++ (if ofV l[k].repo l[k].path a = ofV l[k].repo l[k].path b then [] else [l[k].id]) := by
  rw [List.take_succ_eq_append_getElem h]
  unfold movesV
  rw [List.filter_append, List.map_append]
  congr 1
  by_cases e : ofV l[k].repo l[k].path a = ofV l[k].repo l[k].path b <;> simp [e]
def Short (l : List Doc) : Prop := ∀ d ∈ l, d.repo.length ≤ 1048576 ∧ d.path.length ≤ 1048576
theorem f20_spec (full : Bool) (l : List Doc) (a b : Int) (hl : l.length ≤ 1048576) (hs : Short l) (ha : a ≤ 400) (hb : b ≤ 400) : Spec1 Try.prog 20 [.sl 5 full (docsHV l), i64 a, i64 b] (.sl 1 false (intsHV (movesV l a b))) := by
  refine Spec1.of_HT Try.func20 rfl (by rw [Try.ntmps20]; simp) rfl ?_
  rw [Try.ntmps20]
  refine HT.seq ?_
  refine HT.region ?_   -- R0
  simp
  refine HT.seq ?_
  refine HT.region ?_   -- R1
  simp
  refine HT.seq ?_
  refine HT.seq ?_
  refine HT.region ?_   -- R2
  simp
  refine HT.block ?_
  refine HT.loop (fun k : {k : Nat // k ≤ l.length} => ⟨[.s 1 (i64 a), .s 2 (i64 b), .s 10 (.sl 5 full (docsHV l)), .s 11 (i64 l.length), .s 12 (i64 k), .s 7 (.ref 7), .o 7 (.row 3 1 (intsHV (movesV (l.take k) a b)))], 36⟩) (fun k => l.length - k) ⟨0, by omega⟩ (HS.le.trans (HS.le_own (t := 7) 7 3 1 _ (by decide) rfl (by decide)) (HS.le_fits ?_)) ?_
  · simp [movesV]
  rintro ⟨k, hk⟩
  refine HT.seq ?_
  refine HT.region ?_   -- R3
  simp
  refine HT.seq ?_
  refine HT.cond' ?_
  simp
  constructor
  · intro h
    have hk' : k < l.length := by omega
    have hsk := hs _ (List.getElem_mem hk')
    have b1 : ∀ N, 4000000 ≤ N → (movesV (l.take k) a b).length ≤ N := fun N h => by have := movesV_length (l.take k) a b; simp at this; omega
    have b2 : ∀ N, 4000000 ≤ N → (movesV (l.take k) a b).length + 1 ≤ N := fun N h => by have := movesV_length (l.take k) a b; simp at this; omega
    have b3 : ∀ N, 40000000 ≤ N → ((movesV (l.take k) a b).length + 1) * 8 ≤ N := fun N h => by have := movesV_length (l.take k) a b; simp at this; omega
    refine HT.skip ?_
    simp
    refine HT.seq ?_
    refine HT.block ?_
    refine HT.seq ?_
    refine HT.region ?_   -- R4
    simp [h, hk']
    refine HT.seq ?_
    refine HT.draw [.batch [0, 1, 2, 3, 4, 5, 6, 7, 8, 9, 10, 11, 12]] (by kernel_rfl) ?_   -- R5 calls [11, 11]
    simp
    refine ⟨_, .call1 _ _ _ rfl Ty.hb11 rfl rfl (f11_spec _ _ _ hsk.1 hsk.2 ha), ?_⟩
    simp
    refine ⟨_, .call1 _ _ _ rfl Ty.hb11 rfl rfl (f11_spec _ _ _ hsk.1 hsk.2 hb), ?_⟩
    simp
    refine HT.cond' ?_
    simp
    constructor
    · intro h
      refine HT.region ?_   -- R6
      simp [b1, b2, b3]
      refine HT.region ?_   -- R7
      simp
      refine ⟨k + 1, by omega, by omega, HS.le_fits ?_⟩
      rw [movesV_succ hk', if_neg h, intsHV_append, intsHV_cons]
      simp
      rw [wrap_i64] <;> omega
    · intro h
      refine HT.skip ?_
      simp
      refine HT.region ?_   -- R7
      simp
      refine ⟨k + 1, by omega, by omega, HS.le_fits ?_⟩
      rw [movesV_succ hk', if_pos h]
      simp
      rw [wrap_i64] <;> omega
  · intro h
    obtain rfl : k = l.length := by omega
    refine HT.exit ?_
    simp
    refine HT.seq ?_
    refine HT.region ?_   -- R8
    simp
    refine HT.ret ?_
    simp
theorem f21_spec (full : Bool) (l : List Doc) (a b : Int) (hl : l.length ≤ 1048576) (hs : Short l) (ha : a ≤ 400) (hb : b ≤ 400) : Spec1 Try.prog 21 [.sl 5 full (docsHV l), i64 a, i64 b] (.sl 1 false (intsHV (movesV l a b))) := by
  refine Spec1.of_HT Try.func21 rfl (by rw [Try.ntmps21]; simp) rfl ?_
  rw [Try.ntmps21]
  refine HT.seq ?_
  refine HT.region ?_   -- R0
  simp
  refine HT.seq ?_
  refine HT.region ?_   -- R1
  simp
  refine HT.seq ?_
  refine HT.seq ?_
  refine HT.region ?_   -- R2
  simp
  refine HT.block ?_
  refine HT.loop (fun k : {k : Nat // k ≤ l.length} => ⟨[.s 1 (i64 a), .s 2 (i64 b), .s 0 (.sl 5 full (docsHV l)), .s 8 (i64 k), .s 7 (.ref 7), .o 7 (.row 3 1 (intsHV (movesV (l.take k) a b)))], 49⟩) (fun k => l.length - k) ⟨0, by omega⟩ (HS.le.trans (HS.le_own (t := 7) 7 3 1 _ (by decide) rfl (by decide)) (HS.le_fits ?_)) ?_
  · simp [movesV]
  rintro ⟨k, hk⟩
  refine HT.seq ?_
  refine HT.seq ?_
  refine HT.region ?_   -- R3
  simp
  refine HT.cond' ?_
  simp
  constructor
  · intro h
    have hk' : k < l.length := by omega
    have hsk := hs _ (List.getElem_mem hk')
    have b1 : ∀ N, 4000000 ≤ N → (movesV (l.take k) a b).length ≤ N := fun N h => by have := movesV_length (l.take k) a b; simp at this; omega
    have b2 : ∀ N, 4000000 ≤ N → (movesV (l.take k) a b).length + 1 ≤ N := fun N h => by have := movesV_length (l.take k) a b; simp at this; omega
    have b3 : ∀ N, 40000000 ≤ N → ((movesV (l.take k) a b).length + 1) * 8 ≤ N := fun N h => by have := movesV_length (l.take k) a b; simp at this; omega
    refine HT.skip ?_
    simp
    refine HT.seq ?_
    refine HT.block ?_
    refine HT.seq ?_
    refine HT.draw [.batch [0, 1, 2, 3, 4, 5, 6, 7, 8, 9, 10, 11, 12, 13, 14, 15, 16, 17, 18, 19, 20, 21, 22, 23, 24]] (by kernel_rfl) ?_   -- R5 calls [12, 12]
    simp [h, hk']
    refine ⟨_, .call1 _ _ _ rfl Ty.hb12 rfl rfl (f12_spec _ _ _ hsk.1 hsk.2 ha), ?_⟩
    simp [h, hk']
    refine ⟨_, .call1 _ _ _ rfl Ty.hb12 rfl rfl (f12_spec _ _ _ hsk.1 hsk.2 hb), ?_⟩
    simp
    refine HT.cond' ?_
    simp
    constructor
    · intro hne
      refine HT.region ?_   -- R6
      simp [b1, b2, b3, h, hk']
      refine HT.region ?_   -- R4
      simp
      refine ⟨k + 1, by omega, by omega, HS.le_fits ?_⟩
      rw [movesV_succ hk', if_neg hne, intsHV_append, intsHV_cons]
      simp
      rw [wrap_i64] <;> omega
    · intro heq
      refine HT.skip ?_
      simp
      refine HT.region ?_   -- R4
      simp
      refine ⟨k + 1, by omega, by omega, HS.le_fits ?_⟩
      rw [movesV_succ hk', if_pos heq]
      simp
      rw [wrap_i64] <;> omega
  · intro h
    obtain rfl : k = l.length := by omega
    refine HT.exit ?_
    simp
    refine HT.seq ?_
    refine HT.region ?_   -- R7
    simp
    refine HT.ret ?_
    simp
theorem f7_spec (full : Bool) (l : List Doc) (a b : Int) (hl : l.length ≤ 1048576) (hs : Short l) : Spec1 Try.prog 7 [.sl 5 full (docsHV l), i64 a, i64 b] (bo true) := by
  refine Spec1.of_HT Try.func7 rfl (by rw [Try.ntmps7]; simp) rfl ?_
  rw [Try.ntmps7]
  refine HT.seq ?_
  refine HT.region ?_   -- R0
  simp
  refine HT.seq ?_
  refine HT.seq ?_
  refine HT.region ?_   -- R1 calls [8]
  simp
  refine ⟨_, .call1 _ _ _ _ rfl Ty.hb8 rfl (f8_spec) rfl rfl, ?_⟩
  simp
  refine HT.cond' ?_
  simp
  refine HT.skip ?_
  simp
  refine HT.seq ?_
  refine HT.region ?_   -- R3 calls [20, 21, 19]
  by_cases h1 : 80 < (l.length : Int)
  · simp [h1]
    refine HT.ret ?_
    simp
  by_cases h2 : 300 < a
  · simp [h1, h2]
    refine HT.ret ?_
    simp
  by_cases h3 : 300 < b
  · simp [h1, h2, h3]
    refine HT.ret ?_
    simp
  simp [h1, h2, h3]
  refine ⟨_, .call1f _ _ _ _ _ rfl Ty.hb20 rfl rfl (f20_spec full l a b hl hs (by omega) (by omega)) rfl, ?_⟩
  simp
  refine ⟨_, .call1f _ _ _ _ _ rfl Ty.hb21 rfl rfl (f21_spec full l a b hl hs (by omega) (by omega)) rfl, ?_⟩
  simp
  refine ⟨_, .call1 _ _ _ _ rfl Ty.hb19 rfl (f19_spec _ _ _ _ (by have := movesV_length l a b; omega)) rfl rfl, ?_⟩
  simp
  refine HT.ret ?_
  simp
end Go.Hv
