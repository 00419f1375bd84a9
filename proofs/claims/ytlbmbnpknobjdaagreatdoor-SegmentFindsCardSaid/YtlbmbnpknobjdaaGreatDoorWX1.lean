import Derived.Test.YtlbmbnpknobjdaaGreatDoorWX0
import Derived.Shelf.Small.Bits
import Derived.Shelf.Small.Wraps
import Derived.Shelf.Utf8.RuneCount
import Derived.Shelf.Strconv.Itoa0
import Derived.Shelf.Strings.Search1
import Derived.Shelf.Strings.Search2
import Derived.Shelf.Strings.Search3
import Derived.Shelf.Strings.Count
import Derived.Shelf.LaysM
import Derived.Shelf.Strings.Shaped
import Derived.Shelf.Sort.Plain
import Derived.Shelf.Strings.Split
import Derived.Shelf.Strings.SplitShaped
import Derived.Shelf.Unicode.Decode
import Derived.Shelf.Strings.RuneCount
import Derived.Shelf.Strings.Explode
import Derived.Shelf.Unicode.DecodeSlow
import Derived.Shelf.Unicode.DecodeAny
import Derived.Shelf.Slices.Turned
import Derived.Shelf.Slices.Equal
import Derived.Ground.Names2Prog
import Derived.Shelf.Slices.Clone
import Derived.Shelf.Slices.CompactI
import Derived.Shelf.Slices.SearchI
import Derived.Shelf.Slices.Cells
import Derived.Shelf.Slices.In.SortNone
import Derived.Shelf.Slices.Empties
import Derived.Shelf.Slices.Empties2
import Derived.Ground.SlgnProg
import Derived.Shelf.SlicesE.Clone
import Derived.Test.YtlbmbnpknobjdaaGreatDoorProg
import Derived.Ground.SlsfProg
import Derived.Shelf.SlSortCmp.WholeK
import Derived.Shelf.SlSortCmp.NoneTotal
import Derived.Lib.ReflectliteSwap
import Derived.Lib.ReflectliteSlice
import Derived.Laws.NewBlocks
import Derived.Scope
import Derived.Control
set_option linter.unusedVariables false
set_option linter.unusedSimpArgs false
namespace Go.Hv
open Go Go.Hv Go.Proofs
open Go.Proofs.YtlbmbnpknobjdaaGreatDoor
theorem ofV_length (s : List UInt8) : (ofV s).length ≤ s.length := by have := ofK_length s (s.length - 2); unfold ofV; omega
theorem refOf_spec (s : List UInt8) (hs : s.length ≤ 900000) : Spec1 Tryz.prog 38 [.str s] (.sl 1 false (intsHV (ofV s))) := by
  refine Spec1.of_HT Tryz.func38 rfl (by rw [Tryz.ntmps38]; simp) rfl ?_
  rw [Tryz.ntmps38]
  refine HT.seq ?_
  refine HT.region ?_   -- R0
  simp (disch := first | omega | (simp <;> omega) | fail) [wrap_i64, wrap_u64, wrap_u8']
  refine HT.seq ?_
  refine HT.region ?_   -- R1
  simp (disch := first | omega | (simp <;> omega) | fail) [wrap_i64, wrap_u64, wrap_u8']
  refine HT.weaken (HS.le_wk 3 (.sl 1 false []) (by decide) rfl rfl (HLe.nilf 0 1 true)) ?_
  refine HT.seq ?_
  refine HT.seq ?_
  refine HT.region ?_   -- R2
  simp (disch := first | omega | (simp <;> omega) | fail) [wrap_i64, wrap_u64, wrap_u8']
  refine HT.block ?_
  refine HT.loopK (fun k : {k : Nat // k ≤ s.length - 2} => [.s 4 (i64 k), .s 3 (.sl 1 false (intsHV (ofK s k)))]) [0] [] (fun k => s.length - k) (⟨0, by omega⟩) ?_ ?_   -- block 0 turned [3, 4]
  · simp (disch := first | omega | (simp <;> omega) | fail) [wrap_i64, wrap_u64, wrap_u8', show ofK s 0 = [] from rfl]
  rintro ⟨k, hk⟩
  simp (disch := first | omega | (simp <;> omega) | fail) [wrap_i64, wrap_u64, wrap_u8']
  refine HT.seq ?_
  refine HT.seq ?_
  refine HT.region ?_   -- R3
  simp (disch := first | omega | (simp <;> omega) | fail) [wrap_i64, wrap_u64, wrap_u8']
  refine HT.cond' ?_   -- if 9
  simp (disch := first | omega | (simp <;> omega) | fail) [wrap_i64, wrap_u64, wrap_u8']
  refine ⟨fun h9 => ?_, fun h9 => ?_⟩
  · skip
    have hk' : k + 2 < s.length := by omega
    have hb := ofK_length s k
    refine HT.skip ?_
    simp (disch := first | omega | (simp <;> omega) | fail) [wrap_i64, wrap_u64, wrap_u8']
    refine HT.seq ?_
    refine HT.block ?_
    refine HT.region ?_   -- R5
    simp (disch := first | omega | (simp <;> omega) | fail) [wrap_i64, wrap_u64, wrap_u8']
    refine stepK.mk (.call1 _ _ _ _ rfl Ty.hb66 rfl (refat_spec s k hk' (by omega)) rfl rfl) ?_
    simp (disch := first | omega | (simp <;> omega) | fail) [wrap_i64, wrap_u64, wrap_u8']
    refine stepK.mk (.call1f _ _ _ _ _ rfl Ty.hb71 rfl rfl (insert_spec (ofK s k) (codeAt s k) (by omega)) rfl) ?_
    simp (disch := first | omega | (simp <;> omega) | fail) [wrap_i64, wrap_u64, wrap_u8']
    refine HT.region ?_   -- R4
    simp (disch := first | omega | (simp <;> omega) | fail) [wrap_i64, wrap_u64, wrap_u8']
    refine Round.mk' (⟨k + 1, by omega⟩) (by dsimp only; omega) rfl ?_
    simp (disch := first | omega | (simp <;> omega) | fail) [wrap_i64, wrap_u64, wrap_u8', ofK_succ]
  · skip
    obtain rfl : k = s.length - 2 := by omega
    refine HT.exit ?_
    simp (disch := first | omega | (simp <;> omega) | fail) [wrap_i64, wrap_u64, wrap_u8']
    refine HT.seq ?_
    refine HT.region ?_   -- R6
    simp (disch := first | omega | (simp <;> omega) | fail) [wrap_i64, wrap_u64, wrap_u8']
    refine HT.ret ?_
    simp (disch := first | omega | (simp <;> omega) | fail) [wrap_i64, wrap_u64, wrap_u8', ofV]
set_option maxHeartbeats 1000000 in
theorem refGrams_spec (s : List UInt8) (hs : s.length ≤ 900000) : Spec1 Tryz.prog 47 [.str s] (.sl 2 false (gramsHV (gramsV s))) := by
  have hol := ofV_length s
  refine Spec1.of_HT Tryz.func47 rfl (by rw [Tryz.ntmps47]; simp) rfl ?_
  rw [Tryz.ntmps47]
  refine HT.seq ?_
  refine HT.region ?_   -- R0
  simp (disch := first | omega | (simp <;> omega) | fail) [wrap_i64, wrap_u64, wrap_u8']
  refine HT.seq ?_
  refine HT.region ?_   -- R1
  simp (disch := first | omega | (simp <;> omega) | fail) [wrap_i64, wrap_u64, wrap_u8']
  refine stepK.mk (.call1f _ _ _ _ _ rfl Ty.hb38 rfl rfl (refOf_spec s hs) rfl) ?_
  simp (disch := first | omega | (simp <;> omega) | fail) [wrap_i64, wrap_u64, wrap_u8']
  refine HT.seq ?_
  refine HT.region ?_   -- R2
  simp (disch := first | omega | (simp <;> omega) | fail) [wrap_i64, wrap_u64, wrap_u8']
  refine HT.weaken (HS.le_own (t := 4) 200 67 2 _ (by decide) rfl (by decide)) ?_
  refine HT.seq ?_
  refine HT.seq ?_
  refine HT.region ?_   -- R3
  simp (disch := first | omega | (simp <;> omega) | fail) [wrap_i64, wrap_u64, wrap_u8']
  refine HT.block ?_
  refine HT.loopK (fun k : {k : Nat // k ≤ (ofV s).length} => [.s 5 (i64 k), .s 4 (.ref 200), .o 200 (.row 67 2 (gramsHV ((gramsV s).take k)))]) [0, 3] [] (fun k => (ofV s).length - k) (⟨0, by omega⟩) ?_ ?_   -- block 0 turned [4, 5]
  · simp (disch := first | omega | (simp <;> omega) | fail) [wrap_i64, wrap_u64, wrap_u8']
  rintro ⟨k, hk⟩
  simp (disch := first | omega | (simp <;> omega) | fail) [wrap_i64, wrap_u64, wrap_u8']
  refine HT.seq ?_
  refine HT.seq ?_
  refine HT.region ?_   -- R4
  simp (disch := first | omega | (simp <;> omega) | fail) [wrap_i64, wrap_u64, wrap_u8']
  refine HT.cond' ?_   -- if 13
  simp (disch := first | omega | (simp <;> omega) | fail) [wrap_i64, wrap_u64, wrap_u8']
  refine ⟨fun h13 => ?_, fun h13 => ?_⟩
  · skip
    have hk' : k < (ofV s).length := by omega
    have hgl : (gramsV s).length = (ofV s).length := by simp [gramsV]
    have hgk : (gramsV s)[k]'(by omega) = ⟨(ofV s)[k], offK s (s.length - 2) (ofV s)[k]⟩ := by simp [gramsV]
    refine HT.skip ?_
    simp (disch := first | omega | (simp <;> omega) | fail) [wrap_i64, wrap_u64, wrap_u8']
    refine HT.seq ?_
    refine HT.block ?_
    refine HT.seq ?_
    refine HT.region ?_   -- R6
    simp (disch := first | omega | (simp <;> omega) | fail) [wrap_i64, wrap_u64, wrap_u8']
    refine HT.seq ?_
    refine HT.seq ?_
    refine HT.region ?_   -- R7
    simp (disch := first | omega | (simp <;> omega) | fail) [wrap_i64, wrap_u64, wrap_u8']
    refine HT.weaken (HS.le_boxown 6 1 201 3 1 0 rfl rfl (by decide) (by decide)) ?_
    refine HT.block ?_
    refine HT.loopK (fun i : {i : Nat // i ≤ s.length - 2} => [.s 7 (i64 i), .o 6 (.box [i64 (ofV s)[k], .ref 201]), .o 201 (.row 3 1 (intsHV (offK s i (ofV s)[k])))]) [0, 3, 4, 5, 6] [200] (fun i => s.length - i) (⟨0, by omega⟩) ?_ ?_   -- block 2 turned [7]
    · simp (disch := first | omega | (simp <;> omega) | fail) [wrap_i64, wrap_u64, wrap_u8', show offK s 0 (ofV s)[k] = [] from rfl]
    rintro ⟨i, hi⟩
    simp (disch := first | omega | (simp <;> omega) | fail) [wrap_i64, wrap_u64, wrap_u8']
    refine HT.seq ?_
    refine HT.seq ?_
    refine HT.region ?_   -- R8
    simp (disch := first | omega | (simp <;> omega) | fail) [wrap_i64, wrap_u64, wrap_u8']
    refine HT.cond' ?_   -- if 25
    simp (disch := first | omega | (simp <;> omega) | fail) [wrap_i64, wrap_u64, wrap_u8']
    refine ⟨fun h25 => ?_, fun h25 => ?_⟩
    · skip
      have hi' : i + 2 < s.length := by omega
      have hb := offK_length s i (ofV s)[k]
      refine HT.skip ?_
      simp (disch := first | omega | (simp <;> omega) | fail) [wrap_i64, wrap_u64, wrap_u8']
      refine HT.seq ?_
      refine HT.block ?_
      refine HT.seq ?_
      refine HT.draw [.batch [0, 1, 2, 3, 4, 5, 6, 7]] (by kernel_rfl) ?_   -- R10
      simp (disch := first | omega | (simp <;> omega) | fail) [wrap_i64, wrap_u64, wrap_u8']
      refine stepK.mk (.call1 _ _ _ rfl Ty.hb66 rfl rfl (refat_spec s i hi' (by omega))) ?_
      simp (disch := first | omega | (simp <;> omega) | fail) [wrap_i64, wrap_u64, wrap_u8']
      refine HT.cond' ?_   -- if 35
      simp (disch := first | omega | (simp <;> omega) | fail) [wrap_i64, wrap_u64, wrap_u8']
      refine ⟨fun h35 => ?_, fun h35 => ?_⟩
      · skip
        refine HT.region ?_   -- R11
        simp (disch := first | omega | (simp <;> omega) | fail) [wrap_i64, wrap_u64, wrap_u8']
        refine HT.region ?_   -- R9
        simp (disch := first | omega | (simp <;> omega) | fail) [wrap_i64, wrap_u64, wrap_u8']
        refine Round.mk' (⟨i + 1, by omega⟩) (by dsimp only; omega) rfl ?_
        simp (disch := first | omega | (simp <;> omega) | fail) [wrap_i64, wrap_u64, wrap_u8', offK_succ, h35]
      · skip
        refine HT.skip ?_
        simp (disch := first | omega | (simp <;> omega) | fail) [wrap_i64, wrap_u64, wrap_u8']
        refine HT.region ?_   -- R9
        simp (disch := first | omega | (simp <;> omega) | fail) [wrap_i64, wrap_u64, wrap_u8']
        refine Round.mk' (⟨i + 1, by omega⟩) (by dsimp only; omega) rfl ?_
        simp (disch := first | omega | (simp <;> omega) | fail) [wrap_i64, wrap_u64, wrap_u8', offK_succ, h35]
    · skip
      obtain rfl : i = s.length - 2 := by omega
      refine HT.exit ?_
      simp (disch := first | omega | (simp <;> omega) | fail) [wrap_i64, wrap_u64, wrap_u8']
      refine HT.region ?_   -- R12
      simp (disch := first | omega | (simp <;> omega) | fail) [wrap_i64, wrap_u64, wrap_u8']
      refine HT.region ?_   -- R5
      simp (disch := first | omega | (simp <;> omega) | fail) [wrap_i64, wrap_u64, wrap_u8']
      refine Round.mk' (⟨k + 1, by omega⟩) (by dsimp only; omega) rfl ?_
      simp (disch := first | omega | (simp <;> omega) | fail) [wrap_i64, wrap_u64, wrap_u8']
      rw [← hgk]
      simp
  · skip
    obtain rfl : k = (ofV s).length := by omega
    have hgl : (gramsV s).length = (ofV s).length := by simp [gramsV]
    refine HT.exit ?_
    simp (disch := first | omega | (simp <;> omega) | fail) [wrap_i64, wrap_u64, wrap_u8']
    refine HT.seq ?_
    refine HT.region ?_   -- R13
    simp (disch := first | omega | (simp <;> omega) | fail) [wrap_i64, wrap_u64, wrap_u8']
    refine HT.ret ?_
    simp (disch := first | omega | (simp <;> omega) | fail) [wrap_i64, wrap_u64, wrap_u8', ← hgl, List.take_length]
end Go.Hv
set_option linter.unusedVariables false
set_option linter.unusedSectionVars false
set_option linter.unusedSimpArgs false
/- Maps whose values are rows of the walk's own: the i-th entry's row has the number B + i. -/
namespace Go.Hv
open Go Go.RowKit
variable [GI]
variable {P : Program} {K : Type}
def kentsF (enc : K → HV) (val : Nat → HV) : Nat → List K → List (HV × HV)
  | _, [] => []
  | i, k :: r => (enc k, val i) :: kentsF enc val (i + 1) r
theorem kentsF_length (enc : K → HV) (val : Nat → HV) : ∀ (ks : List K) (i : Nat), (kentsF enc val i ks).length = ks.length
  | [], _ => rfl
  | _ :: r, i => by simp [kentsF, kentsF_length enc val r]
theorem kentsF_get (enc : K → HV) (val : Nat → HV) : ∀ (ks : List K) (i j : Nat), (kentsF enc val i ks)[j]? = (ks[j]?).map fun k => (enc k, val (i + j))
  | [], _, _ => by simp [kentsF]
  | k :: r, i, 0 => by simp [kentsF]
  | k :: r, i, j + 1 => by
    simp only [kentsF, List.getElem?_cons_succ, kentsF_get enc val r]
    rw [show i + 1 + j = i + (j + 1) by omega]
theorem kentsF_append (enc : K → HV) (val : Nat → HV) (b : List K) : ∀ (a : List K) (i : Nat), kentsF enc val i (a ++ b) = kentsF enc val i a ++ kentsF enc val (i + a.length) b
  | [], i => by simp [kentsF]
  | k :: r, i => by
    simp only [List.cons_append, kentsF, kentsF_append enc val b r, List.length_cons]
    rw [show i + 1 + r.length = i + (r.length + 1) by omega]
def kents (enc : K → HV) (B : Nat) (ks : List K) : List (HV × HV) := kentsF enc (fun i => .ref (B + i)) 0 ks
@[simp] theorem kents_length (enc : K → HV) (B : Nat) (ks : List K) : (kents enc B ks).length = ks.length := kentsF_length ..
theorem kents_get (enc : K → HV) (B : Nat) (ks : List K) (j : Nat) : (kents enc B ks)[j]? = (ks[j]?).map fun k => (enc k, .ref (B + j)) := by
  unfold kents; rw [kentsF_get]; simp
@[simp] theorem kents_nil (enc : K → HV) (B : Nat) : kents enc B [] = [] := rfl
theorem kents_snoc (enc : K → HV) (B : Nat) (ks : List K) (k : K) : kents enc B (ks ++ [k]) = kents enc B ks ++ [(enc k, .ref (B + ks.length))] := by
  unfold kents; rw [kentsF_append]; simp [kentsF]
theorem findHV_of [DecidableEq K] {t : TypeId} {enc : K → HV} (he : ∀ a b, keyEq P t (enc a) (enc b) = some (decide (a = b))) (c : K) : ∀ (es : List (HV × HV)) (ks : List K) (i : Nat), es.map (·.1) = ks.map enc →
    findHV P t (enc c) es i = some (if c ∈ ks then some (i + ks.idxOf c, (es.getD (ks.idxOf c) (.any, .any)).2) else none)
  | [], [], i, _ => by simp [findHV]
  | [], _ :: _, _, h => by simp at h
  | _ :: _, [], _, h => by simp at h
  | p :: es, k :: ks, i, h => by
    simp only [List.map_cons, List.cons.injEq] at h
    obtain ⟨h1, h2⟩ := h
    simp only [findHV, h1, he]
    by_cases e : c = k
    · subst e; simp
    · simp only [e, decide_false]
      rw [findHV_of he c es ks (i + 1) h2]
      have e' : ¬ k = c := fun h => e h.symm
      simp only [List.mem_cons, e, false_or]
      split
      · have e2 : (k == c) = false := by simpa using e'
        rw [List.idxOf_cons, e2]
        simp only [cond_false, List.getD_cons_succ]
        rw [show i + 1 + ks.idxOf c = i + (ks.idxOf c + 1) by omega]
      · rfl
theorem kents_keys (enc : K → HV) (B : Nat) (ks : List K) : (kents enc B ks).map (·.1) = ks.map enc := by
  apply List.ext_getElem?
  intro i
  rw [List.getElem?_map, kents_get, List.getElem?_map]
  cases ks[i]? <;> rfl
theorem find_kents [DecidableEq K] {t : TypeId} {enc : K → HV} (he : ∀ a b, keyEq P t (enc a) (enc b) = some (decide (a = b))) (B : Nat) (c : K) (ks : List K) :
    findHV P t (enc c) (kents enc B ks) 0 = some (if c ∈ ks then some (ks.idxOf c, .ref (B + ks.idxOf c)) else none) := by
  rw [findHV_of he c _ ks 0 (kents_keys enc B ks)]
  split
  · next h =>
    have hlt := List.idxOf_lt_length_iff.2 h
    simp only [Nat.zero_add]
    rw [List.getD_eq_getElem?_getD, kents_get, List.getElem?_eq_getElem hlt]
    rfl
  · rfl
theorem subM_kents {enc : K → HV} {B i : Nat} {ks : List K} (h : i < ks.length) : subM (B + i) .any .any (kents enc B ks) = (kents enc B ks).set i (enc ks[i], .any) := by
  apply List.ext_getElem?
  intro j
  unfold subM
  rw [List.getElem?_map, List.getElem?_set, kents_get]
  by_cases e : i = j
  · subst e
    rw [if_pos rfl, if_pos (by simpa using h), List.getElem?_eq_getElem h]
    simp [HV.sub]
  · rw [if_neg e]
    cases ks[j]? with
    | none => rfl
    | some k =>
      have : ¬ B + j = B + i := by omega
      have : ¬ j = i := by omega
      simp [HV.sub, this]
theorem subM_kents_out {enc : K → HV} {B id : Nat} {ks : List K} {x y : HV} (h : id < B ∨ B + ks.length ≤ id) : subM id x y (kents enc B ks) = kents enc B ks := by
  apply List.ext_getElem?
  intro j
  unfold subM
  rw [List.getElem?_map, kents_get]
  cases hk : ks[j]? with
  | none => rfl
  | some k =>
    have hj := getElem?_lt hk
    have : ¬ B + j = id := by omega
    simp [HV.sub, this]
theorem find_kents_set [DecidableEq K] {t : TypeId} {enc : K → HV} (he : ∀ a b, keyEq P t (enc a) (enc b) = some (decide (a = b))) (B : Nat) (ks : List K) {c : K} (h : c ∈ ks) (x : HV) :
    findHV P t (enc c) ((kents enc B ks).set (ks.idxOf c) (enc c, x)) 0 = some (some (ks.idxOf c, x)) := by
  have hlt := List.idxOf_lt_length_iff.2 h
  have hk : ((kents enc B ks).set (ks.idxOf c) (enc c, x)).map (·.1) = ks.map enc := by
    rw [List.map_set, kents_keys]
    apply List.ext_getElem?
    intro i
    rw [List.getElem?_set]
    split
    · next e => subst e; rw [if_pos (by simpa using hlt), List.getElem?_map, List.getElem?_eq_getElem hlt]; simp
    · rfl
  rw [findHV_of he c _ ks 0 hk, if_pos h]
  simp only [Nat.zero_add]
  rw [List.getD_eq_getElem?_getD, List.getElem?_set_self (by simpa using hlt)]
  rfl
theorem kents_back [DecidableEq K] {enc : K → HV} (B : Nat) {ks : List K} {c : K} (h : c ∈ ks) : (kents enc B ks).set (ks.idxOf c) (enc c, .ref (B + ks.idxOf c)) = kents enc B ks := by
  have hlt := List.idxOf_lt_length_iff.2 h
  apply List.ext_getElem?
  intro i
  rw [List.getElem?_set]
  split
  · next e => subst e; rw [if_pos (by simpa using hlt), kents_get, List.getElem?_eq_getElem hlt]; simp
  · rfl
theorem kents_set_get [DecidableEq K] {enc : K → HV} (B : Nat) {ks : List K} {c : K} (h : c ∈ ks) (x : HV) : ((kents enc B ks).set (ks.idxOf c) (enc c, x))[ks.idxOf c]? = some (enc c, x) := by
  have hlt := List.idxOf_lt_length_iff.2 h
  rw [List.getElem?_set_self (by simpa using hlt)]
theorem subM_kents_at [DecidableEq K] {enc : K → HV} {B : Nat} {ks : List K} {c : K} (h : c ∈ ks) : subM (B + ks.idxOf c) .any .any (kents enc B ks) = (kents enc B ks).set (ks.idxOf c) (enc c, .any) := by
  have hlt := List.idxOf_lt_length_iff.2 h
  rw [subM_kents hlt, List.getElem_idxOf hlt]
def fents (enc : K → HV) (g : K → HV) (ks : List K) : List (HV × HV) := ks.map fun k => (enc k, g k)
@[simp] theorem fents_length (enc g : K → HV) (ks : List K) : (fents enc g ks).length = ks.length := by simp [fents]
theorem fents_get (enc g : K → HV) (ks : List K) (j : Nat) : (fents enc g ks)[j]? = (ks[j]?).map fun k => (enc k, g k) := by simp [fents]
theorem HS.le_frzK {L : List Ev} {n m sz : Nat} (B : Nat) (enc : K → HV) (e : TypeId) (rows : K → List (List HV)) (ks : List K) (hm : m < B) (ho : getO L m = .map (kents enc B ks)) (hI : ∀ k, isILL (rows k) = true)
    (hr : ∀ i k, ks[i]? = some k → getO L (B + i) = .row e sz (rows k)) :
    HS.le ⟨L, n⟩ ⟨.o m (.map (fents enc (fun k => .sl sz false (rows k)) ks)) :: .os (fam B ks.length fun _ => .gone) :: L, n⟩ := by
  refine HS.le_frzG B (fun i => (sz, match ks[i]? with | some k => rows k | none => [])) _ (.inl hm) (fun i hi => ?_) ?_
  · have hk := List.getElem?_eq_getElem hi
    exact ⟨e, by simp only [hk]; exact hr i _ hk, by simp only [hk]; exact hI _⟩
  · rw [ho]
    refine ⟨by simp, fun i p p' hp hp' => ?_⟩
    rw [kents_get] at hp
    rw [fents_get] at hp'
    cases hk : ks[i]? with
    | none => rw [hk] at hp; simp at hp
    | some k =>
      rw [hk] at hp hp'
      simp only [Option.map_some, Option.some.injEq] at hp hp'
      subst hp; subst hp'
      exact ⟨rfl, .inr ⟨i, getElem?_lt hk, rfl, by simp only [hk]⟩⟩
end Go.Hv
set_option linter.unusedVariables false
set_option linter.unusedSimpArgs false
namespace Go.Hv
open Go Go.Hv Go.Proofs
open Go.Proofs.YtlbmbnpknobjdaaGreatDoor
def eI (n : Int) : HV := .lit (.int .i64 n)
theorem eI_eq (a b : Int) : keyEq Tryz.prog 3 (eI a) (eI b) = some (decide (a = b)) := by simp [eI, keyEq]
def addK (l : List Int) (c : Int) : List Int := if c ∈ l then l else l ++ [c]
def fstK (s : List UInt8) (k : Nat) : List Int := ((List.range k).map (codeAt s)).foldl addK []
theorem fstK_succ (s : List UInt8) (k : Nat) : fstK s (k + 1) = addK (fstK s k) (codeAt s k) := by
  unfold fstK; rw [List.range_succ, List.map_append, List.foldl_append]; rfl
theorem fstK_mem (s : List UInt8) (k : Nat) (c : Int) : c ∈ fstK s k ↔ ∃ i, i < k ∧ codeAt s i = c := by
  induction k with
  | zero => simp [fstK]
  | succ k ih =>
    rw [fstK_succ]
    have : c ∈ addK (fstK s k) (codeAt s k) ↔ c ∈ fstK s k ∨ c = codeAt s k := by
      unfold addK
      split
      · next h => constructor
                  · exact .inl
                  · rintro (h' | rfl); exact h'; exact h
      · simp
    rw [this, ih]
    constructor
    · rintro (⟨i, h1, h2⟩ | rfl)
      · exact ⟨i, by omega, h2⟩
      · exact ⟨k, by omega, rfl⟩
    · rintro ⟨i, h1, h2⟩
      by_cases e : i = k
      · subst e; exact .inr h2.symm
      · exact .inl ⟨i, by omega, h2⟩
theorem fstK_nodup (s : List UInt8) (k : Nat) : (fstK s k).Nodup := by
  induction k with
  | zero => simp [fstK]
  | succ k ih =>
    rw [fstK_succ]
    unfold addK
    split
    · exact ih
    · next h => rw [List.nodup_append]; exact ⟨ih, by simp, fun a ha b hb => by simp at hb; subst hb; rintro rfl; exact h ha⟩
theorem fstK_length (s : List UInt8) (k : Nat) : (fstK s k).length ≤ k := by
  induction k with
  | zero => simp [fstK]
  | succ k ih =>
    rw [fstK_succ]
    unfold addK
    split
    · omega
    · simp; omega
theorem fam_at {B m i : Nat} {g : Nat → HObj} (h : i < m) : fam B m g (B + i) = some (g i) := by
  unfold fam; rw [if_pos (by omega), Nat.add_sub_cancel_left]
theorem fam_not {B m i : Nat} {g : Nat → HObj} (h : i < B ∨ B + m ≤ i) : fam B m g i = none := by
  unfold fam; rw [if_neg (by omega)]
theorem fam_some {B m id : Nat} {g : Nat → HObj} {o : HObj} (h : fam B m g id = some o) : ∃ i, i < m ∧ id = B + i ∧ o = g i := by
  unfold fam at h
  split at h
  · next hc => exact ⟨id - B, by omega, by omega, (Option.some.inj h).symm⟩
  · cases h
def rowK (s : List UInt8) (k i : Nat) : HObj := .row 3 1 (intsHV (offK s k ((fstK s k).getD i 0)))
theorem fstK_succ_get (s : List UInt8) {k i : Nat} (hi : i < (fstK s k).length) : (fstK s (k + 1))[i]? = (fstK s k)[i]? := by
  rw [fstK_succ]; unfold addK
  split
  · rfl
  · rw [List.getElem?_append_left hi]
theorem rowK_same {s : List UInt8} {k i : Nat} (hi : i < (fstK s k).length) (hne : (fstK s k)[i]? ≠ some (codeAt s k)) : rowK s (k + 1) i = rowK s k i := by
  unfold rowK
  rw [List.getD_eq_getElem?_getD, List.getD_eq_getElem?_getD, fstK_succ_get s hi, List.getElem?_eq_getElem hi, offK_succ, if_neg, List.append_nil]
  rw [List.getElem?_eq_getElem hi] at hne
  intro h
  exact hne (by rw [h]; rfl)
theorem rowK_hit {s : List UInt8} {k i : Nat} (he : (fstK s (k + 1))[i]? = some (codeAt s k)) : rowK s (k + 1) i = .row 3 1 (intsHV (offK s k (codeAt s k) ++ [(k : Int)])) := by
  unfold rowK
  rw [List.getD_eq_getElem?_getD, he, offK_succ]
  simp
theorem offK_none {s : List UInt8} {k : Nat} {c : Int} (h : c ∉ fstK s k) : offK s k c = [] := by
  unfold offK
  rw [List.filter_eq_nil_iff.2 (fun i hi => by
    intro h2
    exact h ((fstK_mem s k c).2 ⟨i, by simpa using hi, by simpa using h2⟩))]
  rfl
theorem isIM_fents {K : Type} (enc g : K → HV) (ks : List K) (h : ∀ k, isI (g k) = true) : isIM (fents enc g ks) = true := by
  unfold isIM fents
  simp [h]
theorem isIM_occ (s : List UInt8) (n : Nat) (ks : List Int) : isIM (fents eI (fun k => HV.sl 1 false (intsHV (offK s n k))) ks) = true := isIM_fents _ _ _ (fun _ => rfl)
def occV (s : List UInt8) : List (HV × HV) := fents eI (fun c => .sl 1 false (intsHV (offK s (s.length - 2) c))) (fstK s (s.length - 2))
set_option maxHeartbeats 1000000 in
theorem occ_spec (s : List UInt8) (hs : s.length ≤ 900000) : Spec1 Tryz.prog 74 [.str s] (.mp (occV s)) := by
  refine Spec1.of_HT Tryz.func74 rfl (by rw [Tryz.ntmps74]; simp) rfl ?_
  rw [Tryz.ntmps74]
  refine HT.seq ?_
  refine HT.region ?_   -- R0
  simp (disch := first | omega | (simp <;> omega) | fail) [wrap_i64, wrap_u64, wrap_u8']
  refine HT.seq ?_
  refine HT.region ?_   -- R1
  simp (disch := first | omega | (simp <;> omega) | fail) [wrap_i64, wrap_u64, wrap_u8']
  refine stepK.mk (.call1 _ _ _ _ rfl Ty.hb67 rfl (Fold_spec s (by omega)) rfl rfl) ?_
  simp (disch := first | omega | (simp <;> omega) | fail) [wrap_i64, wrap_u64, wrap_u8']
  refine HT.seq ?_
  refine HT.region ?_   -- R2
  simp (disch := first | omega | (simp <;> omega) | fail) [wrap_i64, wrap_u64, wrap_u8']
  refine HT.seq ?_
  refine HT.seq ?_
  refine HT.region ?_   -- R3
  simp (disch := first | omega | (simp <;> omega) | fail) [wrap_i64, wrap_u64, wrap_u8']
  refine HT.block ?_
  refine HT.loopK (fun k : {k : Nat // k ≤ s.length - 2} => [.s 5 (i64 k), .o 9 (.map (kents eI 1000 (fstK s k))), .os (fam 1000 (fstK s k).length (rowK s k))]) [3, 4] [] (fun k => s.length - k) (⟨0, by omega⟩) ?_ ?_   -- block 0 turned [5]
  · skip
    simp [show fstK s 0 = [] from rfl]
    intro id o h
    obtain ⟨i, hi, _⟩ := fam_some h
    omega
  rintro ⟨k, hk⟩
  simp (disch := first | omega | (simp <;> omega) | fail) [wrap_i64, wrap_u64, wrap_u8']
  refine HT.seq ?_
  refine HT.seq ?_
  refine HT.region ?_   -- R4
  simp (disch := first | omega | (simp <;> omega) | fail) [wrap_i64, wrap_u64, wrap_u8']
  refine HT.cond' ?_   -- if 14
  simp (disch := first | omega | (simp <;> omega) | fail) [wrap_i64, wrap_u64, wrap_u8']
  refine ⟨fun h14 => ?_, fun h14 => ?_⟩
  · skip
    have hk' : k + 2 < s.length := by omega
    have hlen := fstK_length s k
    have hcode := codeAt_foldS hk'
    refine HT.skip ?_
    simp (disch := first | omega | (simp <;> omega) | fail) [wrap_i64, wrap_u64, wrap_u8']
    refine HT.seq ?_
    refine HT.block ?_
    refine HT.seq ?_
    refine HT.region ?_   -- R6
    simp (disch := first | omega | (simp <;> omega) | fail) [wrap_i64, wrap_u64, wrap_u8']
    refine stepK.mk (.call1 _ _ _ _ rfl Ty.hb110 rfl (code_spec (foldS s) k (by simp; omega) (by simp; omega)) rfl rfl) ?_
    simp (disch := first | omega | (simp <;> omega) | fail) [wrap_i64, wrap_u64, wrap_u8', ← hcode]
    by_cases cf : codeAt s k ∈ fstK s k
    · skip
      have hlt := List.idxOf_lt_length_iff.2 cf
      have hb := offK_length s k (codeAt s k)
      have hgd : rowK s k ((fstK s k).idxOf (codeAt s k)) = .row 3 1 (intsHV (offK s k (codeAt s k))) := by
        unfold rowK; rw [List.getD_eq_getElem?_getD, List.getElem?_eq_getElem hlt, List.getElem_idxOf hlt]; rfl
      generalize hidx : (fstK s k).idxOf (codeAt s k) = q at *
      have hf1 : findHV Tryz.prog 3 (.lit (.int .i64 (codeAt s k))) (kents eI 1000 (fstK s k)) 0 = some (some (q, .ref (1000 + q))) := by
        have := find_kents (P := Tryz.prog) eI_eq 1000 (codeAt s k) (fstK s k); rw [if_pos cf, hidx] at this; exact this
      have hs1 : subM (1000 + q) .any .any (kents eI 1000 (fstK s k)) = (kents eI 1000 (fstK s k)).set q (.lit (.int .i64 (codeAt s k)), .any) := by rw [← hidx]; exact subM_kents_at cf
      have hf2 : findHV Tryz.prog 3 (.lit (.int .i64 (codeAt s k))) ((kents eI 1000 (fstK s k)).set q (.lit (.int .i64 (codeAt s k)), .any)) 0 = some (some (q, .any)) := by rw [← hidx]; exact find_kents_set eI_eq 1000 (fstK s k) cf .any
      have hg1 : ((kents eI 1000 (fstK s k)).set q (.lit (.int .i64 (codeAt s k)), .any))[q]? = some (.lit (.int .i64 (codeAt s k)), .any) := by rw [← hidx]; exact kents_set_get (enc := eI) 1000 cf .any
      have hb1 : (kents eI 1000 (fstK s k)).set q (.lit (.int .i64 (codeAt s k)), .ref (1000 + q)) = kents eI 1000 (fstK s k) := by rw [← hidx]; exact kents_back (enc := eI) 1000 cf
      refine HT.region ?_   -- R7
      simp (disch := first | omega | (simp <;> omega) | fail) [wrap_i64, wrap_u64, wrap_u8', hf1, hs1, hf2, hg1, hb1, hgd, fam_at hlt]
      refine HT.region ?_   -- R5
      simp (disch := first | omega | (simp <;> omega) | fail) [wrap_i64, wrap_u64, wrap_u8']
      refine Round.mk' (⟨k + 1, by omega⟩) (by dsimp only; omega) rfl ?_
      simp (disch := first | omega | (simp <;> omega) | fail) [wrap_i64, wrap_u64, wrap_u8']
      first
      | (have e1 : fstK s (k + 1) = fstK s k := by rw [fstK_succ, addK, if_pos cf]
         have e2 : (fstK s (k + 1))[q]? = some (codeAt s k) := by rw [e1, ← hidx, List.getElem?_eq_getElem (by rw [hidx]; exact hlt), List.getElem_idxOf]
         refine ⟨by rw [e1], fun id o h => ?_⟩
         rw [e1] at h
         obtain ⟨i, hi, rfl, rfl⟩ := fam_some h
         rw [if_neg (by omega)]
         by_cases e : q = i
         · subst e; rw [if_pos rfl, rowK_hit e2]
         · have hne : (fstK s k)[i]? ≠ some (codeAt s k) := fun h' => e (by
             rw [← hidx]
             have hi2 := List.getElem?_eq_getElem hi
             rw [hi2] at h'
             have := (fstK_nodup s k).idxOf_getElem i hi
             rw [Option.some.inj h'] at this
             exact this)
           rw [if_neg (by omega), fam_at hi, rowK_same hi hne]
           simp [rowK])
      | (have e1 : fstK s (k + 1) = fstK s k ++ [codeAt s k] := by rw [fstK_succ, addK, if_neg cf]
         have hs2 : subM (1000 + (fstK s k).length) .any .any (kents eI 1000 (fstK s k)) = kents eI 1000 (fstK s k) := subM_kents_out (.inr (Nat.le_refl _))
         have hs3 : subM 27 (.ref (1000 + (fstK s k).length)) (.mref (1000 + (fstK s k).length)) (kents eI 1000 (fstK s k)) = kents eI 1000 (fstK s k) := subM_kents_out (.inl (by decide))
         refine ⟨?_, fun id o h => ?_⟩
         · rw [e1, kents_snoc]
           have ha : ∀ (a b : List (HV × HV)) i x y, subM i x y (a ++ b) = subM i x y a ++ subM i x y b := fun a b i x y => by simp [subM]
           rw [ha, ha, hs2, hs3]
           simp [subM, eI, show ¬ 27 = 1000 + (fstK s k).length by omega]
         · obtain ⟨i, hi, rfl, rfl⟩ := fam_some h
           rw [e1, List.length_append, List.length_singleton] at hi
           by_cases e : (fstK s k).length = i
           · subst e
             rw [if_pos rfl, rowK_hit (by rw [e1, List.getElem?_append_right (Nat.le_refl _), Nat.sub_self]; rfl), offK_none cf]
             rfl
           · have hi' : i < (fstK s k).length := by omega
             have hne : (fstK s k)[i]? ≠ some (codeAt s k) := fun h' => cf (List.mem_of_getElem? h')
             rw [rowK_same hi' hne]
             simp (disch := first | omega | (simp; done) | fail) [show ¬ (fstK s k).length = i from e, fam_at hi', rowK])
    have hf1 : findHV Tryz.prog 3 (.lit (.int .i64 (codeAt s k))) (kents eI 1000 (fstK s k)) 0 = some none := by
      have := find_kents (P := Tryz.prog) eI_eq 1000 (codeAt s k) (fstK s k); rw [if_neg cf] at this; exact this
    have hs1 : subM 27 .any .any (kents eI 1000 (fstK s k)) = kents eI 1000 (fstK s k) := subM_kents_out (.inl (by decide))
    refine HT.region ?_   -- R7
    simp (disch := first | omega | (simp <;> omega) | fail) [wrap_i64, wrap_u64, wrap_u8', hf1, hs1]
    refine HT.weaken (HS.le_ren 27 (1000 + (fstK s k).length) rfl ?_) ?_
    · simp (disch := first | omega | (simp <;> omega) | fail) [wrap_i64, wrap_u64, wrap_u8', fam_not]
    simp only [HObj.sub]
    refine HT.region ?_   -- R5
    simp (disch := first | omega | (simp <;> omega) | fail) [wrap_i64, wrap_u64, wrap_u8']
    refine Round.mk' (⟨k + 1, by omega⟩) (by dsimp only; omega) rfl ?_
    simp (disch := first | omega | (simp <;> omega) | fail) [wrap_i64, wrap_u64, wrap_u8']
    first
    | (have e1 : fstK s (k + 1) = fstK s k := by rw [fstK_succ, addK, if_pos cf]
       have e2 : (fstK s (k + 1))[q]? = some (codeAt s k) := by rw [e1, ← hidx, List.getElem?_eq_getElem (by rw [hidx]; exact hlt), List.getElem_idxOf]
       refine ⟨by rw [e1], fun id o h => ?_⟩
       rw [e1] at h
       obtain ⟨i, hi, rfl, rfl⟩ := fam_some h
       rw [if_neg (by omega)]
       by_cases e : q = i
       · subst e; rw [if_pos rfl, rowK_hit e2]
       · have hne : (fstK s k)[i]? ≠ some (codeAt s k) := fun h' => e (by
           rw [← hidx]
           have hi2 := List.getElem?_eq_getElem hi
           rw [hi2] at h'
           have := (fstK_nodup s k).idxOf_getElem i hi
           rw [Option.some.inj h'] at this
           exact this)
         rw [if_neg (by omega), fam_at hi, rowK_same hi hne]
         simp [rowK])
    | (have e1 : fstK s (k + 1) = fstK s k ++ [codeAt s k] := by rw [fstK_succ, addK, if_neg cf]
       have hs2 : subM (1000 + (fstK s k).length) .any .any (kents eI 1000 (fstK s k)) = kents eI 1000 (fstK s k) := subM_kents_out (.inr (Nat.le_refl _))
       have hs3 : subM 27 (.ref (1000 + (fstK s k).length)) (.mref (1000 + (fstK s k).length)) (kents eI 1000 (fstK s k)) = kents eI 1000 (fstK s k) := subM_kents_out (.inl (by decide))
       refine ⟨?_, fun id o h => ?_⟩
       · rw [e1, kents_snoc]
         have ha : ∀ (a b : List (HV × HV)) i x y, subM i x y (a ++ b) = subM i x y a ++ subM i x y b := fun a b i x y => by simp [subM]
         rw [ha, ha, hs2, hs3]
         simp [subM, eI, show ¬ 27 = 1000 + (fstK s k).length by omega]
       · obtain ⟨i, hi, rfl, rfl⟩ := fam_some h
         rw [e1, List.length_append, List.length_singleton] at hi
         by_cases e : (fstK s k).length = i
         · subst e
           rw [if_pos rfl, rowK_hit (by rw [e1, List.getElem?_append_right (Nat.le_refl _), Nat.sub_self]; rfl), offK_none cf]
           rfl
         · have hi' : i < (fstK s k).length := by omega
           have hne : (fstK s k)[i]? ≠ some (codeAt s k) := fun h' => cf (List.mem_of_getElem? h')
           rw [rowK_same hi' hne]
           simp (disch := first | omega | (simp; done) | fail) [show ¬ (fstK s k).length = i from e, fam_at hi', rowK])
  · skip
    obtain rfl : k = s.length - 2 := by omega
    refine HT.exit ?_
    simp (disch := first | omega | (simp <;> omega) | fail) [wrap_i64, wrap_u64, wrap_u8']
    refine HT.weaken (HS.le_frzK (m := 9) (sz := 1) 1000 eI 3 (fun c => intsHV (offK s (s.length - 2) c)) (fstK s (s.length - 2)) (by decide) ?_ (fun _ => by simp) ?_) ?_
    · simp (disch := first | omega | (simp <;> omega) | fail) [wrap_i64, wrap_u64, wrap_u8']
    · intro i c hc
      have hi := getElem?_lt hc
      obtain rfl : (fstK s (s.length - 2))[i] = c := by rw [List.getElem?_eq_getElem hi] at hc; exact Option.some.inj hc
      simp (disch := first | omega | (simp <;> omega) | fail) [wrap_i64, wrap_u64, wrap_u8', fam_at hi, rowK]
    refine HT.seq ?_
    refine HT.region ?_   -- R8
    simp (disch := first | omega | (simp <;> omega) | fail) [wrap_i64, wrap_u64, wrap_u8']
    refine HT.ret ?_
    simp (disch := first | omega | (simp <;> omega) | fail) [wrap_i64, wrap_u64, wrap_u8', isIM_occ, occV]
end Go.Hv
/- The kit's contracts of library functions, laid at this program by the kit's own tool (plain words). -/
namespace Go.Proofs
open Go.Shelf
def Tryz.lays144_ren : Go.Shelf.Ren := ⟨fun | 144 => 130 | 143 => 157 | 219 => 166 | 217 => 171 | 225 => 172 | 224 => 173 | 267 => 174 | 266 => 178 | 314 => 179 | n => n, fun | 9 => 9 | 4 => 4 | 3 => 3 | 5 => 5 | 46 => 102 | 146 => 172 | 51 => 130 | n => n, fun | 1 => 0 | n => n⟩
theorem Tryz.lays144 : Go.Proofs.Lays.n144 Tryz.prog Tryz.lays144_ren := {
  mixed := by kernel_rfl
  f143 := Tryz.func157.trans (congrArg some (by kernel_rfl))
  f144 := Tryz.func130.trans (congrArg some (by kernel_rfl))
  f217 := Tryz.func171.trans (congrArg some (by kernel_rfl))
  f219 := Tryz.func166.trans (congrArg some (by kernel_rfl))
  f224 := Tryz.func173.trans (congrArg some (by kernel_rfl))
  f225 := Tryz.func172.trans (congrArg some (by kernel_rfl))
  f266 := Tryz.func178.trans (congrArg some (by kernel_rfl))
  f267 := Tryz.func174.trans (congrArg some (by kernel_rfl))
  f314 := Tryz.func179.trans (congrArg some (by kernel_rfl))
  t3 := Tryz.underlying3
  a3 := Tryz.isAgg3
  z3 := Tryz.sizeOf3
  v3 := Tryz.zeroValue3
  t4 := Tryz.underlying4
  a4 := Tryz.isAgg4
  z4 := Tryz.sizeOf4
  v4 := Tryz.zeroValue4
  t5 := Tryz.underlying5
  a5 := Tryz.isAgg5
  z5 := Tryz.sizeOf5
  v5 := Tryz.zeroValue5
  t9 := Tryz.underlying9
  a9 := Tryz.isAgg9
  z9 := Tryz.sizeOf9
  v9 := Tryz.zeroValue9
  t46 := Tryz.underlying102
  a46 := Tryz.isAgg102
  z46 := Tryz.sizeOf102
  v46 := Tryz.zeroValue102
  t51 := Tryz.underlying130
  a51 := Tryz.isAgg130
  z51 := Tryz.sizeOf130
  v51 := Tryz.zeroValue130
  t146 := Tryz.underlying172
  a146 := Tryz.isAgg172
  z146 := Tryz.sizeOf172
  v146 := Tryz.zeroValue172
  g1 := by kernel_rfl }
open Go.RowKit Go.Lib in
theorem Tryz.strings_Contains_one (s : ByteArray) (c : UInt8) (w : World) :
    Calls Tryz.prog 130 #[.string s, .string ⟨#[c]⟩] w fun e w' => e = .returned (.bool (decide (0 ≤ Lib.indexByte s.data.toList c))) ∧ w' = w := Any.strings_Contains_one Tryz.lays144 s c w
def Tryz.lays189_ren : Go.Shelf.Ren := ⟨fun | 189 => 92 | 125 => 78 | 257 => 125 | 128 => 120 | 129 => 121 | 294 => 148 | 295 => 149 | 296 => 150 | 297 => 151 | 298 => 152 | 299 => 153 | 216 => 126 | 300 => 154 | 301 => 155 | 328 => 163 | 329 => 142 | 330 => 143 | 331 => 164 | 332 => 165 | 215 => 156 | 343 => 170 | n => n, fun | 28 => 36 | 3 => 3 | 46 => 102 | 0 => 0 | 51 => 130 | 53 => 132 | 4 => 4 | 183 => 124 | 182 => 123 | 131 => 53 | 5 => 5 | 9 => 9 | 218 => 144 | 222 => 148 | 228 => 159 | 229 => 160 | n => n, fun | n => n⟩
theorem Tryz.lays189 : Go.Proofs.Lays.n189 Tryz.prog Tryz.lays189_ren := {
  mixed := by kernel_rfl
  f125 := Tryz.func78.trans (congrArg some (by kernel_rfl))
  f128 := Tryz.func120.trans (congrArg some (by kernel_rfl))
  f129 := Tryz.func121.trans (congrArg some (by kernel_rfl))
  f189 := Tryz.func92.trans (congrArg some (by kernel_rfl))
  f215 := Tryz.func156.trans (congrArg some (by kernel_rfl))
  f216 := Tryz.func126.trans (congrArg some (by kernel_rfl))
  f257 := Tryz.func125.trans (congrArg some (by kernel_rfl))
  f294 := Tryz.func148.trans (congrArg some (by kernel_rfl))
  f295 := Tryz.func149.trans (congrArg some (by kernel_rfl))
  f296 := Tryz.func150.trans (congrArg some (by kernel_rfl))
  f297 := Tryz.func151.trans (congrArg some (by kernel_rfl))
  f298 := Tryz.func152.trans (congrArg some (by kernel_rfl))
  f299 := Tryz.func153.trans (congrArg some (by kernel_rfl))
  f300 := Tryz.func154.trans (congrArg some (by kernel_rfl))
  f301 := Tryz.func155.trans (congrArg some (by kernel_rfl))
  f328 := Tryz.func163.trans (congrArg some (by kernel_rfl))
  f329 := Tryz.func142.trans (congrArg some (by kernel_rfl))
  f330 := Tryz.func143.trans (congrArg some (by kernel_rfl))
  f331 := Tryz.func164.trans (congrArg some (by kernel_rfl))
  f332 := Tryz.func165.trans (congrArg some (by kernel_rfl))
  f343 := Tryz.func170.trans (congrArg some (by kernel_rfl))
  t0 := Tryz.underlying0
  a0 := Tryz.isAgg0
  z0 := Tryz.sizeOf0
  v0 := Tryz.zeroValue0
  t3 := Tryz.underlying3
  a3 := Tryz.isAgg3
  z3 := Tryz.sizeOf3
  v3 := Tryz.zeroValue3
  t4 := Tryz.underlying4
  a4 := Tryz.isAgg4
  z4 := Tryz.sizeOf4
  v4 := Tryz.zeroValue4
  t5 := Tryz.underlying5
  a5 := Tryz.isAgg5
  z5 := Tryz.sizeOf5
  v5 := Tryz.zeroValue5
  t9 := Tryz.underlying9
  a9 := Tryz.isAgg9
  z9 := Tryz.sizeOf9
  v9 := Tryz.zeroValue9
  t28 := Tryz.underlying36
  a28 := Tryz.isAgg36
  z28 := Tryz.sizeOf36
  v28 := Tryz.zeroValue36
  t46 := Tryz.underlying102
  a46 := Tryz.isAgg102
  z46 := Tryz.sizeOf102
  v46 := Tryz.zeroValue102
  t51 := Tryz.underlying130
  a51 := Tryz.isAgg130
  z51 := Tryz.sizeOf130
  v51 := Tryz.zeroValue130
  t53 := Tryz.underlying132
  a53 := Tryz.isAgg132
  z53 := Tryz.sizeOf132
  v53 := Tryz.zeroValue132
  t131 := Tryz.underlying53
  a131 := Tryz.isAgg53
  z131 := Tryz.sizeOf53
  v131 := Tryz.zeroValue53
  t182 := Tryz.underlying123
  a182 := Tryz.isAgg123
  z182 := Tryz.sizeOf123
  v182 := Tryz.zeroValue123
  t183 := Tryz.underlying124
  a183 := Tryz.isAgg124
  z183 := Tryz.sizeOf124
  v183 := Tryz.zeroValue124
  t218 := Tryz.underlying144
  a218 := Tryz.isAgg144
  z218 := Tryz.sizeOf144
  v218 := Tryz.zeroValue144
  t222 := Tryz.underlying148
  a222 := Tryz.isAgg148
  z222 := Tryz.sizeOf148
  v222 := Tryz.zeroValue148
  t228 := Tryz.underlying159
  a228 := Tryz.isAgg159
  z228 := Tryz.sizeOf159
  v228 := Tryz.zeroValue159
  t229 := Tryz.underlying160
  a229 := Tryz.isAgg160
  z229 := Tryz.sizeOf160
  v229 := Tryz.zeroValue160 }
open Go.Sort Go.RowKit in
theorem Tryz.slices_Sort_int (blk off cap : Nat) (zs : List Int) (w : World) (hH : Holds (Value.int .i64) w blk off zs.toArray) (hblk : blk < w.heap.size) (hsz : zs.length < 4611686018427387904) :
    Calls Tryz.prog 92 #[.slice (some ⟨blk, off, none⟩) zs.length cap] w fun e w' =>
      e = .returned (.tuple #[]) ∧ ∃ n os, w' = grow (putRow (Value.int .i64) (Sort.ahead w n) blk off (zs.mergeSort fun x y => decide (x ≤ y)).toArray) os := Any.slices_Sort_int Tryz.lays189 blk off cap zs w hH hblk hsz
def Tryz.lays146_ren : Go.Shelf.Ren := ⟨fun | 146 => 131 | 221 => 158 | 268 => 167 | 138 => 168 | 143 => 157 | 195 => 175 | 197 => 176 | 218 => 177 | 219 => 166 | 260 => 180 | 217 => 171 | 225 => 172 | 224 => 173 | 267 => 174 | 266 => 178 | 314 => 179 | n => n, fun | 9 => 9 | 31 => 50 | 3 => 3 | 4 => 4 | 0 => 0 | 105 => 170 | 21 => 21 | 5 => 5 | 46 => 102 | 119 => 174 | 139 => 177 | 138 => 176 | 146 => 172 | 51 => 130 | n => n, fun | 1 => 0 | 3 => 1 | 4 => 2 | n => n⟩
theorem Tryz.lays146 : Go.Proofs.Lays.n146 Tryz.prog Tryz.lays146_ren := {
  mixed := by kernel_rfl
  f138 := Tryz.func168.trans (congrArg some (by kernel_rfl))
  f143 := Tryz.func157.trans (congrArg some (by kernel_rfl))
  f146 := Tryz.func131.trans (congrArg some (by kernel_rfl))
  f195 := Tryz.func175.trans (congrArg some (by kernel_rfl))
  f197 := Tryz.func176.trans (congrArg some (by kernel_rfl))
  f217 := Tryz.func171.trans (congrArg some (by kernel_rfl))
  f218 := Tryz.func177.trans (congrArg some (by kernel_rfl))
  f219 := Tryz.func166.trans (congrArg some (by kernel_rfl))
  f221 := Tryz.func158.trans (congrArg some (by kernel_rfl))
  f224 := Tryz.func173.trans (congrArg some (by kernel_rfl))
  f225 := Tryz.func172.trans (congrArg some (by kernel_rfl))
  f260 := Tryz.func180.trans (congrArg some (by kernel_rfl))
  f266 := Tryz.func178.trans (congrArg some (by kernel_rfl))
  f267 := Tryz.func174.trans (congrArg some (by kernel_rfl))
  f268 := Tryz.func167.trans (congrArg some (by kernel_rfl))
  f314 := Tryz.func179.trans (congrArg some (by kernel_rfl))
  t0 := Tryz.underlying0
  a0 := Tryz.isAgg0
  z0 := Tryz.sizeOf0
  v0 := Tryz.zeroValue0
  t3 := Tryz.underlying3
  a3 := Tryz.isAgg3
  z3 := Tryz.sizeOf3
  v3 := Tryz.zeroValue3
  t4 := Tryz.underlying4
  a4 := Tryz.isAgg4
  z4 := Tryz.sizeOf4
  v4 := Tryz.zeroValue4
  t5 := Tryz.underlying5
  a5 := Tryz.isAgg5
  z5 := Tryz.sizeOf5
  v5 := Tryz.zeroValue5
  t9 := Tryz.underlying9
  a9 := Tryz.isAgg9
  z9 := Tryz.sizeOf9
  v9 := Tryz.zeroValue9
  t21 := Tryz.underlying21
  a21 := Tryz.isAgg21
  z21 := Tryz.sizeOf21
  v21 := Tryz.zeroValue21
  t31 := Tryz.underlying50
  a31 := Tryz.isAgg50
  z31 := Tryz.sizeOf50
  v31 := Tryz.zeroValue50
  t46 := Tryz.underlying102
  a46 := Tryz.isAgg102
  z46 := Tryz.sizeOf102
  v46 := Tryz.zeroValue102
  t51 := Tryz.underlying130
  a51 := Tryz.isAgg130
  z51 := Tryz.sizeOf130
  v51 := Tryz.zeroValue130
  t105 := Tryz.underlying170
  a105 := Tryz.isAgg170
  z105 := Tryz.sizeOf170
  v105 := Tryz.zeroValue170
  t119 := Tryz.underlying174
  a119 := Tryz.isAgg174
  z119 := Tryz.sizeOf174
  t138 := Tryz.underlying176
  a138 := Tryz.isAgg176
  z138 := Tryz.sizeOf176
  v138 := Tryz.zeroValue176
  t139 := Tryz.underlying177
  a139 := Tryz.isAgg177
  z139 := Tryz.sizeOf177
  v139 := Tryz.zeroValue177
  t146 := Tryz.underlying172
  a146 := Tryz.isAgg172
  z146 := Tryz.sizeOf172
  v146 := Tryz.zeroValue172
  g1 := by kernel_rfl
  g3 := by kernel_rfl
  g4 := by kernel_rfl }
open Go.RowKit Go.Lib in
theorem Tryz.strings_Split (s sep : ByteArray) (m : Int) (w : World) (hs : s.size < 4294967281) (hm : w.cell? ⟨0, 0, none⟩ = some (.int .i64 m)) (h1 : 1 ≤ sep.size) :
    Calls Tryz.prog 131 #[.string s, .string sep] w fun e w' =>
      e = .returned (.slice (some ⟨w.heap.size, 0, none⟩) (Lib.countB s sep + 1) (Lib.countB s sep + 1)) ∧ w' = w.alloc (.cells ((Lib.splitB sep 0 (Lib.countB s sep) s).map Value.string).toArray 9) := Any.strings_Split Tryz.lays146 (by kernel_rfl) s sep m w hs hm h1
def Tryz.laysNm220_ren : Go.Shelf.Ren := ⟨fun | 20 => 93 | n => n, fun | 22 => 36 | 3 => 3 | 4 => 4 | 0 => 0 | n => n, fun | n => n⟩
theorem Tryz.laysNm220 : Go.Proofs.Lays2.n20 Tryz.prog Tryz.laysNm220_ren := {
  mixed := by kernel_rfl
  f20 := Tryz.func93.trans (congrArg some (by kernel_rfl))
  t0 := Tryz.underlying0
  a0 := Tryz.isAgg0
  z0 := Tryz.sizeOf0
  v0 := Tryz.zeroValue0
  t3 := Tryz.underlying3
  a3 := Tryz.isAgg3
  z3 := Tryz.sizeOf3
  v3 := Tryz.zeroValue3
  t4 := Tryz.underlying4
  a4 := Tryz.isAgg4
  z4 := Tryz.sizeOf4
  v4 := Tryz.zeroValue4
  t22 := Tryz.underlying36
  a22 := Tryz.isAgg36
  z22 := Tryz.sizeOf36
  v22 := Tryz.zeroValue36
  i3 := by kernel_rfl }
open Go.RowKit Go.Lib Go.Sort in
theorem Tryz.slices_Compact_int (blk off cap : Nat) (zs : List Int) (w : World) (hH : Holds (Value.int .i64) w blk off zs.toArray) (hsz : zs.length ≤ 9223372036854775807) (hcap : zs.length ≤ cap) :
    Calls Tryz.prog 93 #[.slice (some ⟨blk, off, none⟩) zs.length cap] w fun e w' => e = .returned (.slice (some ⟨blk, off, none⟩) (Lib.compact zs).length cap) ∧ ∃ q, w' = putRow (Value.int .i64) (Sort.ahead w q) blk off (Lib.compact zs ++ List.replicate (zs.length - (Lib.compact zs).length) 0).toArray := Any.slices_Compact_int Tryz.laysNm220 blk off cap zs w hH hsz hcap
open Go.RowKit Go.Lib Go.Sort in
theorem Tryz.slices_Compact_int_empty (a : Option Addr) (cap : Nat) (w : World) :
    Calls Tryz.prog 93 #[.slice a 0 cap] w fun e w' => e = .returned (.slice a 0 cap) ∧ w' = w := Any.slices_Compact_int_empty Tryz.laysNm220 a cap w
open Go.RowKit Go.Sort in
theorem Tryz.slices_Sort_int_none (p : Option Addr) (cap : Nat) (w : World) :
    Calls Tryz.prog 92 #[.slice p 0 cap] w fun e w' => e = .returned (.tuple #[]) ∧ w' = w := Any.slices_Sort_int_none Tryz.lays189 p cap w
end Go.Proofs
namespace Go.Proofs
open Go.Shelf
def Tryz.laysF75_ren : Go.Shelf.Ren := ⟨fun | 6 => 75 | 15 => 78 | 14 => 111 | 28 => 120 | 29 => 121 | 20 => 133 | 21 => 134 | 22 => 135 | 23 => 136 | 24 => 137 | 25 => 138 | 26 => 139 | 27 => 140 | 46 => 159 | 47 => 142 | 48 => 143 | 49 => 160 | 50 => 161 | 57 => 169 | n => n, fun | 22 => 64 | 24 => 67 | 25 => 99 | 3 => 3 | 39 => 102 | 0 => 0 | 53 => 130 | 55 => 132 | 4 => 4 | 46 => 124 | 45 => 123 | 50 => 53 | 5 => 5 | 9 => 9 | 66 => 144 | 70 => 148 | 76 => 159 | 77 => 160 | n => n, fun | n => n⟩
theorem Tryz.laysF75 : Go.Proofs.SlLaysF0.n6 Tryz.prog Tryz.laysF75_ren := {
  mixed := by kernel_rfl
  f6 := ⟨Tryz.f75.name, by decide, Tryz.func75.trans (congrArg some (by kernel_rfl))⟩
  f14 := ⟨Tryz.f111.name, by decide, Tryz.func111.trans (congrArg some (by kernel_rfl))⟩
  f15 := Tryz.func78.trans (congrArg some (by kernel_rfl))
  f20 := ⟨Tryz.f133.name, by decide, Tryz.func133.trans (congrArg some (by kernel_rfl))⟩
  f21 := ⟨Tryz.f134.name, by decide, Tryz.func134.trans (congrArg some (by kernel_rfl))⟩
  f22 := ⟨Tryz.f135.name, by decide, Tryz.func135.trans (congrArg some (by kernel_rfl))⟩
  f23 := ⟨Tryz.f136.name, by decide, Tryz.func136.trans (congrArg some (by kernel_rfl))⟩
  f24 := ⟨Tryz.f137.name, by decide, Tryz.func137.trans (congrArg some (by kernel_rfl))⟩
  f25 := ⟨Tryz.f138.name, by decide, Tryz.func138.trans (congrArg some (by kernel_rfl))⟩
  f26 := ⟨Tryz.f139.name, by decide, Tryz.func139.trans (congrArg some (by kernel_rfl))⟩
  f27 := ⟨Tryz.f140.name, by decide, Tryz.func140.trans (congrArg some (by kernel_rfl))⟩
  f28 := Tryz.func120.trans (congrArg some (by kernel_rfl))
  f29 := Tryz.func121.trans (congrArg some (by kernel_rfl))
  f46 := ⟨Tryz.f159.name, by decide, Tryz.func159.trans (congrArg some (by kernel_rfl))⟩
  f47 := Tryz.func142.trans (congrArg some (by kernel_rfl))
  f48 := Tryz.func143.trans (congrArg some (by kernel_rfl))
  f49 := ⟨Tryz.f160.name, by decide, Tryz.func160.trans (congrArg some (by kernel_rfl))⟩
  f50 := ⟨Tryz.f161.name, by decide, Tryz.func161.trans (congrArg some (by kernel_rfl))⟩
  f57 := ⟨Tryz.f169.name, by decide, Tryz.func169.trans (congrArg some (by kernel_rfl))⟩
  t0 := Tryz.underlying0
  a0 := Tryz.isAgg0
  z0 := Tryz.sizeOf0
  v0 := Tryz.zeroValue0
  t3 := Tryz.underlying3
  a3 := Tryz.isAgg3
  z3 := Tryz.sizeOf3
  v3 := Tryz.zeroValue3
  t4 := Tryz.underlying4
  a4 := Tryz.isAgg4
  z4 := Tryz.sizeOf4
  v4 := Tryz.zeroValue4
  t5 := Tryz.underlying5
  a5 := Tryz.isAgg5
  z5 := Tryz.sizeOf5
  v5 := Tryz.zeroValue5
  t9 := Tryz.underlying9
  a9 := Tryz.isAgg9
  z9 := Tryz.sizeOf9
  v9 := Tryz.zeroValue9
  t22 := Tryz.underlying64
  a22 := Tryz.isAgg64
  z22 := Tryz.sizeOf64
  v22 := Tryz.zeroValue64
  t25 := Tryz.underlying99
  a25 := Tryz.isAgg99
  z25 := Tryz.sizeOf99
  v25 := Tryz.zeroValue99
  t39 := Tryz.underlying102
  a39 := Tryz.isAgg102
  z39 := Tryz.sizeOf102
  v39 := Tryz.zeroValue102
  t45 := Tryz.underlying123
  a45 := Tryz.isAgg123
  z45 := Tryz.sizeOf123
  v45 := Tryz.zeroValue123
  t46 := Tryz.underlying124
  a46 := Tryz.isAgg124
  z46 := Tryz.sizeOf124
  v46 := Tryz.zeroValue124
  t50 := Tryz.underlying53
  a50 := Tryz.isAgg53
  z50 := Tryz.sizeOf53
  v50 := Tryz.zeroValue53
  t53 := Tryz.underlying130
  a53 := Tryz.isAgg130
  z53 := Tryz.sizeOf130
  v53 := Tryz.zeroValue130
  t55 := Tryz.underlying132
  a55 := Tryz.isAgg132
  z55 := Tryz.sizeOf132
  v55 := Tryz.zeroValue132
  t66 := Tryz.underlying144
  a66 := Tryz.isAgg144
  z66 := Tryz.sizeOf144
  v66 := Tryz.zeroValue144
  t70 := Tryz.underlying148
  a70 := Tryz.isAgg148
  z70 := Tryz.sizeOf148
  v70 := Tryz.zeroValue148
  t76 := Tryz.underlying159
  a76 := Tryz.isAgg159
  z76 := Tryz.sizeOf159
  v76 := Tryz.zeroValue159
  t77 := Tryz.underlying160
  a77 := Tryz.isAgg160
  z77 := Tryz.sizeOf160
  v77 := Tryz.zeroValue160 }
def Tryz.laysF43_ren : Go.Shelf.Ren := ⟨fun | 6 => 43 | 15 => 78 | 14 => 77 | 28 => 120 | 29 => 121 | 20 => 112 | 21 => 113 | 22 => 114 | 23 => 115 | 24 => 116 | 25 => 117 | 26 => 118 | 27 => 119 | 46 => 141 | 47 => 142 | 48 => 143 | 49 => 144 | 50 => 145 | 57 => 162 | n => n, fun | 22 => 25 | 24 => 70 | 25 => 72 | 3 => 3 | 39 => 102 | 0 => 0 | 53 => 130 | 55 => 132 | 4 => 4 | 46 => 124 | 45 => 123 | 50 => 53 | 5 => 5 | 9 => 9 | 66 => 144 | 70 => 148 | 76 => 159 | 77 => 160 | n => n, fun | n => n⟩
theorem Tryz.laysF43 : Go.Proofs.SlLaysF0.n6 Tryz.prog Tryz.laysF43_ren := {
  mixed := by kernel_rfl
  f6 := ⟨Tryz.f43.name, by decide, Tryz.func43.trans (congrArg some (by kernel_rfl))⟩
  f14 := ⟨Tryz.f77.name, by decide, Tryz.func77.trans (congrArg some (by kernel_rfl))⟩
  f15 := Tryz.func78.trans (congrArg some (by kernel_rfl))
  f20 := ⟨Tryz.f112.name, by decide, Tryz.func112.trans (congrArg some (by kernel_rfl))⟩
  f21 := ⟨Tryz.f113.name, by decide, Tryz.func113.trans (congrArg some (by kernel_rfl))⟩
  f22 := ⟨Tryz.f114.name, by decide, Tryz.func114.trans (congrArg some (by kernel_rfl))⟩
  f23 := ⟨Tryz.f115.name, by decide, Tryz.func115.trans (congrArg some (by kernel_rfl))⟩
  f24 := ⟨Tryz.f116.name, by decide, Tryz.func116.trans (congrArg some (by kernel_rfl))⟩
  f25 := ⟨Tryz.f117.name, by decide, Tryz.func117.trans (congrArg some (by kernel_rfl))⟩
  f26 := ⟨Tryz.f118.name, by decide, Tryz.func118.trans (congrArg some (by kernel_rfl))⟩
  f27 := ⟨Tryz.f119.name, by decide, Tryz.func119.trans (congrArg some (by kernel_rfl))⟩
  f28 := Tryz.func120.trans (congrArg some (by kernel_rfl))
  f29 := Tryz.func121.trans (congrArg some (by kernel_rfl))
  f46 := ⟨Tryz.f141.name, by decide, Tryz.func141.trans (congrArg some (by kernel_rfl))⟩
  f47 := Tryz.func142.trans (congrArg some (by kernel_rfl))
  f48 := Tryz.func143.trans (congrArg some (by kernel_rfl))
  f49 := ⟨Tryz.f144.name, by decide, Tryz.func144.trans (congrArg some (by kernel_rfl))⟩
  f50 := ⟨Tryz.f145.name, by decide, Tryz.func145.trans (congrArg some (by kernel_rfl))⟩
  f57 := ⟨Tryz.f162.name, by decide, Tryz.func162.trans (congrArg some (by kernel_rfl))⟩
  t0 := Tryz.underlying0
  a0 := Tryz.isAgg0
  z0 := Tryz.sizeOf0
  v0 := Tryz.zeroValue0
  t3 := Tryz.underlying3
  a3 := Tryz.isAgg3
  z3 := Tryz.sizeOf3
  v3 := Tryz.zeroValue3
  t4 := Tryz.underlying4
  a4 := Tryz.isAgg4
  z4 := Tryz.sizeOf4
  v4 := Tryz.zeroValue4
  t5 := Tryz.underlying5
  a5 := Tryz.isAgg5
  z5 := Tryz.sizeOf5
  v5 := Tryz.zeroValue5
  t9 := Tryz.underlying9
  a9 := Tryz.isAgg9
  z9 := Tryz.sizeOf9
  v9 := Tryz.zeroValue9
  t22 := Tryz.underlying25
  a22 := Tryz.isAgg25
  z22 := Tryz.sizeOf25
  v22 := Tryz.zeroValue25
  t25 := Tryz.underlying72
  a25 := Tryz.isAgg72
  z25 := Tryz.sizeOf72
  v25 := Tryz.zeroValue72
  t39 := Tryz.underlying102
  a39 := Tryz.isAgg102
  z39 := Tryz.sizeOf102
  v39 := Tryz.zeroValue102
  t45 := Tryz.underlying123
  a45 := Tryz.isAgg123
  z45 := Tryz.sizeOf123
  v45 := Tryz.zeroValue123
  t46 := Tryz.underlying124
  a46 := Tryz.isAgg124
  z46 := Tryz.sizeOf124
  v46 := Tryz.zeroValue124
  t50 := Tryz.underlying53
  a50 := Tryz.isAgg53
  z50 := Tryz.sizeOf53
  v50 := Tryz.zeroValue53
  t53 := Tryz.underlying130
  a53 := Tryz.isAgg130
  z53 := Tryz.sizeOf130
  v53 := Tryz.zeroValue130
  t55 := Tryz.underlying132
  a55 := Tryz.isAgg132
  z55 := Tryz.sizeOf132
  v55 := Tryz.zeroValue132
  t66 := Tryz.underlying144
  a66 := Tryz.isAgg144
  z66 := Tryz.sizeOf144
  v66 := Tryz.zeroValue144
  t70 := Tryz.underlying148
  a70 := Tryz.isAgg148
  z70 := Tryz.sizeOf148
  v70 := Tryz.zeroValue148
  t76 := Tryz.underlying159
  a76 := Tryz.isAgg159
  z76 := Tryz.sizeOf159
  v76 := Tryz.zeroValue159
  t77 := Tryz.underlying160
  a77 := Tryz.isAgg160
  z77 := Tryz.sizeOf160
  v77 := Tryz.zeroValue160 }
end Go.Proofs
set_option linter.unusedVariables false
set_option linter.unusedSimpArgs false
namespace Go.Hv
open Go Go.Hv Go.Proofs Go.RowKit
open Go.Sort (putRow putCells Holds grow mapBlock onCells)
open Go.Proofs.YtlbmbnpknobjdaaGreatDoor
def leI (a b : Int) : Bool := decide (a ≤ b)
set_option maxHeartbeats 1000000 in
theorem closure76 (x y : El) (W : World) : Calls Tryz.prog 76 #[.agg #[.int .i64 x.1.1, x.1.2], .agg #[.int .i64 y.1.1, y.1.2]] W fun e w' => e = .returned (.int .i64 (cfE x y)) ∧ ∃ q os', w' = grow (W.drewN q) os' := by
  have hw : IntKind.i64.wrap (x.1.1 - y.1.1) = cfE x y := by
    have := x.2.1; have := y.2.1
    unfold cfE
    simp [IntKind.wrap, IntKind.bits, IntKind.signed]; omega
  go_enter Tryz.func76, Tryz.ntmps76
  go_wp2
  go_ret
  exact ⟨rfl, 0, _, by rw [Go.Sort.alloc_eq_grow, Go.Sort.alloc_eq_grow, Go.Sort.grow_grow]; rfl⟩
theorem SortFunc_spec (cs : List (Int × HV)) (hr : ∀ p ∈ cs, 0 ≤ p.1 ∧ p.1 < 16777216) (hnd : (cs.map (·.1)).Nodup) (hI : ∀ p ∈ cs, isI p.2 = true) (hlen : cs.length < 4611686018427387904) : SpecS Tryz.prog 75 67 2 (pairsHV cs) [.fn (.func 76) []] (pairsHV (cs.mergeSort leC)) := by
  refine SpecS.sortCode cs hr hnd hI hlen (fun d blk cap w hH hblk hsz => ?_) (fun A w => ?_)
  · have eg : ∀ args w, (callFunc 76 args).run Tryz.prog w = .ok (.enter 76 args) w := enters_of Tryz.func76 (by kernel_rfl) rfl
    exact AnyQ.slices_SortFunc Tryz.laysF75 2 Tryz.isAgg67 Tryz.sizeOf67 encE (fun _ => rfl) (fun x v hv => by simp [encE] at hv; rcases hv with rfl | rfl; rfl; exact x.2.2) cfE swoE 76 #[] blk 0 cap d w eg (fun _ _ _ _ x y => closure76 x y _) hH hblk hsz
  · exact AnyF.slices_SortFunc_none (P := Tryz.prog) (ρ := Tryz.laysF75_ren) { Tryz.laysF75 with } A 0 (.func (.func 76) #[] #[]) w
set_option maxHeartbeats 1000000 in
theorem closure44 (x y : El) (W : World) : Calls Tryz.prog 44 #[.agg #[.int .i64 x.1.1, x.1.2], .agg #[.int .i64 y.1.1, y.1.2]] W fun e w' => e = .returned (.int .i64 (cfE x y)) ∧ ∃ q os', w' = grow (W.drewN q) os' := by
  have hw : IntKind.i64.wrap (x.1.1 - y.1.1) = cfE x y := by
    have := x.2.1; have := y.2.1
    unfold cfE
    simp [IntKind.wrap, IntKind.bits, IntKind.signed]; omega
  go_enter Tryz.func44, Tryz.ntmps44
  go_wp2
  go_ret
  exact ⟨rfl, 0, _, by rw [Go.Sort.alloc_eq_grow, Go.Sort.alloc_eq_grow, Go.Sort.grow_grow]; rfl⟩
theorem SortFuncP_spec (cs : List (Int × HV)) (hr : ∀ p ∈ cs, 0 ≤ p.1 ∧ p.1 < 16777216) (hnd : (cs.map (·.1)).Nodup) (hI : ∀ p ∈ cs, isI p.2 = true) (hlen : cs.length < 4611686018427387904) : SpecS Tryz.prog 43 70 2 (pairsHV cs) [.fn (.func 44) []] (pairsHV (cs.mergeSort leC)) := by
  refine SpecS.sortCode cs hr hnd hI hlen (fun d blk cap w hH hblk hsz => ?_) (fun A w => ?_)
  · have eg : ∀ args w, (callFunc 44 args).run Tryz.prog w = .ok (.enter 44 args) w := enters_of Tryz.func44 (by kernel_rfl) rfl
    exact AnyQ.slices_SortFunc Tryz.laysF43 2 Tryz.isAgg70 Tryz.sizeOf70 encE (fun _ => rfl) (fun x v hv => by simp [encE] at hv; rcases hv with rfl | rfl; rfl; exact x.2.2) cfE swoE 44 #[] blk 0 cap d w eg (fun _ _ _ _ x y => closure44 x y _) hH hblk hsz
  · exact AnyF.slices_SortFunc_none (P := Tryz.prog) (ρ := Tryz.laysF43_ren) { Tryz.laysF43 with } A 0 (.func (.func 44) #[] #[]) w
end Go.Hv
set_option linter.unusedVariables false
set_option linter.unusedSimpArgs false
namespace Go.Hv
open Go Go.Hv Go.Proofs
open Go.Proofs.YtlbmbnpknobjdaaGreatDoor
theorem ofK_nodup (s : List UInt8) (k : Nat) : (ofK s k).Nodup := (ofK_inc s k).imp fun h => by intro e; subst e; omega
theorem ofK_perm (s : List UInt8) (k : Nat) : (ofK s k).Perm (fstK s k) := (List.perm_ext_iff_of_nodup (ofK_nodup s k) (fstK_nodup s k)).2 fun c => by rw [ofK_mem, fstK_mem]
theorem filter_ne_perm {l : List Nat} (hn : l.Nodup) {i : Nat} (hi : i ∈ l) : (i :: l.filter (· != i)).Perm l := by
  have : l.filter (· != i) = l.erase i := by
    rw [List.Nodup.erase_eq_filter hn]
  rw [this]
  exact (List.perm_cons_erase hi).symm
theorem perm_step {d l : List Nat} {n i : Nat} (h : (d ++ l).Perm (List.range n)) (hi : i ∈ l) : ((d ++ [i]) ++ l.filter (· != i)).Perm (List.range n) ∧ (l.filter (· != i)).length < l.length := by
  have hn : l.Nodup := by
    have := (h.nodup_iff).2 List.nodup_range
    exact (List.nodup_append.1 this).2.1
  have hp := filter_ne_perm hn hi
  constructor
  · rw [List.append_assoc]
    exact (List.Perm.append_left d hp).trans h
  · have := hp.length_eq
    simp at this; omega
theorem map_getD_range {α : Type} (l : List α) (d : α) : (List.range l.length).map (fun i => l.getD i d) = l := by
  apply List.ext_getElem?
  intro i
  rw [List.getElem?_map]
  rcases Nat.lt_or_ge i l.length with h | h
  · rw [List.getElem?_range h]; simp [List.getElem?_eq_getElem h]
  · rw [List.getElem?_eq_none (by simpa using h), List.getElem?_eq_none h]; rfl
theorem perm_taken {α : Type} {l : List α} {d : List Nat} (x : α) (h : (d ++ []).Perm (List.range l.length)) : (d.map (fun i => l.getD i x)).Perm l := by
  rw [List.append_nil] at h
  have := h.map (fun i => l.getD i x)
  rwa [map_getD_range] at this
theorem leI_sorted {l : List Int} (h : Inc l) : l.Pairwise fun a b => leI a b = true := h.imp fun h => by simp [leI]; omega
theorem mergeSort_of_inc {a b : List Int} (h : Inc a) (hp : b.Perm a) : b.mergeSort leI = a := by
  refine List.Perm.eq_of_pairwise (le := fun a b => leI a b = true) (fun x y _ _ h1 h2 => by simp [leI] at h1 h2; omega) ?_ (leI_sorted h) ((List.mergeSort_perm b leI).trans hp)
  exact List.pairwise_mergeSort (fun a b c h1 h2 => by simp [leI] at *; omega) (fun a b => by simp [leI]; omega) b
theorem sorted_of (s : List UInt8) {d : List Nat} (h : (d ++ []).Perm (List.range (fstK s (s.length - 2)).length)) : (d.map fun i => (fstK s (s.length - 2))[i]?.getD 0).mergeSort leI = ofV s := by
  have := perm_taken 0 h
  simp only [List.getD_eq_getElem?_getD] at this
  exact mergeSort_of_inc (ofK_inc s _) (this.trans (ofK_perm s _).symm)
@[simp] theorem occV_length (s : List UInt8) : (occV s).length = (fstK s (s.length - 2)).length := by simp [occV]
def gm (s : List UInt8) (c : Int) : Gram := ⟨c, offK s (s.length - 2) c⟩
def leG (a b : Gram) : Bool := decide (a.code ≤ b.code)
def gp (g : Gram) : Int × HV := (g.code, .sl 1 false (intsHV g.off))
theorem grams_pairs (l : List Gram) : gramsHV l = pairsHV (l.map gp) := by simp [gramsHV, pairsHV, gp]
theorem SortGrams_spec (l : List Gram) (hr : ∀ p ∈ l, 0 ≤ p.code ∧ p.code < 16777216) (hnd : (l.map (·.code)).Nodup) (hlen : l.length < 4611686018427387904) : SpecS Tryz.prog 75 67 2 (gramsHV l) [.fn (.func 76) []] (gramsHV (l.mergeSort leG)) := by
  rw [grams_pairs, grams_pairs, List.map_mergeSort (r := leG) (s := leC) (f := gp) (l := l) (fun _ _ _ _ => rfl)]
  refine SortFunc_spec _ (fun p hp => ?_) ?_ (fun p hp => ?_) (by simpa using hlen)
  · obtain ⟨g, hg, rfl⟩ := List.mem_map.1 hp; exact hr g hg
  · rw [List.map_map]; exact hnd
  · obtain ⟨g, hg, rfl⟩ := List.mem_map.1 hp; simp [gp, isI]
theorem grams_sorted (s : List UInt8) {d : List Nat} (h : (d ++ []).Perm (List.range (fstK s (s.length - 2)).length)) : (d.map fun i => gm s ((fstK s (s.length - 2))[i]?.getD 0)).mergeSort leG = gramsV s := by
  have hg : gramsV s = (ofV s).map (gm s) := rfl
  rw [hg, ← sorted_of s h]
  have := List.map_mergeSort (r := leI) (s := leG) (f := gm s) (l := d.map fun i => (fstK s (s.length - 2))[i]?.getD 0) (fun _ _ _ _ => rfl)
  rw [List.map_map] at this
  exact this.symm
theorem gm_ok (s : List UInt8) {d : List Nat} (h : (d ++ []).Perm (List.range (fstK s (s.length - 2)).length)) :
    (∀ p ∈ d.map (fun i => gm s ((fstK s (s.length - 2))[i]?.getD 0)), 0 ≤ p.code ∧ p.code < 16777216) ∧ ((d.map (fun i => gm s ((fstK s (s.length - 2))[i]?.getD 0))).map (·.code)).Nodup := by
  have hp := perm_taken 0 h
  simp only [List.getD_eq_getElem?_getD] at hp
  refine ⟨fun p hm => ?_, ?_⟩
  · obtain ⟨i, hi, rfl⟩ := List.mem_map.1 hm
    have : (fstK s (s.length - 2))[i]?.getD 0 ∈ fstK s (s.length - 2) := (hp.mem_iff).1 (List.mem_map.2 ⟨i, hi, rfl⟩)
    obtain ⟨j, _, hj⟩ := (fstK_mem s _ _).1 this
    simp only [gm]
    rw [← hj]
    exact code3_lt _ _ _
  · rw [List.map_map]
    exact hp.symm.nodup (fstK_nodup s _)
set_option maxHeartbeats 1000000 in
theorem Grams_spec (s : List UInt8) (hs : s.length ≤ 900000) : Spec1 Tryz.prog 41 [.str s] (.sl 2 false (gramsHV (gramsV s))) := by
  have hlen := fstK_length s (s.length - 2)
  have hol := ofV_length s
  refine Spec1.of_HT Tryz.func41 rfl (by rw [Tryz.ntmps41]; simp) rfl ?_
  rw [Tryz.ntmps41]
  refine HT.seq ?_
  refine HT.region ?_   -- R0
  simp (disch := first | omega | (simp <;> omega) | fail) [wrap_i64, wrap_u64, wrap_u8', eI]
  refine HT.seq ?_
  refine HT.region ?_   -- R1
  simp (disch := first | omega | (simp <;> omega) | fail) [wrap_i64, wrap_u64, wrap_u8', eI]
  refine HT.weaken (HS.le_own (t := 3) 200 67 2 _ (by decide) rfl (by decide)) ?_
  refine HT.seq ?_
  refine HT.seq ?_
  refine HT.region ?_   -- R2
  simp (disch := first | omega | (simp <;> omega) | fail) [wrap_i64, wrap_u64, wrap_u8', eI]
  refine stepK.mk (.call1f _ _ _ _ _ rfl Ty.hb74 rfl rfl (occ_spec s hs) rfl) ?_
  simp (disch := first | omega | (simp <;> omega) | fail) [wrap_i64, wrap_u64, wrap_u8', eI]
  refine HT.block ?_
  refine HT.loopK (fun k : {k : List Nat × List Nat × Option (HV × HV) // (k.1 ++ k.2.1).Perm (List.range (fstK s (s.length - 2)).length)} => [.s 3 (.ref 200), .o 200 (.row 67 2 (gramsHV (k.1.1.map fun i => gm s ((fstK s (s.length - 2)).getD i 0)))), .o 8 (.iter (occV s) k.1.2.1 k.1.2.2)]) [8] [] (fun k => k.1.2.1.length) (⟨⟨[], List.range (fstK s (s.length - 2)).length, none⟩, by simp⟩) ?_ ?_   -- block 0 turned [3]
  · simp (disch := first | omega | (simp <;> omega) | fail) [wrap_i64, wrap_u64, wrap_u8', eI]
  rintro ⟨⟨dn, lf, la⟩, hp⟩
  simp (disch := first | omega | (simp <;> omega) | fail) [wrap_i64, wrap_u64, wrap_u8', eI]
  refine HT.seq ?_
  refine HT.region ?_   -- R3
  simp (disch := first | omega | (simp <;> omega) | fail) [wrap_i64, wrap_u64, wrap_u8', eI]
  refine ⟨fun hnil => ?_, fun i kk vv hi hkv => ?_⟩
  · skip
    obtain rfl := hnil
    obtain ⟨g1, g2⟩ := gm_ok s hp
    refine HT.seq ?_
    refine HT.cond' ?_   -- if 10
    simp (disch := first | omega | (simp <;> omega) | fail) [wrap_i64, wrap_u64, wrap_u8', eI]
    refine HT.exit ?_
    simp (disch := first | omega | (simp <;> omega) | fail) [wrap_i64, wrap_u64, wrap_u8', eI]
    refine HT.seq ?_
    refine HT.region ?_   -- R6
    simp (disch := first | omega | (simp <;> omega) | fail) [wrap_i64, wrap_u64, wrap_u8', eI]
    refine stepK.mk (.callS _ _ _ _ _ _ _ rfl Ty.hb75 (by first | rfl | simp) (by simp) (by first | rfl | simp) (SortGrams_spec _ g1 g2 (by have := hp.length_eq; simp at this ⊢; omega)) rfl) ?_
    simp (disch := first | omega | (simp <;> omega) | fail) [wrap_i64, wrap_u64, wrap_u8', eI]
    refine HT.seq ?_
    refine HT.region ?_   -- R7
    simp (disch := first | omega | (simp <;> omega) | fail) [wrap_i64, wrap_u64, wrap_u8', eI]
    refine HT.ret ?_
    simp (disch := first | omega | (simp <;> omega) | fail) [wrap_i64, wrap_u64, wrap_u8', eI, grams_sorted s hp]
  · skip
    have hst := perm_step hp hi
    have hil : (dn ++ lf).length = _ := hp.length_eq
    have hil2 : i < (fstK s (s.length - 2)).length := by have := (hp.mem_iff (a := i)).1 (List.mem_append_right _ hi); simpa using this
    rw [occV, fents_get, List.getElem?_eq_getElem hil2] at hkv
    simp only [Option.map_some, Option.some.injEq, Prod.mk.injEq] at hkv
    obtain ⟨rfl, rfl⟩ := hkv
    have hb : dn.length + lf.length = (fstK s (s.length - 2)).length := by simpa using hil
    refine HT.seq ?_
    refine HT.cond' ?_   -- if 10
    simp (disch := first | omega | (simp <;> omega) | fail) [wrap_i64, wrap_u64, wrap_u8', eI]
    refine HT.skip ?_
    simp (disch := first | omega | (simp <;> omega) | fail) [wrap_i64, wrap_u64, wrap_u8', eI]
    refine HT.block ?_
    refine HT.seq ?_
    refine HT.region ?_   -- R4
    simp (disch := first | omega | (simp <;> omega) | fail) [wrap_i64, wrap_u64, wrap_u8', eI]
    refine HT.region ?_   -- R5
    simp (disch := first | omega | (simp <;> omega) | fail) [wrap_i64, wrap_u64, wrap_u8', eI]
    refine Round.mk' (⟨⟨dn ++ [i], lf.filter (· != i), some (eI (fstK s (s.length - 2))[i], .sl 1 false (intsHV (offK s (s.length - 2) (fstK s (s.length - 2))[i])))⟩, hst.1⟩) hst.2 rfl ?_
    simp (disch := first | omega | (simp <;> omega) | fail) [wrap_i64, wrap_u64, wrap_u8', eI, hil2, gm]
end Go.Hv
set_option linter.unusedVariables false
set_option linter.unusedSimpArgs false
/- Documents, postings and segments, in plain words. -/
namespace Go.Hv
structure Doc where
  id : Int
  repo : List UInt8
  path : List UInt8
  text : List UInt8
  on : List (List UInt8)
  deriving DecidableEq
structure Post where
  code : Int
  docs : List Gram
  deriving DecidableEq
structure Seg where
  docs : List Doc
  grams : List Post
  deriving DecidableEq
/-! ### Lists that increase by a number -/
def IncBy {α : Type} (f : α → Int) (l : List α) : Prop := l.Pairwise fun x y => f x < f y
/-! ### Merging by a number -/
def mergeBy {α : Type} (f : α → Int) (both : α → α → α) : List α → List α → List α
  | [], b => b
  | x :: a, [] => x :: a
  | x :: a, y :: b => if f x < f y then x :: mergeBy f both a (y :: b) else if f y < f x then y :: mergeBy f both (x :: a) b else both x y :: mergeBy f both a b
  termination_by a b => a.length + b.length
@[simp] theorem mergeBy_nil_left {α : Type} (f : α → Int) (both : α → α → α) (b : List α) : mergeBy f both [] b = b := by simp [mergeBy]
@[simp] theorem mergeBy_nil_right {α : Type} (f : α → Int) (both : α → α → α) (a : List α) : mergeBy f both a [] = a := by cases a <;> simp [mergeBy]
/-! ### The segment of documents -/
def offV (s : List UInt8) (c : Int) : List Int := offK s (s.length - 2) c
def postV (l : List Doc) (c : Int) : List Gram := (l.map fun d => (⟨d.id, offV d.text c⟩ : Gram)).filter fun g => decide (g.off ≠ [])
def codesV (l : List Doc) : List Int := l.foldl (fun a d => (ofV d.text).foldl ins a) []
def gramsOf (l : List Doc) : List Post := (codesV l).map fun c => ⟨c, postV l c⟩
def segV (l : List Doc) : Seg := ⟨l, gramsOf l⟩
theorem foldl_ins_mem (b : List Int) : ∀ (a : List Int) (c : Int), c ∈ b.foldl ins a ↔ c ∈ a ∨ c ∈ b := by
  induction b with
  | nil => simp
  | cons x b ih => intro a c; rw [List.foldl_cons, ih, ins_mem, List.mem_cons, or_assoc]
theorem foldl_ins_inc (b : List Int) : ∀ {a : List Int}, Inc a → Inc (b.foldl ins a) := by
  induction b with
  | nil => exact fun h => h
  | cons x b ih => exact fun h => ih (ins_inc h x)
theorem codesV_aux (l : List Doc) : ∀ (a : List Int), Inc a → Inc (l.foldl (fun a d => (ofV d.text).foldl ins a) a) ∧ ∀ c, c ∈ l.foldl (fun a d => (ofV d.text).foldl ins a) a ↔ c ∈ a ∨ ∃ d ∈ l, c ∈ ofV d.text := by
  induction l with
  | nil => intro a h; exact ⟨h, by simp⟩
  | cons d l ih =>
    intro a h
    obtain ⟨h1, h2⟩ := ih _ (foldl_ins_inc (ofV d.text) h)
    refine ⟨h1, fun c => ?_⟩
    rw [List.foldl_cons, h2, foldl_ins_mem]
    simp [or_assoc]
theorem codesV_inc (l : List Doc) : Inc (codesV l) := (codesV_aux l [] List.Pairwise.nil).1
theorem codesV_mem (l : List Doc) (c : Int) : c ∈ codesV l ↔ ∃ d ∈ l, c ∈ ofV d.text := by
  unfold codesV; rw [(codesV_aux l [] List.Pairwise.nil).2]; simp
theorem offV_ne (s : List UInt8) (c : Int) : offV s c ≠ [] ↔ c ∈ ofV s := by
  unfold ofV offV offK
  rw [ofK_mem, ne_eq, List.map_eq_nil_iff, List.filter_eq_nil_iff]
  simp
theorem postV_ne (l : List Doc) (c : Int) : postV l c ≠ [] ↔ c ∈ codesV l := by
  rw [codesV_mem]
  constructor
  · intro h
    obtain ⟨g, hg⟩ := List.exists_mem_of_ne_nil _ h
    unfold postV at hg
    rw [List.mem_filter] at hg
    obtain ⟨d, hd, rfl⟩ := List.mem_map.1 hg.1
    exact ⟨d, hd, (offV_ne _ _).1 (of_decide_eq_true hg.2)⟩
  · rintro ⟨d, hd, h⟩ h2
    have : (⟨d.id, offV d.text c⟩ : Gram) ∈ postV l c := by
      unfold postV
      exact List.mem_filter.2 ⟨List.mem_map_of_mem hd, decide_eq_true ((offV_ne _ _).2 h)⟩
    rw [h2] at this; simp at this
/-! ### A segment without some documents -/
/-! ### The union of postings -/
end Go.Hv
set_option linter.unusedVariables false
set_option linter.unusedSimpArgs false
/- Right tables, the segment that Build returns, Merge, and the laws of layer 31 in plain words. -/
namespace Go.Hv
def letterV (c : UInt8) : Bool := decide (97 ≤ c ∧ c ≤ 122 ∨ 65 ≤ c ∧ c ≤ 90 ∨ 48 ≤ c ∧ c ≤ 57 ∨ c = 46 ∨ c = 95 ∨ c = 45)
def nameOK (s : List UInt8) : Bool := decide (1 ≤ s.length ∧ s.length ≤ 24 ∧ s ≠ [46] ∧ s ≠ [46, 46]) && s.all letterV
def partsV : List UInt8 → List (List UInt8)
  | [] => [[]]
  | c :: s => if c = 47 then [] :: partsV s else match partsV s with
    | [] => [[c]]
    | p :: r => (c :: p) :: r
def pathV (s : List UInt8) : Bool := decide (s.length ≤ 60) && (partsV s).all nameOK
def nameV (s : List UInt8) : Bool := pathV s && decide (47 ∉ s)
def textB (c : UInt8) : Bool := decide (c = 9 ∨ c = 10 ∨ 32 ≤ c ∧ c ≤ 126)
def textV (s : List UInt8) : Bool := decide (s.length ≤ 2000) && s.all textB
def incS : List (List UInt8) → Bool
  | [] => true
  | [_] => true
  | a :: b :: r => (!(Go.Op.bytesLess b a || decide (b = a))) && incS (b :: r)
def checkV (d : Doc) : Int :=
  if (nameV d.repo && pathV d.path && textV d.text) = false then 3
  else if d.on.all nameV = false then 3
  else if d.on = [] then 1
  else if incS d.on = false then 1
  else 0
def keyV (d : Doc) : List UInt8 × List UInt8 × List UInt8 := (d.repo, d.path, d.text)
def scanV : Int → List Doc → Int
  | _, [] => 0
  | last, d :: r => if d.id ≤ last ∨ d.id > 9999 then 2 else if checkV d ≠ 0 then checkV d else scanV d.id r
def rightV (l : List Doc) : Int :=
  if l.length > 64 then 4 else if scanV 0 l ≠ 0 then scanV 0 l else if (l.map keyV).Nodup then 0 else 7

theorem scanV_zero : ∀ (l : List Doc) (n : Int), scanV n l = 0 ↔ (∀ d ∈ l, n < d.id) ∧ IncBy Doc.id l ∧ ∀ d ∈ l, d.id ≤ 9999 ∧ checkV d = 0
  | [], n => by simp [scanV, IncBy]
  | d :: r, n => by
    unfold scanV IncBy
    rw [List.pairwise_cons]
    by_cases h1 : d.id ≤ n ∨ d.id > 9999
    · rw [if_pos h1]
      constructor
      · intro h; exact absurd h (by decide)
      · rintro ⟨h2, _, h3⟩
        have := h2 d (by simp); have := (h3 d (by simp)).1; omega
    · rw [if_neg h1]
      by_cases h2 : checkV d = 0
      · rw [if_neg (by simpa using h2), scanV_zero r d.id]
        constructor
        · rintro ⟨a, b, c⟩
          refine ⟨fun x hx => ?_, ⟨a, b⟩, fun x hx => ?_⟩
          · rcases List.mem_cons.1 hx with rfl | hx
            · omega
            · have := a x hx; omega
          · rcases List.mem_cons.1 hx with rfl | hx
            · exact ⟨by omega, h2⟩
            · exact c x hx
        · rintro ⟨a, ⟨b, c⟩, e⟩
          exact ⟨b, c, fun x hx => e x (by simp [hx])⟩
      · rw [if_pos h2]
        constructor
        · intro h; exact absurd h h2
        · rintro ⟨_, _, e⟩
          exact absurd (e d (by simp)).2 h2
theorem rightV_zero (l : List Doc) : rightV l = 0 ↔ l.length ≤ 64 ∧ (∀ d ∈ l, 0 < d.id) ∧ IncBy Doc.id l ∧ (∀ d ∈ l, d.id ≤ 9999 ∧ checkV d = 0) ∧ (l.map keyV).Nodup := by
  unfold rightV
  by_cases h1 : l.length > 64
  · rw [if_pos h1]
    constructor
    · intro h; exact absurd h (by decide)
    · rintro ⟨h, _⟩; omega
  · rw [if_neg h1]
    by_cases h2 : scanV 0 l = 0
    · rw [if_neg (by simpa using h2)]
      obtain ⟨a, b, c⟩ := (scanV_zero l 0).1 h2
      by_cases h3 : (l.map keyV).Nodup
      · rw [if_pos h3]; exact ⟨fun _ => ⟨by omega, a, b, c, h3⟩, fun _ => rfl⟩
      · rw [if_neg h3]
        constructor
        · intro h; exact absurd h (by decide)
        · rintro ⟨_, _, _, _, h⟩; exact absurd h h3
    · rw [if_pos h2]
      constructor
      · intro h; exact absurd h h2
      · rintro ⟨_, a, b, c, _⟩; exact absurd ((scanV_zero l 0).2 ⟨a, b, c⟩) h2
theorem right_inc {l : List Doc} (h : rightV l = 0) : IncBy Doc.id l := ((rightV_zero l).1 h).2.2.1
def emptySeg : Seg := ⟨[], []⟩
def buildV (l : List Doc) : Seg × Int := if rightV l = 0 then (segV l, 0) else (emptySeg, 1)
end Go.Hv
set_option linter.unusedVariables false
set_option linter.unusedSimpArgs false
/- Pick, and the document's Union, in plain words. -/
namespace Go.Hv
def rangeI (a b : Nat) : List Int := (List.range (b - a)).map fun i => ((a + i : Nat) : Int)
@[simp] theorem rangeI_length (a b : Nat) : (rangeI a b).length = b - a := by simp [rangeI]
@[simp] theorem rangeI_self (a : Nat) : rangeI a a = [] := by simp [rangeI]
/-! ### The document's Union -/
def mergeR : List Gram → List Gram → List Gram
  | [], b => b
  | x :: a, [] => x :: a
  | x :: a, y :: b => if x.code < y.code then x :: mergeR a (y :: b) else y :: mergeR (x :: a) b
  termination_by a b => a.length + b.length
@[simp] theorem mergeR_nil_left (b : List Gram) : mergeR [] b = b := by simp [mergeR]
@[simp] theorem mergeR_nil_right (a : List Gram) : mergeR a [] = a := by cases a <;> simp [mergeR]
end Go.Hv
set_option linter.unusedVariables false
set_option linter.unusedSectionVars false
set_option linter.unusedSimpArgs false
/- Documents, postings and segments as rows. -/
namespace Go.Hv
open Go Go.RowKit
variable [GI]
@[simp] def Doc.enc (d : Doc) : List HV := [i64 d.id, .str d.repo, .str d.path, .str d.text, .sl 1 false (strsHV d.on)]
@[simp] def Post.enc (p : Post) : List HV := [i64 p.code, .sl 2 false (gramsHV p.docs)]
def docsHV (l : List Doc) : List (List HV) := l.map fun x => x.enc
@[simp] theorem docsHV_length (l : List Doc) : (docsHV l).length = l.length := by simp [docsHV]
@[simp] theorem docsHV_getElem (l : List Doc) (k : Nat) (h : k < (docsHV l).length) : (docsHV l)[k] = (fun x => x.enc) (l[k]'(by simpa using h)) := by simp [docsHV]
@[simp] theorem docsHV_snoc (l : List Doc) (i : Int) (r p t : List UInt8) (o : List (List UInt8)) : docsHV l ++ [[i64 i, .str r, .str p, .str t, .sl 1 false (strsHV o)]] = docsHV (l ++ [⟨i, r, p, t, o⟩]) := by simp [docsHV]
@[simp] theorem docsHV_nil : docsHV [] = [] := rfl
@[simp] theorem isILL_docsHV (l : List Doc) : isILL (docsHV l) = true := by
  unfold docsHV
  rw [isILL_iff]
  intro x hx
  obtain ⟨a, _, rfl⟩ := List.mem_map.1 hx
  simp [isIL, isI]
def postsHV (l : List Post) : List (List HV) := l.map fun x => x.enc
@[simp] theorem postsHV_length (l : List Post) : (postsHV l).length = l.length := by simp [postsHV]
@[simp] theorem postsHV_getElem (l : List Post) (k : Nat) (h : k < (postsHV l).length) : (postsHV l)[k] = (fun x => x.enc) (l[k]'(by simpa using h)) := by simp [postsHV]
@[simp] theorem postsHV_snoc (l : List Post) (c : Int) (o : List Gram) : postsHV l ++ [[i64 c, .sl 2 false (gramsHV o)]] = postsHV (l ++ [⟨c, o⟩]) := by simp [postsHV]
@[simp] theorem postsHV_nil : postsHV [] = [] := rfl
@[simp] theorem isILL_postsHV (l : List Post) : isILL (postsHV l) = true := by
  unfold postsHV
  rw [isILL_iff]
  intro x hx
  obtain ⟨a, _, rfl⟩ := List.mem_map.1 hx
  simp [isIL, isI]
@[simp] def Seg.enc (s : Seg) : List HV := [.sl 5 false (docsHV s.docs), .sl 2 false (postsHV s.grams)]
def segsHV (l : List Seg) : List (List HV) := l.map fun x => x.enc
@[simp] theorem segsHV_length (l : List Seg) : (segsHV l).length = l.length := by simp [segsHV]
@[simp] theorem segsHV_getElem (l : List Seg) (k : Nat) (h : k < (segsHV l).length) : (segsHV l)[k] = (fun x => x.enc) (l[k]'(by simpa using h)) := by simp [segsHV]
@[simp] theorem segsHV_snoc (l : List Seg) (d : List Doc) (g : List Post) : segsHV l ++ [[.sl 5 false (docsHV d), .sl 2 false (postsHV g)]] = segsHV (l ++ [⟨d, g⟩]) := by simp [segsHV]
@[simp] theorem segsHV_nil : segsHV [] = [] := rfl
@[simp] theorem isILL_segsHV (l : List Seg) : isILL (segsHV l) = true := by
  unfold segsHV
  rw [isILL_iff]
  intro x hx
  obtain ⟨a, _, rfl⟩ := List.mem_map.1 hx
  simp [isIL, isI]
end Go.Hv
set_option linter.unusedVariables false
set_option linter.unusedSimpArgs false
namespace Go.Hv
open Go Go.Hv Go.Proofs
open Go.Proofs.YtlbmbnpknobjdaaGreatDoor
theorem idx_ne {l : List Int} {c : Int} (hg : ∀ i, i < l.length → l[i]? ≠ some c) : c ∉ l := fun h => by
  obtain ⟨i, hi, e⟩ := List.getElem_of_mem h
  exact hg i hi (by rw [List.getElem?_eq_getElem hi, e])
theorem ne_next {l : List Int} {c : Int} {k : Nat} (hg : ∀ i, i < k → l[i]? ≠ some c) (hk : k < l.length) (h : ¬ l[k] = c) : ∀ i, i < k + 1 → l[i]? ≠ some c := fun i hi => by
  by_cases e : i = k
  · subst e; rw [List.getElem?_eq_getElem hk]; simpa using h
  · exact hg i (by omega)
theorem idxOf_first {c : Int} : ∀ {l : List Int} {k : Nat} (hk : k < l.length) (e : l[k] = c) (hg : ∀ i, i < k → l[i]? ≠ some c), l.idxOf c = k
  | [], _, hk, _, _ => by simp at hk
  | x :: l, 0, _, e, _ => by simp at e; simp [e]
  | x :: l, k + 1, hk, e, hg => by
    have hx : x ≠ c := by have := hg 0 (by omega); simpa using this
    have ih := idxOf_first (l := l) (k := k) (by simpa using hk) (by simpa using e) (fun i hi => by have := hg (i + 1) (by omega); simpa using this)
    have hb : (x == c) = false := by simpa using hx
    rw [List.idxOf_cons, hb, cond_false, ih]
theorem Index_spec (f : Bool) (l : List Int) (c : Int) (hl : l.length ≤ 140737488355328) : Spec1 Tryz.prog 106 [.sl 1 f (intsHV l), i64 c] (i64 (if c ∈ l then (l.idxOf c : Int) else -1)) := by
  refine Spec1.of_HT Tryz.func106 rfl (by rw [Tryz.ntmps106]; simp) rfl ?_
  rw [Tryz.ntmps106]
  refine HT.seq ?_
  refine HT.region ?_   -- R0
  simp (disch := first | omega | (simp <;> omega) | fail) [wrap_i64, wrap_u64, wrap_u8']
  refine HT.seq ?_
  refine HT.seq ?_
  refine HT.region ?_   -- R1
  simp (disch := first | omega | (simp <;> omega) | fail) [wrap_i64, wrap_u64, wrap_u8']
  refine HT.block ?_
  refine HT.loopK (fun k : {k : Nat // k ≤ l.length ∧ ∀ i, i < k → l[i]? ≠ some c} => [.s 8 (i64 k)]) [0, 1, 7] [] (fun k => l.length - k) (⟨0, by simp⟩) ?_ ?_   -- block 0 turned [8]
  · simp (disch := first | omega | (simp <;> omega) | fail) [wrap_i64, wrap_u64, wrap_u8']
  rintro ⟨k, hk, hg⟩
  simp (disch := first | omega | (simp <;> omega) | fail) [wrap_i64, wrap_u64, wrap_u8']
  refine HT.seq ?_
  refine HT.region ?_   -- R2
  simp (disch := first | omega | (simp <;> omega) | fail) [wrap_i64, wrap_u64, wrap_u8']
  refine HT.seq ?_
  refine HT.cond' ?_   -- if 9
  simp (disch := first | omega | (simp <;> omega) | fail) [wrap_i64, wrap_u64, wrap_u8']
  refine ⟨fun h9 => ?_, fun h9 => ?_⟩
  · skip
    have hk' : k < l.length := by omega
    refine HT.skip ?_
    simp (disch := first | omega | (simp <;> omega) | fail) [wrap_i64, wrap_u64, wrap_u8']
    refine HT.seq ?_
    refine HT.block ?_
    refine HT.seq ?_
    refine HT.region ?_   -- R3
    simp (disch := first | omega | (simp <;> omega) | fail) [wrap_i64, wrap_u64, wrap_u8']
    refine HT.seq ?_
    refine HT.region ?_   -- R4
    simp (disch := first | omega | (simp <;> omega) | fail) [wrap_i64, wrap_u64, wrap_u8']
    refine HT.cond' ?_   -- if 16
    simp (disch := first | omega | (simp <;> omega) | fail) [wrap_i64, wrap_u64, wrap_u8']
    refine ⟨fun h16 => ?_, fun h16 => ?_⟩
    · skip
      refine HT.seq ?_
      refine HT.region ?_   -- R5
      simp (disch := first | omega | (simp <;> omega) | fail) [wrap_i64, wrap_u64, wrap_u8']
      refine HT.ret ?_
      have h1 : c ∈ l := h16 ▸ List.getElem_mem hk'
      have h2 : l.idxOf c = k := idxOf_first hk' h16.symm hg
      simp (disch := first | omega | (simp <;> omega) | fail) [wrap_i64, wrap_u64, wrap_u8', h1, h2]
    · skip
      refine HT.skip ?_
      simp (disch := first | omega | (simp <;> omega) | fail) [wrap_i64, wrap_u64, wrap_u8']
      refine HT.region ?_   -- R6
      simp (disch := first | omega | (simp <;> omega) | fail) [wrap_i64, wrap_u64, wrap_u8']
      refine Round.mk' (⟨k + 1, by omega, ne_next hg hk' (fun e => h16 e.symm)⟩) (by dsimp only; omega) rfl ?_
      simp (disch := first | omega | (simp <;> omega) | fail) [wrap_i64, wrap_u64, wrap_u8']
  · skip
    obtain rfl : k = l.length := by omega
    refine HT.exit ?_
    simp (disch := first | omega | (simp <;> omega) | fail) [wrap_i64, wrap_u64, wrap_u8']
    refine HT.seq ?_
    refine HT.region ?_   -- R7
    simp (disch := first | omega | (simp <;> omega) | fail) [wrap_i64, wrap_u64, wrap_u8']
    refine HT.ret ?_
    simp (disch := first | omega | (simp <;> omega) | fail) [wrap_i64, wrap_u64, wrap_u8', idx_ne hg]
theorem Contains_spec (f : Bool) (l : List Int) (c : Int) (hl : l.length ≤ 140737488355328) : Spec1 Tryz.prog 70 [.sl 1 f (intsHV l), i64 c] (bo (decide (c ∈ l))) := by
  refine Spec1.of_HT Tryz.func70 rfl (by rw [Tryz.ntmps70]; simp) rfl ?_
  rw [Tryz.ntmps70]
  refine HT.seq ?_
  refine HT.region ?_   -- R0
  simp (disch := first | omega | (simp <;> omega) | fail) [wrap_i64, wrap_u64, wrap_u8']
  refine HT.seq ?_
  refine HT.region ?_   -- R1
  simp (disch := first | omega | (simp <;> omega) | fail) [wrap_i64, wrap_u64, wrap_u8']
  refine stepK.mk (.call1 _ _ _ _ rfl Ty.hb106 rfl (Index_spec f l c hl) rfl rfl) ?_
  simp (disch := first | omega | (simp <;> omega) | fail) [wrap_i64, wrap_u64, wrap_u8']
  refine HT.ret ?_
  by_cases hc : c ∈ l
  · simp (disch := first | omega | (simp <;> omega) | fail) [wrap_i64, wrap_u64, wrap_u8', hc]
  · simp (disch := first | omega | (simp <;> omega) | fail) [wrap_i64, wrap_u64, wrap_u8', hc]
end Go.Hv
set_option linter.unusedVariables false
set_option linter.unusedSimpArgs false
namespace Go.Hv
open Go Go.Hv Go.Proofs
open Go.Proofs.YtlbmbnpknobjdaaGreatDoor
end Go.Hv
set_option linter.unusedVariables false
set_option linter.unusedSimpArgs false
namespace Go.Hv
open Go Go.Hv Go.Proofs
open Go.Proofs.YtlbmbnpknobjdaaGreatDoor
end Go.Hv
set_option linter.unusedVariables false
set_option linter.unusedSimpArgs false
namespace Go.Hv
open Go Go.Hv Go.Proofs
open Go.Proofs.YtlbmbnpknobjdaaGreatDoor
@[simp] theorem gramsHV_drop (l : List Gram) (n : Nat) : (gramsHV l).drop n = gramsHV (l.drop n) := by simp [gramsHV]
@[simp] theorem postsHV_drop (l : List Post) (n : Nat) : (postsHV l).drop n = postsHV (l.drop n) := by simp [postsHV]
@[simp] theorem gramsHV_tail1 (v : Gram) (y : List Gram) : (List.take (y.length + 1) (gramsHV (v :: y))).tail = gramsHV y := by simp [gramsHV, List.take_of_length_le]
@[simp] theorem postsHV_tail1 (v : Post) (y : List Post) : (List.take (y.length + 1) (postsHV (v :: y))).tail = postsHV y := by simp [postsHV, List.take_of_length_le]
end Go.Hv
set_option linter.unusedVariables false
set_option linter.unusedSimpArgs false
namespace Go.Hv
open Go Go.Hv Go.Proofs
open Go.Proofs.YtlbmbnpknobjdaaGreatDoor
theorem agreeX {α : Type} {a b : List α} {k : Nat} (hg : ∀ i, i < k → a[i]? = b[i]?) (h : a[k]? = b[k]?) : ∀ i, i < k + 1 → a[i]? = b[i]? := fun i hi => by
  by_cases e : i = k
  · subst e; exact h
  · exact hg i (by omega)
theorem extX {α : Type} {a b : List α} (hl : a.length = b.length) (hg : ∀ i, i < a.length → a[i]? = b[i]?) : a = b := by
  apply List.ext_getElem?
  intro i
  rcases Nat.lt_or_ge i a.length with h | h
  · exact hg i h
  · rw [List.getElem?_eq_none h, List.getElem?_eq_none (by omega)]
end Go.Hv
set_option linter.unusedVariables false
set_option linter.unusedSimpArgs false
namespace Go.Hv
open Go Go.Hv Go.Proofs
open Go.Proofs.YtlbmbnpknobjdaaGreatDoor
theorem gram_eqX {g h : Gram} (h1 : g.code = h.code) (h2 : g.off = h.off) : g = h := by cases g; cases h; simp_all
theorem pos_ne {α : Type} {l : List α} (h : 0 < l.length) : ¬ l = [] := fun e => by rw [e] at h; simp at h
theorem npos_eq {α : Type} {l : List α} (h : ¬ 0 < l.length) : l = [] := List.eq_nil_of_length_eq_zero (by omega)
end Go.Hv
set_option linter.unusedVariables false
set_option linter.unusedSimpArgs false
/- Stable order by a number, in plain lists: what merging in place by rotations gives. -/
namespace Go.Stab
variable {α : Type}
def Srt (key : α → Int) (l : List α) : Prop := l.Pairwise fun x y => key x ≤ key y
def Stb (key : α → Int) (a b : List α) : Prop := ∀ k : Int, a.filter (fun x => decide (key x = k)) = b.filter (fun x => decide (key x = k))
theorem Stb.refl (key : α → Int) (a : List α) : Stb key a a := fun _ => rfl
theorem Stb.symm {key : α → Int} {a b : List α} (h : Stb key a b) : Stb key b a := fun k => (h k).symm
theorem Stb.trans {key : α → Int} {a b c : List α} (h : Stb key a b) (g : Stb key b c) : Stb key a c := fun k => (h k).trans (g k)
theorem Stb.append {key : α → Int} {a b c d : List α} (h : Stb key a b) (g : Stb key c d) : Stb key (a ++ c) (b ++ d) := fun k => by
  rw [List.filter_append, List.filter_append, h k, g k]
theorem filter_none {key : α → Int} {k : Int} {l : List α} (h : ∀ x ∈ l, key x ≠ k) : l.filter (fun x => decide (key x = k)) = [] := by
  rw [List.filter_eq_nil_iff]; intro x hx; simpa using h x hx
theorem Stb.swap {key : α → Int} {a b : List α} (h : ∀ x ∈ a, ∀ y ∈ b, key x ≠ key y) : Stb key (a ++ b) (b ++ a) := fun k => by
  rw [List.filter_append, List.filter_append]
  by_cases ha : ∃ x ∈ a, key x = k
  · obtain ⟨x, hx, rfl⟩ := ha
    rw [filter_none (l := b) fun y hy e => h x hx y hy e.symm]; simp
  · rw [filter_none (l := a) fun x hx e => ha ⟨x, hx, e⟩]; simp
theorem Srt.append {key : α → Int} {a b : List α} : Srt key (a ++ b) ↔ Srt key a ∧ Srt key b ∧ ∀ x ∈ a, ∀ y ∈ b, key x ≤ key y := by
  unfold Srt; rw [List.pairwise_append]
def sw (l : List α) (i j : Nat) : List α := match l[i]?, l[j]? with
  | some x, some y => (l.set i y).set j x
  | _, _ => l
theorem Srt.sub {key : α → Int} {a b : List α} (h : Srt key b) (g : a.Sublist b) : Srt key a := h.sublist g
theorem Srt.le_of {key : α → Int} {l : List α} (h : Srt key l) {i j : Nat} {x y : α} (hij : i ≤ j) (hx : l[i]? = some x) (hy : l[j]? = some y) : key x ≤ key y := by
  obtain ⟨hi, rfl⟩ := List.getElem?_eq_some_iff.1 hx
  obtain ⟨hj, rfl⟩ := List.getElem?_eq_some_iff.1 hy
  rcases Nat.lt_or_ge i j with h' | h'
  · exact List.pairwise_iff_getElem.1 h i j hi hj h'
  · obtain rfl : i = j := by omega
    exact Int.le_refl _
end Go.Stab
set_option linter.unusedVariables false
set_option linter.unusedSectionVars false
set_option linter.unusedSimpArgs false
/- What a sort is handed besides its row: a comparison that reads the row through a box, and the exchange of two elements. -/
namespace Go.Hv
open Go Go.RowKit Go.Stab Go.Lib
variable {P : Program}
section
variable [GI]
theorem ORel.irep {w : World} {dead dead' : Nat → Prop} {γ : Nat → Value} {bl : Nat → Option Nat} {id e sz : Nat} {es : List (List HV)} (R : ORel w dead γ bl id (.row e sz es)) (hI : isILL es = true) (hd : ∀ b, bl id = some b → ¬ dead' b) (hdd : ∀ b, dead' b → dead b) :
    IRep w dead' (.sl sz false es) (γ id) := by
  obtain ⟨hz, hl, R⟩ := R
  rcases R with ⟨rfl, ⟨A, hA⟩, _⟩ | ⟨b', cap, C, fr, h1, h2, h3, h4, h5, h6, h7, h8, h9⟩
  · rw [hA]; exact .nil (fun h => by cases h) (fun _ => rfl)
  · rw [h1]
    have hcell : ∀ i j, i < es.length → j < sz → ∃ v, C[i * sz + j]? = some v := by
      intro i j hi hj
      have : i * sz + j < C.size := by
        rw [h7]
        have : (i + 1) * sz ≤ cap * sz := Nat.mul_le_mul_right _ (by omega)
        rw [Nat.add_mul, Nat.one_mul] at this
        omega
      exact ⟨C[i * sz + j], Array.getElem?_eq_getElem this⟩
    refine .sl (fun i j => C.getD (i * sz + j) undef) hl h5 (fun h => by cases h) (hd b' h2) (lt_of_get h3) (fun i j hi hj => ?_) (fun i j hi hj => ?_) (fun i j x c hx hc => ?_)
    · obtain ⟨v, hv⟩ := hcell i j hi hj
      simp [World.cell?, h3, hv, Array.getD_eq_getD_getElem?]
    · obtain ⟨v, hv⟩ := hcell i j hi hj
      show (C.getD (i * sz + j) undef).oneCell' = true
      simp only [Array.getD_eq_getD_getElem?, hv, Option.getD_some]
      exact h8 _ _ hv
    · obtain ⟨v, hv, hr⟩ := h9 i j x c hx hc
      show IRep w dead' c (C.getD (i * sz + j) undef)
      simp only [Array.getD_eq_getD_getElem?, hv, Option.getD_some]
      have hci : isI c = true := (isIL_iff _).1 (List.all_eq_true.1 hI x (List.mem_of_getElem? hx)) c (List.mem_of_getElem? hc)
      exact (hr.toI hci).mono (Nat.le_refl _) (fun _ _ _ => rfl) (fun b _ h => hdd b h)
theorem RowW.grow {w w' : World} {D : Nat → Prop} {V : Value} {ob : Option Nat} {e sz : Nat} {es : List (List HV)} (h : RowW w D V ob e sz es) (hs : w.heap.size ≤ w'.heap.size) (hw : ∀ b, b < w.heap.size → w'.heap[b]? = w.heap[b]?) : RowW w' D V ob e sz es := by
  obtain ⟨h1, h2, h3, h4⟩ := h
  refine ⟨h1, h2, fun b hb => ⟨(h3 b hb).1, Nat.lt_of_lt_of_le (h3 b hb).2 hs⟩, ?_⟩
  exact ORel.other hs (fun b h _ => hw b h) (fun _ _ h => h) rfl rfl (fun b _ h => hw b h) (fun h => h) (fun h v r => r.mono hs (fun b h _ => hw b h) (fun _ _ h => h)) (by simp [map_id_fun]) h4
theorem RowW.setElem {w : World} {D : Nat → Prop} {b n cap e sz : Nat} {es : List (List HV)} (h : RowW w D (.slice (some ⟨b, 0, none⟩) n cap) (some b) e sz es) {k : Nat} (hk : k < es.length) {xs : List HV} {vs : List Value} (hx : xs.length = sz) (hv : vs.length = sz)
    (hI : isIL xs = true) (h1 : ∀ v ∈ vs, v.oneCell' = true) (hr : ∀ (j : Nat) (c : HV) (v : Value), xs[j]? = some c → vs[j]? = some v → IRep w (fun x => D x ∨ b = x) c v) :
    RowW (w.setCells b (k * sz) vs) D (.slice (some ⟨b, 0, none⟩) n cap) (some b) e sz (es.set k xs) := by
  obtain ⟨g1, g2, g3, hz, hl, R⟩ := h
  refine ⟨g1, ?_, fun b' hb => ⟨(g3 b' hb).1, by rw [size_setCells]; exact (g3 b' hb).2⟩, hz, ?_, ?_⟩
  · exact isILL_set es k xs g2 hI
  · intro x hx'
    rcases List.mem_or_eq_of_mem_set hx' with h' | rfl
    · exact hl x h'
    · exact hx
  rcases R with ⟨rfl, _⟩ | ⟨b', cap', C, fr, k1, k2, k3, k4, k5, k6, k7, k8, k9⟩
  · simp at hk
  obtain rfl : b = b' := by
    have k2 : some b = some b' := k2
    exact Option.some.inj k2
  have k1 : Value.slice (some ⟨b, 0, none⟩) n cap = .slice (some ⟨b, 0, none⟩) es.length cap' := k1
  cases k1
  have hfit : k * sz + vs.length ≤ C.size := by
    rw [k7, hv]
    have : (k + 1) * sz ≤ cap * sz := Nat.mul_le_mul_right _ (by omega)
    rw [Nat.add_mul, Nat.one_mul] at this
    exact this
  obtain ⟨C', q1, q2, q3⟩ := heap_setCells b e fr vs (k * sz) w C k3
  have hmono : ∀ {c : HV} {v : Value}, IRep w (fun x => D x ∨ b = x) c v → IRep (w.setCells b (k * sz) vs) (fun x => D x ∨ some b = some x) c v := fun r =>
    r.mono (by rw [size_setCells]; exact Nat.le_refl _) (fun x _ hd => heap_setCells_other b vs (k * sz) w x (fun e => hd (.inr e.symm))) (fun x _ hd => hd.imp id fun e => Option.some.inj e)
  refine .inr ⟨b, cap, C', fr, by rw [List.length_set], rfl, q1, by rw [q2]; exact k4, by rw [List.length_set]; exact k5, k6, by rw [q2]; exact k7, fun j v hj => ?_, fun i j x c hxi hc => ?_⟩
  · rw [q3] at hj
    split at hj
    · exact h1 v (List.mem_of_getElem? hj)
    · exact k8 j v hj
  · have hI2 : isI c = true := by
      have := isILL_set es k xs g2 hI
      exact (isIL_iff _).1 (List.all_eq_true.1 this x (List.mem_of_getElem? hxi)) c (List.mem_of_getElem? hc)
    rw [List.getElem?_set] at hxi
    split at hxi
    · next hki =>
      subst hki
      cases hxi
      have hj := getElem?_lt hc
      have hvj : vs[j]? = some (vs[j]'(by omega)) := List.getElem?_eq_getElem (by omega)
      refine ⟨vs[j]'(by omega), ?_, .imm (hmono (hr j c _ hc hvj))⟩
      rw [q3, if_pos ⟨by omega, by omega, by omega⟩, show k * sz + j - k * sz = j by omega]
      exact hvj
    · next hki =>
      obtain ⟨v, hv', hr'⟩ := k9 i j x c hxi hc
      refine ⟨v, ?_, .imm (hmono ((hr'.toI hI2).mono (Nat.le_refl _) (fun _ _ _ => rfl) (fun x _ hd => hd.imp id fun e => by rw [e])))⟩
      have hj : j < sz := by rw [← hl x (List.mem_of_getElem? hxi)]; exact getElem?_lt hc
      rw [q3, if_neg]
      · exact hv'
      · rintro ⟨p1, p2, _⟩
        rw [hv] at p2
        apply hki
        rcases Nat.lt_trichotomy i k with h' | h' | h'
        · have := Nat.mul_le_mul_right sz (show i + 1 ≤ k from h')
          rw [Nat.add_mul, Nat.one_mul] at this
          omega
        · exact h'.symm
        · have := Nat.mul_le_mul_right sz (show k + 1 ≤ i from h')
          rw [Nat.add_mul, Nat.one_mul] at this
          omega
theorem RowW.elem {w : World} {D : Nat → Prop} {b n cap e sz : Nat} {es : List (List HV)} (h : RowW w D (.slice (some ⟨b, 0, none⟩) n cap) (some b) e sz es) {k : Nat} {x : List HV} (hk : es[k]? = some x) :
    n = es.length ∧ ∃ vs : List Value, vs.length = sz ∧ (∀ v ∈ vs, v.oneCell' = true) ∧ (∀ j v, vs[j]? = some v → w.cell? ⟨b, 0 + k * sz + j, none⟩ = some v) ∧ (∀ j, j < sz → w.frozen? ⟨b, 0 + k * sz + j, none⟩ = false) ∧
      (∀ (j : Nat) (c : HV) (v : Value), x[j]? = some c → vs[j]? = some v → IRep w (fun x => D x ∨ b = x) c v) := by
  obtain ⟨g1, g2, g3, hz, hl, R⟩ := h
  have hkl := getElem?_lt hk
  rcases R with ⟨rfl, _⟩ | ⟨b', cap', C, fr, k1, k2, k3, k4, k5, k6, k7, k8, k9⟩
  · simp at hkl
  obtain rfl : b = b' := by
    have k2 : some b = some b' := k2
    exact Option.some.inj k2
  have k1 : Value.slice (some ⟨b, 0, none⟩) n cap = .slice (some ⟨b, 0, none⟩) es.length cap' := k1
  cases k1
  have hlt : ∀ j, j < sz → k * sz + j < C.size := fun j hj => by
    rw [k7]
    have : (k + 1) * sz ≤ cap * sz := Nat.mul_le_mul_right _ (by omega)
    rw [Nat.add_mul, Nat.one_mul] at this
    omega
  refine ⟨rfl, (List.range sz).map fun j => C.getD (k * sz + j) undef, by simp, fun v hv => ?_, fun j v hj => ?_, fun j hj => ?_, fun j c v hc hv => ?_⟩
  · obtain ⟨j, hj, rfl⟩ := List.mem_map.1 hv
    have hj' := hlt j (List.mem_range.1 hj)
    rw [Array.getD_eq_getD_getElem?, Array.getElem?_eq_getElem hj']
    exact k8 _ _ (Array.getElem?_eq_getElem hj')
  · have hjs : j < sz := by have := getElem?_lt hj; simpa using this
    rw [List.getElem?_map, List.getElem?_range hjs] at hj
    simp only [Option.map_some, Option.some.injEq] at hj
    subst hj
    have hj' := hlt j hjs
    rw [Nat.zero_add]
    simp [World.cell?, k3, hj', Array.getD_eq_getD_getElem?]
  · rw [Nat.zero_add]
    simp only [World.frozen?, k3]
    have := k4 (k * sz + j) (hlt j hj)
    simpa using this
  · have hjs : j < sz := by have := getElem?_lt hv; simpa using this
    rw [List.getElem?_map, List.getElem?_range hjs] at hv
    simp only [Option.map_some, Option.some.injEq] at hv
    subst hv
    obtain ⟨v, hv, hr⟩ := k9 k j x c hk hc
    rw [Array.getD_eq_getD_getElem?, hv]
    have hI2 : isI c = true := (isIL_iff _).1 (List.all_eq_true.1 g2 x (List.mem_of_getElem? hk)) c (List.mem_of_getElem? hc)
    exact (hr.toI hI2).mono (Nat.le_refl _) (fun _ _ _ => rfl) (fun x _ hd => hd.imp id fun e => by rw [e])
theorem SpecX.swap {sf : Nat} (gS : Bool) (hx : ∀ args W, (callFunc sf args).run P W = ((Extern.ReflectliteSwapper.swap gS args).run P W).andThen fun v w' => .ok (.value v) w')
    {e sz b n cap : Nat} {ie : TypeInfo} (hie : P.info? e = some ie) (hs : ie.size = sz) (hagg : ∀ w, (isAgg e).run P w = .ok true w) {es : List (List HV)} {i j : Nat} (hi : i < es.length) (hj : j < es.length) :
    SpecX P sf #[.slice (some ⟨b, 0, none⟩) n cap, typeHandle P e] [i64 i, i64 j] (.slice (some ⟨b, 0, none⟩) n cap) (some b) e sz es (.lit (.tuple #[])) (sw es i j) := by
  intro D w us hD hG hW hus hrep
  have hu0 : us[0]? = some (.int .i64 i) := by
    have h := Array.getElem?_eq_getElem (show 0 < us.size by rw [hus]; simp)
    rw [h, (irep_lit (hrep 0 _ _ rfl h))]
  have hu1 : us[1]? = some (.int .i64 j) := by
    have h := Array.getElem?_eq_getElem (show 1 < us.size by rw [hus]; simp)
    rw [h, (irep_lit (hrep 1 _ _ rfl h))]
  obtain rfl : us = #[.int .i64 i, .int .i64 j] := by
    apply Array.ext_getElem?
    intro k
    match k with
    | 0 => rw [hu0]; rfl
    | 1 => rw [hu1]; rfl
    | k + 2 => rw [Array.getElem?_eq_none (by rw [hus]; simp), Array.getElem?_eq_none (by simp)]
  have ei : es[i]? = some es[i] := List.getElem?_eq_getElem hi
  have ej : es[j]? = some es[j] := List.getElem?_eq_getElem hj
  subst hs
  have hlen := hW.2.2.2.2.1
  have lxi : es[i].length = ie.size := hlen _ (List.getElem_mem hi)
  have lxj : es[j].length = ie.size := hlen _ (List.getElem_mem hj)
  obtain ⟨hn, X, lX, oX, cX, fX, rX⟩ := hW.elem ei
  obtain ⟨_, Y, lY, oY, cY, fY, rY⟩ := hW.elem ej
  have hI : isILL es = true := hW.2.1
  have hIi : isIL es[i] = true := List.all_eq_true.1 hI _ (List.getElem_mem hi)
  have hIj : isIL es[j] = true := List.all_eq_true.1 hI _ (List.getElem_mem hj)
  have hrun := run_swap_cells (P := P) gS e ie hie hagg b 0 n cap i j (by omega) (by omega) X Y lX lY oX oY w (fun k v h => cX k v h) (fun k v h => cY k v h) fX fY
  refine .inr ⟨.tuple #[], (w.setCells b (i * ie.size) Y).setCells b (j * ie.size) X, ?_, ?_, ?_, .lit _⟩
  · rw [hx, show (#[Value.int .i64 (i : Int), Value.int .i64 (j : Int)] ++ #[Value.slice (some ⟨b, 0, none⟩) n cap, typeHandle P e]) = #[.int .i64 i, .int .i64 j, .slice (some ⟨b, 0, none⟩) n cap, typeHandle P e] from rfl, hrun]
    simp only [Nat.zero_add, Result.andThen_ok]
  · have nF : ¬ (fun x => x < w.heap.size ∧ some b ≠ some x) b := fun h => h.2 rfl
    exact Kept.setCells nF X _ (Kept.setCells nF Y _ (Kept.refl _ _))
  · have h1 := hW.setElem hi lxj lY hIj oY rY
    have hm : ∀ {c : HV} {v : Value}, IRep w (fun x => D x ∨ b = x) c v → IRep (w.setCells b (i * ie.size) Y) (fun x => D x ∨ b = x) c v := fun r =>
      r.mono (by rw [size_setCells]; exact Nat.le_refl _) (fun x _ hd => heap_setCells_other b Y _ w x (fun e => hd (.inr e.symm))) (fun _ _ h => h)
    have h2 := h1.setElem (k := j) (by rw [List.length_set]; exact hj) lxi lX hIi oX (fun k c v hc hv => hm (rX k c v hc hv))
    unfold sw
    rw [ei, ej]
    exact h2
end
theorem SpecX.less {G0 : GI} {g e sz bB : Nat} {V : Value} {ob : Option Nat} {es : List (List HV)} {i j : Nat} {r : Bool} (hbody : hasBody P g = true) (hob : ob ≠ some bB) (hV : V.oneCell' = true)
    (h : @Spec1 G0 P g [i64 i, i64 j, .cptr [.sl sz false es]] (bo r)) :
    @SpecX (G0.box bB V) P g #[.pointer (some ⟨bB, 0, none⟩)] [i64 i, i64 j] V ob e sz es (bo r) es := by
  letI : GI := G0.box bB V
  intro D w us hD hG hW hus hrep
  refine .inl ⟨hbody, ?_⟩
  have hbl : bB < w.heap.size := (hG.sub bB (.inr rfl)).1
  have hcell : w.cell? ⟨bB, 0, none⟩ = some V := hG.g.2
  have hW' := hW
  obtain ⟨h1, h2, h3, h4⟩ := hW
  have hcall := h (fun b => D b ∧ b ≠ bB) w (us ++ #[.pointer (some ⟨bB, 0, none⟩)]) (fun b hb => hD b hb.1) hG.g.1 (by simp [hus]) (fun k c v hc hv => ?_)
  · refine hcall.mono ?_
    rintro x w' ⟨v, rfl, hB, hI⟩
    exact ⟨v, rfl, ⟨hB.os, hB.tape, hB.output, hB.size, fun b hb => hB.block b hb.1⟩, hW'.grow hB.size (fun b hb => hB.block b hb), hI.scal rfl⟩
  · have hk : k < 2 ∨ k = 2 := by
      have := getElem?_lt hc
      simp at this; omega
    rcases hk with hk | rfl
    · rw [Array.getElem?_append_left (by rw [hus]; exact hk)] at hv
      have hc' : ([i64 i, i64 j] : List HV)[k]? = some c := by
        match k, hk with
        | 0, _ => simpa using hc
        | 1, _ => simpa using hc
      exact (hrep k c v hc' hv).mono (Nat.le_refl _) (fun _ _ _ => rfl) (fun b _ hb => .inl hb.1)
    · rw [Array.getElem?_append_right (by rw [hus]; simp)] at hv
      have hv' : (#[Value.pointer (some ⟨bB, 0, none⟩)] : Array Value)[0]? = some v := by
        have : 2 - us.size = 0 := by rw [hus]; rfl
        rwa [this] at hv
      simp at hv' hc
      subst hv'; subst hc
      have hcr := ORel.irep h4 h2 (dead' := fun b => D b ∧ b ≠ bB) (fun b hb hd => (h3 b hb).1 hd.1) (fun b hd => .inl hd.1)
      refine .cptr (fun _ => V) (fun hd => hd.2 rfl) hbl (fun k hk => ?_) (fun k hk => hV) (fun k c hc => ?_)
      · obtain rfl : k = 0 := by simpa using hk
        exact hcell
      · obtain rfl : k = 0 := by have := getElem?_lt hc; simpa using this
        simp at hc
        subst hc
        exact hcr
end Go.Hv
set_option linter.unusedVariables false
set_option linter.unusedSectionVars false
set_option linter.unusedSimpArgs false
/- What a sort of the library leans on; the lists that come and go while it works. -/
namespace Go.Hv
open Go Go.RowKit Go.Stab
variable [GI]
@[simp] theorem oneCell_func (f : Fn) (a b : Array Value) : (Value.func f a b).oneCell' = true := rfl
@[simp] theorem isI_fnlit (v : Value) : isI (.lit v) = true := rfl
def mapE {α : Type} (enc : α → List HV) (l : List α) : List (List HV) := l.map enc
structure SortCtx {α : Type} (P : Program) (enc : α → List HV) (key : α → Int) (V : Value) (ob : Option Nat) (e sz : Nat) (g sf : Nat) (lb sb : Array Value) (N : Nat) : Prop where
  less : ∀ (l : List α) (i' j' : Nat) (i j : Int) (x y : α), l.length = N → i = i' → j = j' → l[i']? = some x → l[j']? = some y → SpecX P g lb [i64 i, i64 j] V ob e sz (mapE enc l) (bo (decide (key x < key y))) (mapE enc l)
  swap : ∀ (l : List α) (i' j' : Nat) (i j : Int), l.length = N → i = i' → j = j' → i' < l.length → j' < l.length → i' ≠ j' → SpecX P sf sb [i64 i, i64 j] V ob e sz (mapE enc l) (.lit (.tuple #[])) (mapE enc (sw l i' j'))
  il : ∀ l : List α, isILL (mapE enc l) = true
  hN : N ≤ 1000000
@[simp] def fnv (g : Nat) (lb : Array Value) : HV := .lit (.func (.func g) #[] lb)
end Go.Hv
namespace Go.Stab
variable {α : Type}
end Go.Stab
namespace Go.Stab
variable {α : Type}
end Go.Stab
namespace Go.Stab
variable {α : Type}
end Go.Stab
namespace Go.Stab
variable {α : Type}
end Go.Stab
namespace Go.Stab
end Go.Stab
set_option linter.unusedVariables false
set_option linter.unusedSectionVars false
set_option linter.unusedSimpArgs false
/- What the library asks of a slice in an interface value, over a pinned row. -/
namespace Go.Hv
open Go Go.RowKit Go.Stab Go.Lib
variable [GI]
variable {P : Program}
end Go.Hv
set_option linter.unusedVariables false
set_option linter.unusedSectionVars false
set_option linter.unusedSimpArgs false
/- A scope without a jump, and a label. -/
namespace Go.Hv
open Go Go.RowKit
variable [GI]
variable {P : Program} {σ : HS}
def Exit.scopeH (Q : Exit → HS → Prop) : Exit → HS → Prop
  | .goto _, _ => False
  | e, σ => Q e σ
@[simp] theorem scopeH_normal (Q : Exit → HS → Prop) (σ : HS) : Exit.scopeH Q .normal σ = Q .normal σ := rfl
@[simp] theorem scopeH_ret (Q : Exit → HS → Prop) (σ : HS) : Exit.scopeH Q .ret σ = Q .ret σ := rfl
@[simp] theorem scopeH_exit (Q : Exit → HS → Prop) (i : Nat) (σ : HS) : Exit.scopeH Q (.exit i) σ = Q (.exit i) σ := rfl
theorem HT.scope {c : Code} {Q : Exit → HS → Prop} (h : HT P c σ (Exit.scopeH Q)) : HT P (.scope c) σ Q := by
  intro D F a w γ bl S
  refine wp_scope_straight (Code.wp_mono ?_ (h D F a w γ bl S))
  rintro e a' w' ⟨σ', q, r⟩
  cases e <;> first | exact ⟨σ', q, r⟩ | exact q.elim
theorem HT.label {l : Nat} {Q : Exit → HS → Prop} (h : Q .normal σ) : HT P (.label l) σ Q := by
  intro D F a w γ bl S
  exact wp_label ⟨σ, h, Kept.refl _ _, γ, bl, S⟩
end Go.Hv
set_option linter.unusedVariables false
set_option linter.unusedSimpArgs false
namespace Go.Hv
open Go Go.Hv Go.Proofs Go.RowKit
open Go.Proofs.YtlbmbnpknobjdaaGreatDoor
theorem splitK_ne {c : UInt8} (hc : c ≠ 47) : ∀ (k : Nat) (s : List UInt8), Lib.splitK [47] 0 k (c :: s) = match Lib.splitK [47] 0 k s with | [] => [[c]] | p :: r => (c :: p) :: r
  | 0, s => by simp [Lib.splitK]
  | k + 1, s => by
    have hp : List.isPrefixOf [47] (c :: s) = false := by simp [List.isPrefixOf]; exact fun h => hc h.symm
    have hi : Lib.index (c :: s) [47] = if Lib.index s [47] == -1 then -1 else Lib.index s [47] + 1 := by
      rw [Lib.index, hp]; rfl
    have hge := Lib.index_ge s [47]
    unfold Lib.splitK
    rw [hi]
    by_cases h : (Lib.index s [47] == -1) = true
    · simp [h]
    · have h' : Lib.index s [47] ≠ -1 := by simpa using h
      obtain ⟨i, hi⟩ : ∃ i : Nat, Lib.index s [47] = i := ⟨(Lib.index s [47]).toNat, by omega⟩
      rw [hi]
      have h1 : (((i : Int) == -1) = true) = False := by simp
      have h2 : ((((if ((i : Int) == -1) = true then (-1 : Int) else (i : Int) + 1)) == -1) = true) = False := by
        rw [if_neg (by rw [h1]; exact id)]; simp; omega
      simp only [h1, h2, if_false, if_neg (show ¬ False from id)]
      have e : ((i : Int) + 1).toNat = i + 1 := by omega
      simp [e]
      intro h; omega
theorem split_parts : ∀ (s : List UInt8), Lib.splitK [47] 0 (Lib.count s [47]) s = partsV s
  | [] => by simp [Lib.count_one, Lib.splitK, partsV]
  | c :: s => by
    by_cases hc : c = 47
    · subst hc
      rw [Lib.count_cons_eq, Nat.add_comm, Lib.splitK, partsV, if_pos rfl]
      have hi : Lib.index (47 :: s) [47] = 0 := by simp [Lib.index, List.isPrefixOf]
      rw [hi]
      simp [split_parts s]
    · rw [Lib.count_cons_ne _ _ _ hc, splitK_ne hc, split_parts s, partsV, if_neg hc]
      all_goals (cases partsV s <;> rfl)
theorem letterV_eq (c : UInt8) : letterV c = decide (97 ≤ (c.toNat : Int) ∧ (c.toNat : Int) ≤ 122 ∨ 65 ≤ (c.toNat : Int) ∧ (c.toNat : Int) ≤ 90 ∨ 48 ≤ (c.toNat : Int) ∧ (c.toNat : Int) ≤ 57 ∨ (c.toNat : Int) = 46 ∨ (c.toNat : Int) = 95 ∨ (c.toNat : Int) = 45) := by
  have h : ∀ n : Fin 256, letterV (UInt8.ofFin n) = decide (97 ≤ ((UInt8.ofFin n).toNat : Int) ∧ ((UInt8.ofFin n).toNat : Int) ≤ 122 ∨ 65 ≤ ((UInt8.ofFin n).toNat : Int) ∧ ((UInt8.ofFin n).toNat : Int) ≤ 90 ∨ 48 ≤ ((UInt8.ofFin n).toNat : Int) ∧ ((UInt8.ofFin n).toNat : Int) ≤ 57 ∨ ((UInt8.ofFin n).toNat : Int) = 46 ∨ ((UInt8.ofFin n).toNat : Int) = 95 ∨ ((UInt8.ofFin n).toNat : Int) = 45) := by decide +kernel
  exact h c.toFin
theorem textB_eq (c : UInt8) : textB c = decide ((c.toNat : Int) = 9 ∨ (c.toNat : Int) = 10 ∨ 32 ≤ (c.toNat : Int) ∧ (c.toNat : Int) ≤ 126) := by
  have h : ∀ n : Fin 256, textB (UInt8.ofFin n) = decide (((UInt8.ofFin n).toNat : Int) = 9 ∨ ((UInt8.ofFin n).toNat : Int) = 10 ∨ 32 ≤ ((UInt8.ofFin n).toNat : Int) ∧ ((UInt8.ofFin n).toNat : Int) ≤ 126) := by decide +kernel
  exact h c.toFin
theorem countB_ofL (s : List UInt8) : Lib.countB ⟨s.toArray⟩ ⟨#[47]⟩ = Lib.count s [47] := rfl
theorem Split_spec (s : List UInt8) (hs : s.length ≤ 1000) : Spec1 Tryz.prog 131 [.str s, .str [47]] (.sl 1 false (strsHV (partsV s))) := by
  intro D w vs hD hG hn hrep
  have h0 := Array.getElem?_eq_getElem (show 0 < vs.size by rw [hn]; simp)
  have h1 := Array.getElem?_eq_getElem (show 1 < vs.size by rw [hn]; simp)
  have r0 := irep_str (hrep 0 _ _ rfl h0)
  have r1 := irep_str (hrep 1 _ _ rfl h1)
  have hv : vs = #[.string ⟨s.toArray⟩, .string ⟨#[47]⟩] := by
    rw [r0] at h0; rw [r1] at h1
    apply Array.ext_getElem?
    intro i
    match i with
    | 0 => rw [h0]; rfl
    | 1 => rw [h1]; rfl
    | i + 2 => rw [Array.getElem?_eq_none (by rw [hn]; simp), Array.getElem?_eq_none (by simp)]
  subst hv
  obtain ⟨m, hm⟩ := hG
  refine (Tryz.strings_Split ⟨s.toArray⟩ ⟨#[47]⟩ m w (by show s.length < _; omega) hm (by decide)).mono fun e w' ⟨h1, h2⟩ => ?_
  subst h1; subst h2
  generalize hN : Lib.countB ⟨s.toArray⟩ ⟨#[47]⟩ = N
  have hpm : (Lib.splitB ⟨#[47]⟩ 0 N ⟨s.toArray⟩).map (·.data.toList) = partsV s := by
    rw [Lib.splitB_data, ← hN, countB_ofL]; exact split_parts s
  have hlen : (Lib.splitB ⟨#[47]⟩ 0 N ⟨s.toArray⟩).length = N + 1 := Lib.splitB_all _ (by decide) 0 N _ hN
  generalize hL : Lib.splitB ⟨#[47]⟩ 0 N ⟨s.toArray⟩ = L at hpm hlen
  have hpl : (strsHV (partsV s)).length = N + 1 := by rw [strsHV_length, ← hpm, List.length_map, hlen]
  refine ⟨_, rfl, Kept.alloc (Kept.refl _ _) (fun b hb => hb) _, ?_⟩
  rw [← hpl]
  refine IRep.sl (fun i _ => Value.string (L.getD i ByteArray.empty)) (fun e he => ?_) (Nat.le_refl _) (fun h => rfl) (fun h => absurd (hD _ h) (Nat.lt_irrefl _)) ?_ (fun i j hi hj => ?_) (fun i j hi hj => rfl) (fun i j e c he hc => ?_)
  · obtain ⟨a, _, rfl⟩ := strsHV_mem he; rfl
  · simp
  · have hi' : i < L.length := by omega
    have hj0 : j = 0 := by omega
    subst hj0
    have ea : ∀ o, (w.alloc o).heap[w.heap.size]? = some o := fun o => by unfold World.alloc; simp
    show (w.alloc _).cell? _ = _
    unfold World.cell?
    simp only [ea]
    simp [hi', List.getD_eq_getElem?_getD]
  · unfold strsHV at he
    rw [← hpm, List.map_map, List.getElem?_map] at he
    cases hg : L[i]? with
    | none => rw [hg] at he; cases he
    | some b =>
      rw [hg] at he
      obtain rfl := (Option.some.inj he).symm
      match j with
      | 0 =>
        obtain rfl := (Option.some.inj hc).symm
        rw [List.getD_eq_getElem?_getD, hg]
        exact irep_string _ _ b
      | j + 1 => simp at hc
set_option maxRecDepth 20000 in
set_option maxHeartbeats 2000000 in
theorem letter_spec (c : UInt8) : Spec1 Tryz.prog 132 [u8 c] (bo (letterV c)) := by
  refine Spec1.of_HT Tryz.func132 rfl (by rw [Tryz.ntmps132]; simp) rfl ?_
  rw [Tryz.ntmps132]
  refine HT.seq ?_
  refine HT.region ?_   -- R0
  simp (disch := first | omega | (simp <;> omega) | fail) [wrap_i64, wrap_u64, wrap_u8']
  refine HT.seq ?_
  by_cases b1 : (c.toNat : Int) = 95
  · skip
    refine HT.region ?_   -- R1
    simp (disch := first | omega | (simp <;> omega) | fail) [wrap_i64, wrap_u64, wrap_u8']
    refine HT.ret ?_
    first | (have hx : letterV c = true := (by rw [letterV_eq]; exact decide_eq_true (by omega)); simp (disch := first | omega | (simp <;> omega) | fail) [wrap_i64, wrap_u64, wrap_u8', hx]; done) | (have hx : letterV c = false := (by rw [letterV_eq]; exact decide_eq_false (by omega)); simp (disch := first | omega | (simp <;> omega) | fail) [wrap_i64, wrap_u64, wrap_u8', hx]; done)
  by_cases a1 : 122 < (c.toNat : Int)
  · skip
    refine HT.region ?_   -- R1
    simp (disch := first | omega | (simp <;> omega) | fail) [wrap_i64, wrap_u64, wrap_u8']
    refine HT.ret ?_
    first | (have hx : letterV c = true := (by rw [letterV_eq]; exact decide_eq_true (by omega)); simp (disch := first | omega | (simp <;> omega) | fail) [wrap_i64, wrap_u64, wrap_u8', hx]; done) | (have hx : letterV c = false := (by rw [letterV_eq]; exact decide_eq_false (by omega)); simp (disch := first | omega | (simp <;> omega) | fail) [wrap_i64, wrap_u64, wrap_u8', hx]; done)
  by_cases a2 : 97 ≤ (c.toNat : Int)
  · skip
    refine HT.region ?_   -- R1
    simp (disch := first | omega | (simp <;> omega) | fail) [wrap_i64, wrap_u64, wrap_u8']
    refine HT.ret ?_
    first | (have hx : letterV c = true := (by rw [letterV_eq]; exact decide_eq_true (by omega)); simp (disch := first | omega | (simp <;> omega) | fail) [wrap_i64, wrap_u64, wrap_u8', hx]; done) | (have hx : letterV c = false := (by rw [letterV_eq]; exact decide_eq_false (by omega)); simp (disch := first | omega | (simp <;> omega) | fail) [wrap_i64, wrap_u64, wrap_u8', hx]; done)
  by_cases a3 : 90 < (c.toNat : Int)
  · skip
    refine HT.region ?_   -- R1
    simp (disch := first | omega | (simp <;> omega) | fail) [wrap_i64, wrap_u64, wrap_u8']
    refine HT.ret ?_
    first | (have hx : letterV c = true := (by rw [letterV_eq]; exact decide_eq_true (by omega)); simp (disch := first | omega | (simp <;> omega) | fail) [wrap_i64, wrap_u64, wrap_u8', hx]; done) | (have hx : letterV c = false := (by rw [letterV_eq]; exact decide_eq_false (by omega)); simp (disch := first | omega | (simp <;> omega) | fail) [wrap_i64, wrap_u64, wrap_u8', hx]; done)
  by_cases a4 : 65 ≤ (c.toNat : Int)
  · skip
    refine HT.region ?_   -- R1
    simp (disch := first | omega | (simp <;> omega) | fail) [wrap_i64, wrap_u64, wrap_u8']
    refine HT.ret ?_
    first | (have hx : letterV c = true := (by rw [letterV_eq]; exact decide_eq_true (by omega)); simp (disch := first | omega | (simp <;> omega) | fail) [wrap_i64, wrap_u64, wrap_u8', hx]; done) | (have hx : letterV c = false := (by rw [letterV_eq]; exact decide_eq_false (by omega)); simp (disch := first | omega | (simp <;> omega) | fail) [wrap_i64, wrap_u64, wrap_u8', hx]; done)
  by_cases a5 : 57 < (c.toNat : Int)
  · skip
    refine HT.region ?_   -- R1
    simp (disch := first | omega | (simp <;> omega) | fail) [wrap_i64, wrap_u64, wrap_u8']
    refine HT.ret ?_
    first | (have hx : letterV c = true := (by rw [letterV_eq]; exact decide_eq_true (by omega)); simp (disch := first | omega | (simp <;> omega) | fail) [wrap_i64, wrap_u64, wrap_u8', hx]; done) | (have hx : letterV c = false := (by rw [letterV_eq]; exact decide_eq_false (by omega)); simp (disch := first | omega | (simp <;> omega) | fail) [wrap_i64, wrap_u64, wrap_u8', hx]; done)
  by_cases a6 : 48 ≤ (c.toNat : Int)
  · skip
    refine HT.region ?_   -- R1
    simp (disch := first | omega | (simp <;> omega) | fail) [wrap_i64, wrap_u64, wrap_u8']
    refine HT.ret ?_
    first | (have hx : letterV c = true := (by rw [letterV_eq]; exact decide_eq_true (by omega)); simp (disch := first | omega | (simp <;> omega) | fail) [wrap_i64, wrap_u64, wrap_u8', hx]; done) | (have hx : letterV c = false := (by rw [letterV_eq]; exact decide_eq_false (by omega)); simp (disch := first | omega | (simp <;> omega) | fail) [wrap_i64, wrap_u64, wrap_u8', hx]; done)
  by_cases b2 : (c.toNat : Int) = 46
  · skip
    refine HT.region ?_   -- R1
    simp (disch := first | omega | (simp <;> omega) | fail) [wrap_i64, wrap_u64, wrap_u8']
    refine HT.ret ?_
    first | (have hx : letterV c = true := (by rw [letterV_eq]; exact decide_eq_true (by omega)); simp (disch := first | omega | (simp <;> omega) | fail) [wrap_i64, wrap_u64, wrap_u8', hx]; done) | (have hx : letterV c = false := (by rw [letterV_eq]; exact decide_eq_false (by omega)); simp (disch := first | omega | (simp <;> omega) | fail) [wrap_i64, wrap_u64, wrap_u8', hx]; done)
  by_cases b3 : (c.toNat : Int) = 45
  · skip
    refine HT.region ?_   -- R1
    simp (disch := first | omega | (simp <;> omega) | fail) [wrap_i64, wrap_u64, wrap_u8']
    refine HT.ret ?_
    first | (have hx : letterV c = true := (by rw [letterV_eq]; exact decide_eq_true (by omega)); simp (disch := first | omega | (simp <;> omega) | fail) [wrap_i64, wrap_u64, wrap_u8', hx]; done) | (have hx : letterV c = false := (by rw [letterV_eq]; exact decide_eq_false (by omega)); simp (disch := first | omega | (simp <;> omega) | fail) [wrap_i64, wrap_u64, wrap_u8', hx]; done)
  refine HT.region ?_   -- R1
  simp (disch := first | omega | (simp <;> omega) | fail) [wrap_i64, wrap_u64, wrap_u8']
  refine HT.ret ?_
  first | (have hx : letterV c = true := (by rw [letterV_eq]; exact decide_eq_true (by omega)); simp (disch := first | omega | (simp <;> omega) | fail) [wrap_i64, wrap_u64, wrap_u8', hx]; done) | (have hx : letterV c = false := (by rw [letterV_eq]; exact decide_eq_false (by omega)); simp (disch := first | omega | (simp <;> omega) | fail) [wrap_i64, wrap_u64, wrap_u8', hx]; done)
end Go.Hv
set_option linter.unusedVariables false
set_option linter.unusedSimpArgs false
namespace Go.Hv
open Go Go.Hv Go.Proofs Go.RowKit
open Go.Proofs.YtlbmbnpknobjdaaGreatDoor
theorem indexByte_mem (c : UInt8) : ∀ l : List UInt8, 0 ≤ Lib.indexByte l c ↔ c ∈ l
  | [] => by simp [Lib.indexByte]
  | b :: l => by
    have ih := indexByte_mem c l
    have hge := Lib.indexByte_ge l c
    unfold Lib.indexByte
    by_cases h : (b == c) = true
    · have : b = c := by simpa using h
      simp [h, this]
    · have hb : b ≠ c := by simpa using h
      rw [if_neg h, List.mem_cons, ← ih]
      by_cases h2 : (Lib.indexByte l c == -1) = true
      · have : Lib.indexByte l c = -1 := by simpa using h2
        rw [if_pos h2, this]
        constructor
        · intro h; omega
        · rintro (h | h)
          · exact absurd h.symm hb
          · omega
      · have : Lib.indexByte l c ≠ -1 := by simpa using h2
        rw [if_neg h2]
        constructor
        · intro _; right; omega
        · intro _; omega
theorem ContainsS_spec (s : List UInt8) : Spec1 Tryz.prog 130 [.str s, .str [47]] (bo (decide (47 ∈ s))) := by
  intro D w vs hD hG hn hrep
  have h0 := Array.getElem?_eq_getElem (show 0 < vs.size by rw [hn]; simp)
  have h1 := Array.getElem?_eq_getElem (show 1 < vs.size by rw [hn]; simp)
  have r0 := irep_str (hrep 0 _ _ rfl h0)
  have r1 := irep_str (hrep 1 _ _ rfl h1)
  have hv : vs = #[.string ⟨s.toArray⟩, .string ⟨#[47]⟩] := by
    rw [r0] at h0; rw [r1] at h1
    apply Array.ext_getElem?
    intro i
    match i with
    | 0 => rw [h0]; rfl
    | 1 => rw [h1]; rfl
    | i + 2 => rw [Array.getElem?_eq_none (by rw [hn]; simp), Array.getElem?_eq_none (by simp)]
  subst hv
  refine (Tryz.strings_Contains_one ⟨s.toArray⟩ 47 w).mono fun e w' ⟨h1, h2⟩ => ?_
  subst h1; subst h2
  refine ⟨_, rfl, Kept.refl _ _, ?_⟩
  have : decide (0 ≤ Lib.indexByte s 47) = decide (47 ∈ s) := decide_eq_decide.2 (indexByte_mem 47 s)
  show IRep _ _ _ (.bool (decide (0 ≤ Lib.indexByte s 47)))
  rw [this]
  exact .lit _
def UpTo {α : Type} (q : α → Bool) (l : List α) (k : Nat) : Prop := ∀ i x, i < k → l[i]? = some x → q x = true
theorem UpTo.zero {α : Type} (q : α → Bool) (l : List α) : UpTo q l 0 := fun i x h => absurd h (Nat.not_lt_zero _)
theorem UpTo.succ {α : Type} {q : α → Bool} {l : List α} {k : Nat} (h : UpTo q l k) (hk : k < l.length) (hq : q l[k] = true) : UpTo q l (k + 1) := fun i x hi hx => by
  by_cases e : i = k
  · subst e; rw [List.getElem?_eq_getElem hk] at hx; cases hx; exact hq
  · exact h i x (by omega) hx
theorem UpTo.all {α : Type} {q : α → Bool} {l : List α} (h : UpTo q l l.length) : l.all q = true := by
  rw [List.all_eq_true]
  intro x hx
  obtain ⟨i, hi⟩ := List.mem_iff_getElem?.1 hx
  exact h i x (getElem?_lt hi) hi
theorem all_not {α : Type} {q : α → Bool} {l : List α} {k : Nat} (hk : k < l.length) (hq : q l[k] = false) : l.all q = false := by
  rw [List.all_eq_false]
  exact ⟨l[k], List.getElem_mem hk, by rw [hq]; simp⟩
theorem textV_long {s : List UInt8} (h : 2000 < s.length) : textV s = false := by unfold textV; rw [decide_eq_false (by omega)]; rfl
theorem textV_all {s : List UInt8} (h : s.length ≤ 2000) : textV s = s.all textB := by unfold textV; rw [decide_eq_true h]; simp
set_option maxRecDepth 20000 in
set_option maxHeartbeats 2000000 in
theorem Valid_spec (s : List UInt8) (hs : s.length ≤ 140737488355328) : Spec1 Tryz.prog 109 [.str s] (bo (textV s)) := by
  refine Spec1.of_HT Tryz.func109 rfl (by rw [Tryz.ntmps109]; simp) rfl ?_
  rw [Tryz.ntmps109]
  refine HT.seq ?_
  refine HT.region ?_   -- R0
  simp (disch := first | omega | (simp <;> omega) | fail) [wrap_i64, wrap_u64, wrap_u8']
  refine HT.seq ?_
  refine HT.seq ?_
  refine HT.region ?_   -- R1
  simp (disch := first | omega | (simp <;> omega) | fail) [wrap_i64, wrap_u64, wrap_u8']
  refine HT.cond' ?_   -- if 6
  simp (disch := first | omega | (simp <;> omega) | fail) [wrap_i64, wrap_u64, wrap_u8']
  refine ⟨fun h6 => ?_, fun h6 => ?_⟩
  · skip
    have hx := textV_long (show 2000 < s.length by omega)
    refine HT.seq ?_
    refine HT.region ?_   -- R2
    simp (disch := first | omega | (simp <;> omega) | fail) [wrap_i64, wrap_u64, wrap_u8']
    refine HT.ret ?_
    simp (disch := first | omega | (simp <;> omega) | fail) [wrap_i64, wrap_u64, wrap_u8', hx]
  · skip
    have hl : s.length ≤ 2000 := by omega
    have hx := textV_all hl
    refine HT.skip ?_
    simp (disch := first | omega | (simp <;> omega) | fail) [wrap_i64, wrap_u64, wrap_u8']
    refine HT.seq ?_
    refine HT.seq ?_
    refine HT.region ?_   -- R3
    simp (disch := first | omega | (simp <;> omega) | fail) [wrap_i64, wrap_u64, wrap_u8']
    refine HT.block ?_
    refine HT.loopK (fun k : {k : Nat // k ≤ s.length ∧ UpTo textB s k} => [.s 9 (i64 k)]) [0, 8] [] (fun k => s.length - k) (⟨0, by omega, UpTo.zero _ _⟩) ?_ ?_   -- block 0 turned [9, 17, 18, 19, 20, 23, 24, 25, 26, 27, 28, 29, 30, 31, 32]
    · simp (disch := first | omega | (simp <;> omega) | fail) [wrap_i64, wrap_u64, wrap_u8']
    rintro ⟨k, hk, hg⟩
    simp (disch := first | omega | (simp <;> omega) | fail) [wrap_i64, wrap_u64, wrap_u8']
    refine HT.seq ?_
    refine HT.region ?_   -- R4
    simp (disch := first | omega | (simp <;> omega) | fail) [wrap_i64, wrap_u64, wrap_u8']
    refine HT.seq ?_
    refine HT.cond' ?_   -- if 10
    simp (disch := first | omega | (simp <;> omega) | fail) [wrap_i64, wrap_u64, wrap_u8']
    refine ⟨fun h10 => ?_, fun h10 => ?_⟩
    · skip
      have hk' : k < s.length := by omega
      refine HT.skip ?_
      simp (disch := first | omega | (simp <;> omega) | fail) [wrap_i64, wrap_u64, wrap_u8']
      refine HT.seq ?_
      refine HT.block ?_
      refine HT.seq ?_
      refine HT.region ?_   -- R5
      simp (disch := first | omega | (simp <;> omega) | fail) [wrap_i64, wrap_u64, wrap_u8']
      refine HT.seq ?_
      by_cases a1 : (s[k].toNat : Int) = 9
      · skip
        refine HT.region ?_   -- R6
        simp (disch := first | omega | (simp <;> omega) | fail) [wrap_i64, wrap_u64, wrap_u8']
        refine HT.cond' ?_   -- if 33
        simp (disch := first | omega | (simp <;> omega) | fail) [wrap_i64, wrap_u64, wrap_u8']
        refine HT.skip ?_
        simp (disch := first | omega | (simp <;> omega) | fail) [wrap_i64, wrap_u64, wrap_u8']
        refine HT.region ?_   -- R8
        simp (disch := first | omega | (simp <;> omega) | fail) [wrap_i64, wrap_u64, wrap_u8']
        refine Round.mk' (⟨k + 1, by omega, hg.succ hk' (by rw [textB_eq]; exact decide_eq_true (by omega))⟩) (by dsimp only; omega) rfl ?_
        simp (disch := first | omega | (simp <;> omega) | fail) [wrap_i64, wrap_u64, wrap_u8']
      by_cases a2 : (s[k].toNat : Int) = 10
      · skip
        refine HT.region ?_   -- R6
        simp (disch := first | omega | (simp <;> omega) | fail) [wrap_i64, wrap_u64, wrap_u8']
        refine HT.cond' ?_   -- if 33
        simp (disch := first | omega | (simp <;> omega) | fail) [wrap_i64, wrap_u64, wrap_u8']
        refine HT.skip ?_
        simp (disch := first | omega | (simp <;> omega) | fail) [wrap_i64, wrap_u64, wrap_u8']
        refine HT.region ?_   -- R8
        simp (disch := first | omega | (simp <;> omega) | fail) [wrap_i64, wrap_u64, wrap_u8']
        refine Round.mk' (⟨k + 1, by omega, hg.succ hk' (by rw [textB_eq]; exact decide_eq_true (by omega))⟩) (by dsimp only; omega) rfl ?_
        simp (disch := first | omega | (simp <;> omega) | fail) [wrap_i64, wrap_u64, wrap_u8']
      by_cases a3 : (s[k].toNat : Int) < 32
      · skip
        refine HT.region ?_   -- R6
        simp (disch := first | omega | (simp <;> omega) | fail) [wrap_i64, wrap_u64, wrap_u8']
        refine HT.cond' ?_   -- if 33
        simp (disch := first | omega | (simp <;> omega) | fail) [wrap_i64, wrap_u64, wrap_u8']
        refine HT.seq ?_
        refine HT.region ?_   -- R7
        simp (disch := first | omega | (simp <;> omega) | fail) [wrap_i64, wrap_u64, wrap_u8']
        refine HT.ret ?_
        have hx2 := all_not (q := textB) hk' (by rw [textB_eq]; exact decide_eq_false (by omega))
        simp (disch := first | omega | (simp <;> omega) | fail) [wrap_i64, wrap_u64, wrap_u8', hx, hx2]
      by_cases a4 : 126 < (s[k].toNat : Int)
      · skip
        refine HT.region ?_   -- R6
        simp (disch := first | omega | (simp <;> omega) | fail) [wrap_i64, wrap_u64, wrap_u8']
        refine HT.cond' ?_   -- if 33
        simp (disch := first | omega | (simp <;> omega) | fail) [wrap_i64, wrap_u64, wrap_u8']
        refine HT.seq ?_
        refine HT.region ?_   -- R7
        simp (disch := first | omega | (simp <;> omega) | fail) [wrap_i64, wrap_u64, wrap_u8']
        refine HT.ret ?_
        have hx2 := all_not (q := textB) hk' (by rw [textB_eq]; exact decide_eq_false (by omega))
        simp (disch := first | omega | (simp <;> omega) | fail) [wrap_i64, wrap_u64, wrap_u8', hx, hx2]
      refine HT.region ?_   -- R6
      simp (disch := first | omega | (simp <;> omega) | fail) [wrap_i64, wrap_u64, wrap_u8']
      refine HT.cond' ?_   -- if 33
      simp (disch := first | omega | (simp <;> omega) | fail) [wrap_i64, wrap_u64, wrap_u8']
      refine HT.skip ?_
      simp (disch := first | omega | (simp <;> omega) | fail) [wrap_i64, wrap_u64, wrap_u8']
      refine HT.region ?_   -- R8
      simp (disch := first | omega | (simp <;> omega) | fail) [wrap_i64, wrap_u64, wrap_u8']
      refine Round.mk' (⟨k + 1, by omega, hg.succ hk' (by rw [textB_eq]; exact decide_eq_true (by omega))⟩) (by dsimp only; omega) rfl ?_
      simp (disch := first | omega | (simp <;> omega) | fail) [wrap_i64, wrap_u64, wrap_u8']
    · skip
      obtain rfl : k = s.length := by omega
      have hx2 := hg.all
      refine HT.exit ?_
      simp (disch := first | omega | (simp <;> omega) | fail) [wrap_i64, wrap_u64, wrap_u8']
      refine HT.seq ?_
      refine HT.region ?_   -- R9
      simp (disch := first | omega | (simp <;> omega) | fail) [wrap_i64, wrap_u64, wrap_u8']
      refine HT.ret ?_
      simp (disch := first | omega | (simp <;> omega) | fail) [wrap_i64, wrap_u64, wrap_u8', hx, hx2]
set_option maxRecDepth 20000 in
set_option maxHeartbeats 2000000 in
theorem refValid_spec (s : List UInt8) (hs : s.length ≤ 140737488355328) : Spec1 Tryz.prog 87 [.str s] (bo (textV s)) := by
  refine Spec1.of_HT Tryz.func87 rfl (by rw [Tryz.ntmps87]; simp) rfl ?_
  rw [Tryz.ntmps87]
  refine HT.seq ?_
  refine HT.region ?_   -- R0
  simp (disch := first | omega | (simp <;> omega) | fail) [wrap_i64, wrap_u64, wrap_u8']
  refine HT.seq ?_
  refine HT.seq ?_
  refine HT.region ?_   -- R1
  simp (disch := first | omega | (simp <;> omega) | fail) [wrap_i64, wrap_u64, wrap_u8']
  refine HT.cond' ?_   -- if 6
  simp (disch := first | omega | (simp <;> omega) | fail) [wrap_i64, wrap_u64, wrap_u8']
  refine ⟨fun h6 => ?_, fun h6 => ?_⟩
  · skip
    have hx := textV_long (show 2000 < s.length by omega)
    refine HT.seq ?_
    refine HT.region ?_   -- R2
    simp (disch := first | omega | (simp <;> omega) | fail) [wrap_i64, wrap_u64, wrap_u8']
    refine HT.ret ?_
    simp (disch := first | omega | (simp <;> omega) | fail) [wrap_i64, wrap_u64, wrap_u8', hx]
  · skip
    have hl : s.length ≤ 2000 := by omega
    have hx := textV_all hl
    refine HT.skip ?_
    simp (disch := first | omega | (simp <;> omega) | fail) [wrap_i64, wrap_u64, wrap_u8']
    refine HT.seq ?_
    refine HT.seq ?_
    refine HT.region ?_   -- R3
    simp (disch := first | omega | (simp <;> omega) | fail) [wrap_i64, wrap_u64, wrap_u8']
    refine HT.block ?_
    refine HT.loopK (fun k : {k : Nat // k ≤ s.length ∧ UpTo textB s k} => [.s 3 (i64 k)]) [0] [] (fun k => s.length - k) (⟨0, by omega, UpTo.zero _ _⟩) ?_ ?_   -- block 0 turned [3, 18, 19, 20, 21, 24, 25, 26, 27, 28, 29, 30, 31, 32, 33]
    · simp (disch := first | omega | (simp <;> omega) | fail) [wrap_i64, wrap_u64, wrap_u8']
    rintro ⟨k, hk, hg⟩
    simp (disch := first | omega | (simp <;> omega) | fail) [wrap_i64, wrap_u64, wrap_u8']
    refine HT.seq ?_
    refine HT.seq ?_
    refine HT.region ?_   -- R4
    simp (disch := first | omega | (simp <;> omega) | fail) [wrap_i64, wrap_u64, wrap_u8']
    refine HT.cond' ?_   -- if 10
    simp (disch := first | omega | (simp <;> omega) | fail) [wrap_i64, wrap_u64, wrap_u8']
    refine ⟨fun h10 => ?_, fun h10 => ?_⟩
    · skip
      have hk' : k < s.length := by omega
      refine HT.skip ?_
      simp (disch := first | omega | (simp <;> omega) | fail) [wrap_i64, wrap_u64, wrap_u8']
      refine HT.seq ?_
      refine HT.block ?_
      refine HT.seq ?_
      by_cases a1 : (s[k].toNat : Int) = 9
      · skip
        refine HT.region ?_   -- R6
        simp (disch := first | omega | (simp <;> omega) | fail) [wrap_i64, wrap_u64, wrap_u8']
        refine HT.cond' ?_   -- if 34
        simp (disch := first | omega | (simp <;> omega) | fail) [wrap_i64, wrap_u64, wrap_u8']
        refine HT.skip ?_
        simp (disch := first | omega | (simp <;> omega) | fail) [wrap_i64, wrap_u64, wrap_u8']
        refine HT.region ?_   -- R5
        simp (disch := first | omega | (simp <;> omega) | fail) [wrap_i64, wrap_u64, wrap_u8']
        refine Round.mk' (⟨k + 1, by omega, hg.succ hk' (by rw [textB_eq]; exact decide_eq_true (by omega))⟩) (by dsimp only; omega) rfl ?_
        simp (disch := first | omega | (simp <;> omega) | fail) [wrap_i64, wrap_u64, wrap_u8']
      by_cases a2 : (s[k].toNat : Int) = 10
      · skip
        refine HT.region ?_   -- R6
        simp (disch := first | omega | (simp <;> omega) | fail) [wrap_i64, wrap_u64, wrap_u8']
        refine HT.cond' ?_   -- if 34
        simp (disch := first | omega | (simp <;> omega) | fail) [wrap_i64, wrap_u64, wrap_u8']
        refine HT.skip ?_
        simp (disch := first | omega | (simp <;> omega) | fail) [wrap_i64, wrap_u64, wrap_u8']
        refine HT.region ?_   -- R5
        simp (disch := first | omega | (simp <;> omega) | fail) [wrap_i64, wrap_u64, wrap_u8']
        refine Round.mk' (⟨k + 1, by omega, hg.succ hk' (by rw [textB_eq]; exact decide_eq_true (by omega))⟩) (by dsimp only; omega) rfl ?_
        simp (disch := first | omega | (simp <;> omega) | fail) [wrap_i64, wrap_u64, wrap_u8']
      by_cases a3 : (s[k].toNat : Int) < 32
      · skip
        refine HT.region ?_   -- R6
        simp (disch := first | omega | (simp <;> omega) | fail) [wrap_i64, wrap_u64, wrap_u8']
        refine HT.cond' ?_   -- if 34
        simp (disch := first | omega | (simp <;> omega) | fail) [wrap_i64, wrap_u64, wrap_u8']
        refine HT.seq ?_
        refine HT.region ?_   -- R7
        simp (disch := first | omega | (simp <;> omega) | fail) [wrap_i64, wrap_u64, wrap_u8']
        refine HT.ret ?_
        have hx2 := all_not (q := textB) hk' (by rw [textB_eq]; exact decide_eq_false (by omega))
        simp (disch := first | omega | (simp <;> omega) | fail) [wrap_i64, wrap_u64, wrap_u8', hx, hx2]
      by_cases a4 : 126 < (s[k].toNat : Int)
      · skip
        refine HT.region ?_   -- R6
        simp (disch := first | omega | (simp <;> omega) | fail) [wrap_i64, wrap_u64, wrap_u8']
        refine HT.cond' ?_   -- if 34
        simp (disch := first | omega | (simp <;> omega) | fail) [wrap_i64, wrap_u64, wrap_u8']
        refine HT.seq ?_
        refine HT.region ?_   -- R7
        simp (disch := first | omega | (simp <;> omega) | fail) [wrap_i64, wrap_u64, wrap_u8']
        refine HT.ret ?_
        have hx2 := all_not (q := textB) hk' (by rw [textB_eq]; exact decide_eq_false (by omega))
        simp (disch := first | omega | (simp <;> omega) | fail) [wrap_i64, wrap_u64, wrap_u8', hx, hx2]
      refine HT.region ?_   -- R6
      simp (disch := first | omega | (simp <;> omega) | fail) [wrap_i64, wrap_u64, wrap_u8']
      refine HT.cond' ?_   -- if 34
      simp (disch := first | omega | (simp <;> omega) | fail) [wrap_i64, wrap_u64, wrap_u8']
      refine HT.skip ?_
      simp (disch := first | omega | (simp <;> omega) | fail) [wrap_i64, wrap_u64, wrap_u8']
      refine HT.region ?_   -- R5
      simp (disch := first | omega | (simp <;> omega) | fail) [wrap_i64, wrap_u64, wrap_u8']
      refine Round.mk' (⟨k + 1, by omega, hg.succ hk' (by rw [textB_eq]; exact decide_eq_true (by omega))⟩) (by dsimp only; omega) rfl ?_
      simp (disch := first | omega | (simp <;> omega) | fail) [wrap_i64, wrap_u64, wrap_u8']
    · skip
      obtain rfl : k = s.length := by omega
      have hx2 := hg.all
      refine HT.exit ?_
      simp (disch := first | omega | (simp <;> omega) | fail) [wrap_i64, wrap_u64, wrap_u8']
      refine HT.seq ?_
      refine HT.region ?_   -- R8
      simp (disch := first | omega | (simp <;> omega) | fail) [wrap_i64, wrap_u64, wrap_u8']
      refine HT.ret ?_
      simp (disch := first | omega | (simp <;> omega) | fail) [wrap_i64, wrap_u64, wrap_u8', hx, hx2]
def isLetV (c : UInt8) : Bool := decide (65 ≤ (c.toNat : Int) ∧ (c.toNat : Int) ≤ 90 ∨ 97 ≤ (c.toNat : Int) ∧ (c.toNat : Int) ≤ 122)
def isDigV (c : UInt8) : Bool := decide (48 ≤ (c.toNat : Int) ∧ (c.toNat : Int) ≤ 57)
set_option maxRecDepth 20000 in
theorem Letter_spec (c : UInt8) : Spec1 Tryz.prog 146 [u8 c] (bo (isLetV c)) := by
  refine Spec1.of_HT Tryz.func146 rfl (by rw [Tryz.ntmps146]; simp) rfl ?_
  rw [Tryz.ntmps146]
  refine HT.seq ?_
  refine HT.region ?_   -- R0
  simp (disch := first | omega | (simp <;> omega) | fail) [wrap_i64, wrap_u64, wrap_u8']
  refine HT.seq ?_
  by_cases a1 : 122 < (c.toNat : Int)
  · skip
    refine HT.region ?_   -- R1
    simp (disch := first | omega | (simp <;> omega) | fail) [wrap_i64, wrap_u64, wrap_u8']
    refine HT.ret ?_
    first | (have hx : isLetV c = true := decide_eq_true (by omega); simp (disch := first | omega | (simp <;> omega) | fail) [wrap_i64, wrap_u64, wrap_u8', hx]; done) | (have hx : isLetV c = false := decide_eq_false (by omega); simp (disch := first | omega | (simp <;> omega) | fail) [wrap_i64, wrap_u64, wrap_u8', hx]; done)
  by_cases a2 : 97 ≤ (c.toNat : Int)
  · skip
    refine HT.region ?_   -- R1
    simp (disch := first | omega | (simp <;> omega) | fail) [wrap_i64, wrap_u64, wrap_u8']
    refine HT.ret ?_
    first | (have hx : isLetV c = true := decide_eq_true (by omega); simp (disch := first | omega | (simp <;> omega) | fail) [wrap_i64, wrap_u64, wrap_u8', hx]; done) | (have hx : isLetV c = false := decide_eq_false (by omega); simp (disch := first | omega | (simp <;> omega) | fail) [wrap_i64, wrap_u64, wrap_u8', hx]; done)
  by_cases a3 : 90 < (c.toNat : Int)
  · skip
    refine HT.region ?_   -- R1
    simp (disch := first | omega | (simp <;> omega) | fail) [wrap_i64, wrap_u64, wrap_u8']
    refine HT.ret ?_
    first | (have hx : isLetV c = true := decide_eq_true (by omega); simp (disch := first | omega | (simp <;> omega) | fail) [wrap_i64, wrap_u64, wrap_u8', hx]; done) | (have hx : isLetV c = false := decide_eq_false (by omega); simp (disch := first | omega | (simp <;> omega) | fail) [wrap_i64, wrap_u64, wrap_u8', hx]; done)
  by_cases a4 : 65 ≤ (c.toNat : Int)
  · skip
    refine HT.region ?_   -- R1
    simp (disch := first | omega | (simp <;> omega) | fail) [wrap_i64, wrap_u64, wrap_u8']
    refine HT.ret ?_
    first | (have hx : isLetV c = true := decide_eq_true (by omega); simp (disch := first | omega | (simp <;> omega) | fail) [wrap_i64, wrap_u64, wrap_u8', hx]; done) | (have hx : isLetV c = false := decide_eq_false (by omega); simp (disch := first | omega | (simp <;> omega) | fail) [wrap_i64, wrap_u64, wrap_u8', hx]; done)
  refine HT.region ?_   -- R1
  simp (disch := first | omega | (simp <;> omega) | fail) [wrap_i64, wrap_u64, wrap_u8']
  refine HT.ret ?_
  first | (have hx : isLetV c = true := decide_eq_true (by omega); simp (disch := first | omega | (simp <;> omega) | fail) [wrap_i64, wrap_u64, wrap_u8', hx]; done) | (have hx : isLetV c = false := decide_eq_false (by omega); simp (disch := first | omega | (simp <;> omega) | fail) [wrap_i64, wrap_u64, wrap_u8', hx]; done)
theorem Digit_spec (c : UInt8) : Spec1 Tryz.prog 147 [u8 c] (bo (isDigV c)) := by
  refine Spec1.of_HT Tryz.func147 rfl (by rw [Tryz.ntmps147]; simp) rfl ?_
  rw [Tryz.ntmps147]
  refine HT.seq ?_
  refine HT.region ?_   -- R0
  simp (disch := first | omega | (simp <;> omega) | fail) [wrap_i64, wrap_u64, wrap_u8']
  refine HT.seq ?_
  by_cases a1 : 57 < (c.toNat : Int)
  · skip
    refine HT.region ?_   -- R1
    simp (disch := first | omega | (simp <;> omega) | fail) [wrap_i64, wrap_u64, wrap_u8']
    refine HT.ret ?_
    first | (have hx : isDigV c = true := decide_eq_true (by omega); simp (disch := first | omega | (simp <;> omega) | fail) [wrap_i64, wrap_u64, wrap_u8', hx]; done) | (have hx : isDigV c = false := decide_eq_false (by omega); simp (disch := first | omega | (simp <;> omega) | fail) [wrap_i64, wrap_u64, wrap_u8', hx]; done)
  by_cases a2 : 48 ≤ (c.toNat : Int)
  · skip
    refine HT.region ?_   -- R1
    simp (disch := first | omega | (simp <;> omega) | fail) [wrap_i64, wrap_u64, wrap_u8']
    refine HT.ret ?_
    first | (have hx : isDigV c = true := decide_eq_true (by omega); simp (disch := first | omega | (simp <;> omega) | fail) [wrap_i64, wrap_u64, wrap_u8', hx]; done) | (have hx : isDigV c = false := decide_eq_false (by omega); simp (disch := first | omega | (simp <;> omega) | fail) [wrap_i64, wrap_u64, wrap_u8', hx]; done)
  refine HT.region ?_   -- R1
  simp (disch := first | omega | (simp <;> omega) | fail) [wrap_i64, wrap_u64, wrap_u8']
  refine HT.ret ?_
  first | (have hx : isDigV c = true := decide_eq_true (by omega); simp (disch := first | omega | (simp <;> omega) | fail) [wrap_i64, wrap_u64, wrap_u8', hx]; done) | (have hx : isDigV c = false := decide_eq_false (by omega); simp (disch := first | omega | (simp <;> omega) | fail) [wrap_i64, wrap_u64, wrap_u8', hx]; done)
end Go.Hv
