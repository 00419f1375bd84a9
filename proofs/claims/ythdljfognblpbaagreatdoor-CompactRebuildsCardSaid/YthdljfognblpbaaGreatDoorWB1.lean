import Derived.Test.YthdljfognblpbaaGreatDoorWB0
import Derived.Shelf.Small.Bits
import Derived.Shelf.Utf8.RuneCount
import Derived.Shelf.Strconv.Itoa0
import Derived.Shelf.Strings.Search1
import Derived.Shelf.Strings.Search2
import Derived.Shelf.Strings.Search3
import Derived.Shelf.Strings.Count
import Derived.Shelf.LaysM
import Derived.Shelf.Strings.Shaped
import Derived.Shelf.Strings.Split
import Derived.Shelf.Strings.RuneCount
import Derived.Test.YthdljfognblpbaaGreatDoorProg
import Derived.Shelf.SlSortCmp.WholeK
import Derived.Ground.SlsfProg
import Derived.Shelf.SlSortCmp.NoneTotal
set_option linter.unusedVariables false
set_option linter.unusedSimpArgs false
namespace Go.Hv
open Go Go.Hv Go.Proofs
open Go.Proofs.YthdljfognblpbaaGreatDoor
theorem ofV_length (s : List UInt8) : (ofV s).length ≤ s.length := by have := ofK_length s (s.length - 2); unfold ofV; omega
theorem refOf_spec (s : List UInt8) (hs : s.length ≤ 900000) : Spec1 Tryz.prog 96 [.str s] (.sl 1 false (intsHV (ofV s))) := by
  refine Spec1.of_HT Tryz.func96 rfl (by rw [Tryz.ntmps96]; simp) rfl ?_
  rw [Tryz.ntmps96]
  refine HT.seq ?_
  refine HT.region ?_   -- R0
  simp (disch := first | omega | (simp <;> omega) | fail) [wrap_i64, wrap_u64, wrap_u8']
  refine HT.seq ?_
  refine HT.region ?_   -- R1
  simp (disch := first | omega | (simp <;> omega) | fail) [wrap_i64, wrap_u64, wrap_u8']
  refine HT.weaken (HS.le_wk 3 (.sl 1 false []) (by decide) rfl rfl (HLe.nilf 0 1 true)) ?_
  refine HT.seq ?_
  refine HT.seq ?_
  refine HT.region ?_   -- R2
  simp (disch := first | omega | (simp <;> omega) | fail) [wrap_i64, wrap_u64, wrap_u8']
  refine HT.block ?_
  refine HT.loopK (fun k : {k : Nat // k ≤ s.length - 2} => [.s 4 (i64 k), .s 3 (.sl 1 false (intsHV (ofK s k)))]) [0] [] (fun k => s.length - k) (⟨0, by omega⟩) ?_ ?_   -- block 0 turned [3, 4]
  · simp (disch := first | omega | (simp <;> omega) | fail) [wrap_i64, wrap_u64, wrap_u8', show ofK s 0 = [] from rfl]
  rintro ⟨k, hk⟩
  simp (disch := first | omega | (simp <;> omega) | fail) [wrap_i64, wrap_u64, wrap_u8']
  refine HT.seq ?_
  refine HT.seq ?_
  refine HT.region ?_   -- R3
  simp (disch := first | omega | (simp <;> omega) | fail) [wrap_i64, wrap_u64, wrap_u8']
  refine HT.cond' ?_   -- if 9
  simp (disch := first | omega | (simp <;> omega) | fail) [wrap_i64, wrap_u64, wrap_u8']
  refine ⟨fun h9 => ?_, fun h9 => ?_⟩
  · skip
    have hk' : k + 2 < s.length := by omega
    have hb := ofK_length s k
    refine HT.skip ?_
    simp (disch := first | omega | (simp <;> omega) | fail) [wrap_i64, wrap_u64, wrap_u8']
    refine HT.seq ?_
    refine HT.block ?_
    refine HT.region ?_   -- R5
    simp (disch := first | omega | (simp <;> omega) | fail) [wrap_i64, wrap_u64, wrap_u8']
    refine stepK.mk (.call1 _ _ _ _ rfl Ty.hb97 rfl (refat_spec s k hk' (by omega)) rfl rfl) ?_
    simp (disch := first | omega | (simp <;> omega) | fail) [wrap_i64, wrap_u64, wrap_u8']
    refine stepK.mk (.call1f _ _ _ _ _ rfl Ty.hb123 rfl rfl (insert_spec (ofK s k) (codeAt s k) (by omega)) rfl) ?_
    simp (disch := first | omega | (simp <;> omega) | fail) [wrap_i64, wrap_u64, wrap_u8']
    refine HT.region ?_   -- R4
    simp (disch := first | omega | (simp <;> omega) | fail) [wrap_i64, wrap_u64, wrap_u8']
    refine Round.mk' (⟨k + 1, by omega⟩) (by dsimp only; omega) rfl ?_
    simp (disch := first | omega | (simp <;> omega) | fail) [wrap_i64, wrap_u64, wrap_u8', ofK_succ]
  · skip
    obtain rfl : k = s.length - 2 := by omega
    refine HT.exit ?_
    simp (disch := first | omega | (simp <;> omega) | fail) [wrap_i64, wrap_u64, wrap_u8']
    refine HT.seq ?_
    refine HT.region ?_   -- R6
    simp (disch := first | omega | (simp <;> omega) | fail) [wrap_i64, wrap_u64, wrap_u8']
    refine HT.ret ?_
    simp (disch := first | omega | (simp <;> omega) | fail) [wrap_i64, wrap_u64, wrap_u8', ofV]
set_option maxHeartbeats 1000000 in
theorem refGrams_spec (s : List UInt8) (hs : s.length ≤ 900000) : Spec1 Tryz.prog 67 [.str s] (.sl 2 false (gramsHV (gramsV s))) := by
  have hol := ofV_length s
  refine Spec1.of_HT Tryz.func67 rfl (by rw [Tryz.ntmps67]; simp) rfl ?_
  rw [Tryz.ntmps67]
  refine HT.seq ?_
  refine HT.region ?_   -- R0
  simp (disch := first | omega | (simp <;> omega) | fail) [wrap_i64, wrap_u64, wrap_u8']
  refine HT.seq ?_
  refine HT.region ?_   -- R1
  simp (disch := first | omega | (simp <;> omega) | fail) [wrap_i64, wrap_u64, wrap_u8']
  refine stepK.mk (.call1f _ _ _ _ _ rfl Ty.hb96 rfl rfl (refOf_spec s hs) rfl) ?_
  simp (disch := first | omega | (simp <;> omega) | fail) [wrap_i64, wrap_u64, wrap_u8']
  refine HT.seq ?_
  refine HT.region ?_   -- R2
  simp (disch := first | omega | (simp <;> omega) | fail) [wrap_i64, wrap_u64, wrap_u8']
  refine HT.weaken (HS.le_own (t := 4) 200 68 2 _ (by decide) rfl (by decide)) ?_
  refine HT.seq ?_
  refine HT.seq ?_
  refine HT.region ?_   -- R3
  simp (disch := first | omega | (simp <;> omega) | fail) [wrap_i64, wrap_u64, wrap_u8']
  refine HT.block ?_
  refine HT.loopK (fun k : {k : Nat // k ≤ (ofV s).length} => [.s 5 (i64 k), .s 4 (.ref 200), .o 200 (.row 68 2 (gramsHV ((gramsV s).take k)))]) [0, 3] [] (fun k => (ofV s).length - k) (⟨0, by omega⟩) ?_ ?_   -- block 0 turned [4, 5]
  · simp (disch := first | omega | (simp <;> omega) | fail) [wrap_i64, wrap_u64, wrap_u8']
  rintro ⟨k, hk⟩
  simp (disch := first | omega | (simp <;> omega) | fail) [wrap_i64, wrap_u64, wrap_u8']
  refine HT.seq ?_
  refine HT.seq ?_
  refine HT.region ?_   -- R4
  simp (disch := first | omega | (simp <;> omega) | fail) [wrap_i64, wrap_u64, wrap_u8']
  refine HT.cond' ?_   -- if 13
  simp (disch := first | omega | (simp <;> omega) | fail) [wrap_i64, wrap_u64, wrap_u8']
  refine ⟨fun h13 => ?_, fun h13 => ?_⟩
  · skip
    have hk' : k < (ofV s).length := by omega
    have hgl : (gramsV s).length = (ofV s).length := by simp [gramsV]
    have hgk : (gramsV s)[k]'(by omega) = ⟨(ofV s)[k], offK s (s.length - 2) (ofV s)[k]⟩ := by simp [gramsV]
    refine HT.skip ?_
    simp (disch := first | omega | (simp <;> omega) | fail) [wrap_i64, wrap_u64, wrap_u8']
    refine HT.seq ?_
    refine HT.block ?_
    refine HT.seq ?_
    refine HT.region ?_   -- R6
    simp (disch := first | omega | (simp <;> omega) | fail) [wrap_i64, wrap_u64, wrap_u8']
    refine HT.seq ?_
    refine HT.seq ?_
    refine HT.region ?_   -- R7
    simp (disch := first | omega | (simp <;> omega) | fail) [wrap_i64, wrap_u64, wrap_u8']
    refine HT.weaken (HS.le_boxown 6 1 201 3 1 0 rfl rfl (by decide) (by decide)) ?_
    refine HT.block ?_
    refine HT.loopK (fun i : {i : Nat // i ≤ s.length - 2} => [.s 7 (i64 i), .o 6 (.box [i64 (ofV s)[k], .ref 201]), .o 201 (.row 3 1 (intsHV (offK s i (ofV s)[k])))]) [0, 3, 4, 5, 6] [200] (fun i => s.length - i) (⟨0, by omega⟩) ?_ ?_   -- block 2 turned [7]
    · simp (disch := first | omega | (simp <;> omega) | fail) [wrap_i64, wrap_u64, wrap_u8', show offK s 0 (ofV s)[k] = [] from rfl]
    rintro ⟨i, hi⟩
    simp (disch := first | omega | (simp <;> omega) | fail) [wrap_i64, wrap_u64, wrap_u8']
    refine HT.seq ?_
    refine HT.seq ?_
    refine HT.region ?_   -- R8
    simp (disch := first | omega | (simp <;> omega) | fail) [wrap_i64, wrap_u64, wrap_u8']
    refine HT.cond' ?_   -- if 25
    simp (disch := first | omega | (simp <;> omega) | fail) [wrap_i64, wrap_u64, wrap_u8']
    refine ⟨fun h25 => ?_, fun h25 => ?_⟩
    · skip
      have hi' : i + 2 < s.length := by omega
      have hb := offK_length s i (ofV s)[k]
      refine HT.skip ?_
      simp (disch := first | omega | (simp <;> omega) | fail) [wrap_i64, wrap_u64, wrap_u8']
      refine HT.seq ?_
      refine HT.block ?_
      refine HT.seq ?_
      refine HT.draw [.batch [0, 1, 2, 3, 4, 5, 6, 7]] (by kernel_rfl) ?_   -- R10
      simp (disch := first | omega | (simp <;> omega) | fail) [wrap_i64, wrap_u64, wrap_u8']
      refine stepK.mk (.call1 _ _ _ rfl Ty.hb97 rfl rfl (refat_spec s i hi' (by omega))) ?_
      simp (disch := first | omega | (simp <;> omega) | fail) [wrap_i64, wrap_u64, wrap_u8']
      refine HT.cond' ?_   -- if 35
      simp (disch := first | omega | (simp <;> omega) | fail) [wrap_i64, wrap_u64, wrap_u8']
      refine ⟨fun h35 => ?_, fun h35 => ?_⟩
      · skip
        refine HT.region ?_   -- R11
        simp (disch := first | omega | (simp <;> omega) | fail) [wrap_i64, wrap_u64, wrap_u8']
        refine HT.region ?_   -- R9
        simp (disch := first | omega | (simp <;> omega) | fail) [wrap_i64, wrap_u64, wrap_u8']
        refine Round.mk' (⟨i + 1, by omega⟩) (by dsimp only; omega) rfl ?_
        simp (disch := first | omega | (simp <;> omega) | fail) [wrap_i64, wrap_u64, wrap_u8', offK_succ, h35]
      · skip
        refine HT.skip ?_
        simp (disch := first | omega | (simp <;> omega) | fail) [wrap_i64, wrap_u64, wrap_u8']
        refine HT.region ?_   -- R9
        simp (disch := first | omega | (simp <;> omega) | fail) [wrap_i64, wrap_u64, wrap_u8']
        refine Round.mk' (⟨i + 1, by omega⟩) (by dsimp only; omega) rfl ?_
        simp (disch := first | omega | (simp <;> omega) | fail) [wrap_i64, wrap_u64, wrap_u8', offK_succ, h35]
    · skip
      obtain rfl : i = s.length - 2 := by omega
      refine HT.exit ?_
      simp (disch := first | omega | (simp <;> omega) | fail) [wrap_i64, wrap_u64, wrap_u8']
      refine HT.region ?_   -- R12
      simp (disch := first | omega | (simp <;> omega) | fail) [wrap_i64, wrap_u64, wrap_u8']
      refine HT.region ?_   -- R5
      simp (disch := first | omega | (simp <;> omega) | fail) [wrap_i64, wrap_u64, wrap_u8']
      refine Round.mk' (⟨k + 1, by omega⟩) (by dsimp only; omega) rfl ?_
      simp (disch := first | omega | (simp <;> omega) | fail) [wrap_i64, wrap_u64, wrap_u8']
      rw [← hgk]
      simp
  · skip
    obtain rfl : k = (ofV s).length := by omega
    have hgl : (gramsV s).length = (ofV s).length := by simp [gramsV]
    refine HT.exit ?_
    simp (disch := first | omega | (simp <;> omega) | fail) [wrap_i64, wrap_u64, wrap_u8']
    refine HT.seq ?_
    refine HT.region ?_   -- R13
    simp (disch := first | omega | (simp <;> omega) | fail) [wrap_i64, wrap_u64, wrap_u8']
    refine HT.ret ?_
    simp (disch := first | omega | (simp <;> omega) | fail) [wrap_i64, wrap_u64, wrap_u8', ← hgl, List.take_length]
end Go.Hv
set_option linter.unusedVariables false
set_option linter.unusedSectionVars false
set_option linter.unusedSimpArgs false
/- Maps whose values are rows of the walk's own: the i-th entry's row has the number B + i. -/
namespace Go.Hv
open Go Go.RowKit
variable [GI]
variable {P : Program} {K : Type}
def kentsF (enc : K → HV) (val : Nat → HV) : Nat → List K → List (HV × HV)
  | _, [] => []
  | i, k :: r => (enc k, val i) :: kentsF enc val (i + 1) r
theorem kentsF_length (enc : K → HV) (val : Nat → HV) : ∀ (ks : List K) (i : Nat), (kentsF enc val i ks).length = ks.length
  | [], _ => rfl
  | _ :: r, i => by simp [kentsF, kentsF_length enc val r]
theorem kentsF_get (enc : K → HV) (val : Nat → HV) : ∀ (ks : List K) (i j : Nat), (kentsF enc val i ks)[j]? = (ks[j]?).map fun k => (enc k, val (i + j))
  | [], _, _ => by simp [kentsF]
  | k :: r, i, 0 => by simp [kentsF]
  | k :: r, i, j + 1 => by
    simp only [kentsF, List.getElem?_cons_succ, kentsF_get enc val r]
    rw [show i + 1 + j = i + (j + 1) by omega]
theorem kentsF_append (enc : K → HV) (val : Nat → HV) (b : List K) : ∀ (a : List K) (i : Nat), kentsF enc val i (a ++ b) = kentsF enc val i a ++ kentsF enc val (i + a.length) b
  | [], i => by simp [kentsF]
  | k :: r, i => by
    simp only [List.cons_append, kentsF, kentsF_append enc val b r, List.length_cons]
    rw [show i + 1 + r.length = i + (r.length + 1) by omega]
def kents (enc : K → HV) (B : Nat) (ks : List K) : List (HV × HV) := kentsF enc (fun i => .ref (B + i)) 0 ks
@[simp] theorem kents_length (enc : K → HV) (B : Nat) (ks : List K) : (kents enc B ks).length = ks.length := kentsF_length ..
theorem kents_get (enc : K → HV) (B : Nat) (ks : List K) (j : Nat) : (kents enc B ks)[j]? = (ks[j]?).map fun k => (enc k, .ref (B + j)) := by
  unfold kents; rw [kentsF_get]; simp
@[simp] theorem kents_nil (enc : K → HV) (B : Nat) : kents enc B [] = [] := rfl
theorem kents_snoc (enc : K → HV) (B : Nat) (ks : List K) (k : K) : kents enc B (ks ++ [k]) = kents enc B ks ++ [(enc k, .ref (B + ks.length))] := by
  unfold kents; rw [kentsF_append]; simp [kentsF]
theorem findHV_of [DecidableEq K] {t : TypeId} {enc : K → HV} (he : ∀ a b, keyEq P t (enc a) (enc b) = some (decide (a = b))) (c : K) : ∀ (es : List (HV × HV)) (ks : List K) (i : Nat), es.map (·.1) = ks.map enc →
    findHV P t (enc c) es i = some (if c ∈ ks then some (i + ks.idxOf c, (es.getD (ks.idxOf c) (.any, .any)).2) else none)
  | [], [], i, _ => by simp [findHV]
  | [], _ :: _, _, h => by simp at h
  | _ :: _, [], _, h => by simp at h
  | p :: es, k :: ks, i, h => by
    simp only [List.map_cons, List.cons.injEq] at h
    obtain ⟨h1, h2⟩ := h
    simp only [findHV, h1, he]
    by_cases e : c = k
    · subst e; simp
    · simp only [e, decide_false]
      rw [findHV_of he c es ks (i + 1) h2]
      have e' : ¬ k = c := fun h => e h.symm
      simp only [List.mem_cons, e, false_or]
      split
      · have e2 : (k == c) = false := by simpa using e'
        rw [List.idxOf_cons, e2]
        simp only [cond_false, List.getD_cons_succ]
        rw [show i + 1 + ks.idxOf c = i + (ks.idxOf c + 1) by omega]
      · rfl
theorem kents_keys (enc : K → HV) (B : Nat) (ks : List K) : (kents enc B ks).map (·.1) = ks.map enc := by
  apply List.ext_getElem?
  intro i
  rw [List.getElem?_map, kents_get, List.getElem?_map]
  cases ks[i]? <;> rfl
theorem find_kents [DecidableEq K] {t : TypeId} {enc : K → HV} (he : ∀ a b, keyEq P t (enc a) (enc b) = some (decide (a = b))) (B : Nat) (c : K) (ks : List K) :
    findHV P t (enc c) (kents enc B ks) 0 = some (if c ∈ ks then some (ks.idxOf c, .ref (B + ks.idxOf c)) else none) := by
  rw [findHV_of he c _ ks 0 (kents_keys enc B ks)]
  split
  · next h =>
    have hlt := List.idxOf_lt_length_iff.2 h
    simp only [Nat.zero_add]
    rw [List.getD_eq_getElem?_getD, kents_get, List.getElem?_eq_getElem hlt]
    rfl
  · rfl
theorem subM_kents {enc : K → HV} {B i : Nat} {ks : List K} (h : i < ks.length) : subM (B + i) .any .any (kents enc B ks) = (kents enc B ks).set i (enc ks[i], .any) := by
  apply List.ext_getElem?
  intro j
  unfold subM
  rw [List.getElem?_map, List.getElem?_set, kents_get]
  by_cases e : i = j
  · subst e
    rw [if_pos rfl, if_pos (by simpa using h), List.getElem?_eq_getElem h]
    simp [HV.sub]
  · rw [if_neg e]
    cases ks[j]? with
    | none => rfl
    | some k =>
      have : ¬ B + j = B + i := by omega
      have : ¬ j = i := by omega
      simp [HV.sub, this]
theorem subM_kents_out {enc : K → HV} {B id : Nat} {ks : List K} {x y : HV} (h : id < B ∨ B + ks.length ≤ id) : subM id x y (kents enc B ks) = kents enc B ks := by
  apply List.ext_getElem?
  intro j
  unfold subM
  rw [List.getElem?_map, kents_get]
  cases hk : ks[j]? with
  | none => rfl
  | some k =>
    have hj := getElem?_lt hk
    have : ¬ B + j = id := by omega
    simp [HV.sub, this]
theorem find_kents_set [DecidableEq K] {t : TypeId} {enc : K → HV} (he : ∀ a b, keyEq P t (enc a) (enc b) = some (decide (a = b))) (B : Nat) (ks : List K) {c : K} (h : c ∈ ks) (x : HV) :
    findHV P t (enc c) ((kents enc B ks).set (ks.idxOf c) (enc c, x)) 0 = some (some (ks.idxOf c, x)) := by
  have hlt := List.idxOf_lt_length_iff.2 h
  have hk : ((kents enc B ks).set (ks.idxOf c) (enc c, x)).map (·.1) = ks.map enc := by
    rw [List.map_set, kents_keys]
    apply List.ext_getElem?
    intro i
    rw [List.getElem?_set]
    split
    · next e => subst e; rw [if_pos (by simpa using hlt), List.getElem?_map, List.getElem?_eq_getElem hlt]; simp
    · rfl
  rw [findHV_of he c _ ks 0 hk, if_pos h]
  simp only [Nat.zero_add]
  rw [List.getD_eq_getElem?_getD, List.getElem?_set_self (by simpa using hlt)]
  rfl
theorem kents_back [DecidableEq K] {enc : K → HV} (B : Nat) {ks : List K} {c : K} (h : c ∈ ks) : (kents enc B ks).set (ks.idxOf c) (enc c, .ref (B + ks.idxOf c)) = kents enc B ks := by
  have hlt := List.idxOf_lt_length_iff.2 h
  apply List.ext_getElem?
  intro i
  rw [List.getElem?_set]
  split
  · next e => subst e; rw [if_pos (by simpa using hlt), kents_get, List.getElem?_eq_getElem hlt]; simp
  · rfl
theorem kents_set_get [DecidableEq K] {enc : K → HV} (B : Nat) {ks : List K} {c : K} (h : c ∈ ks) (x : HV) : ((kents enc B ks).set (ks.idxOf c) (enc c, x))[ks.idxOf c]? = some (enc c, x) := by
  have hlt := List.idxOf_lt_length_iff.2 h
  rw [List.getElem?_set_self (by simpa using hlt)]
theorem subM_kents_at [DecidableEq K] {enc : K → HV} {B : Nat} {ks : List K} {c : K} (h : c ∈ ks) : subM (B + ks.idxOf c) .any .any (kents enc B ks) = (kents enc B ks).set (ks.idxOf c) (enc c, .any) := by
  have hlt := List.idxOf_lt_length_iff.2 h
  rw [subM_kents hlt, List.getElem_idxOf hlt]
def fents (enc : K → HV) (g : K → HV) (ks : List K) : List (HV × HV) := ks.map fun k => (enc k, g k)
@[simp] theorem fents_length (enc g : K → HV) (ks : List K) : (fents enc g ks).length = ks.length := by simp [fents]
theorem fents_get (enc g : K → HV) (ks : List K) (j : Nat) : (fents enc g ks)[j]? = (ks[j]?).map fun k => (enc k, g k) := by simp [fents]
theorem HS.le_frzK {L : List Ev} {n m sz : Nat} (B : Nat) (enc : K → HV) (e : TypeId) (rows : K → List (List HV)) (ks : List K) (hm : m < B) (ho : getO L m = .map (kents enc B ks)) (hI : ∀ k, isILL (rows k) = true)
    (hr : ∀ i k, ks[i]? = some k → getO L (B + i) = .row e sz (rows k)) :
    HS.le ⟨L, n⟩ ⟨.o m (.map (fents enc (fun k => .sl sz false (rows k)) ks)) :: .os (fam B ks.length fun _ => .gone) :: L, n⟩ := by
  refine HS.le_frzG B (fun i => (sz, match ks[i]? with | some k => rows k | none => [])) _ (.inl hm) (fun i hi => ?_) ?_
  · have hk := List.getElem?_eq_getElem hi
    exact ⟨e, by simp only [hk]; exact hr i _ hk, by simp only [hk]; exact hI _⟩
  · rw [ho]
    refine ⟨by simp, fun i p p' hp hp' => ?_⟩
    rw [kents_get] at hp
    rw [fents_get] at hp'
    cases hk : ks[i]? with
    | none => rw [hk] at hp; simp at hp
    | some k =>
      rw [hk] at hp hp'
      simp only [Option.map_some, Option.some.injEq] at hp hp'
      subst hp; subst hp'
      exact ⟨rfl, .inr ⟨i, getElem?_lt hk, rfl, by simp only [hk]⟩⟩
end Go.Hv
set_option linter.unusedVariables false
set_option linter.unusedSimpArgs false
namespace Go.Hv
open Go Go.Hv Go.Proofs
open Go.Proofs.YthdljfognblpbaaGreatDoor
def eI (n : Int) : HV := .lit (.int .i64 n)
theorem eI_eq (a b : Int) : keyEq Tryz.prog 3 (eI a) (eI b) = some (decide (a = b)) := by simp [eI, keyEq]
def addK (l : List Int) (c : Int) : List Int := if c ∈ l then l else l ++ [c]
def fstK (s : List UInt8) (k : Nat) : List Int := ((List.range k).map (codeAt s)).foldl addK []
theorem fstK_succ (s : List UInt8) (k : Nat) : fstK s (k + 1) = addK (fstK s k) (codeAt s k) := by
  unfold fstK; rw [List.range_succ, List.map_append, List.foldl_append]; rfl
theorem fstK_mem (s : List UInt8) (k : Nat) (c : Int) : c ∈ fstK s k ↔ ∃ i, i < k ∧ codeAt s i = c := by
  induction k with
  | zero => simp [fstK]
  | succ k ih =>
    rw [fstK_succ]
    have : c ∈ addK (fstK s k) (codeAt s k) ↔ c ∈ fstK s k ∨ c = codeAt s k := by
      unfold addK
      split
      · next h => constructor
                  · exact .inl
                  · rintro (h' | rfl); exact h'; exact h
      · simp
    rw [this, ih]
    constructor
    · rintro (⟨i, h1, h2⟩ | rfl)
      · exact ⟨i, by omega, h2⟩
      · exact ⟨k, by omega, rfl⟩
    · rintro ⟨i, h1, h2⟩
      by_cases e : i = k
      · subst e; exact .inr h2.symm
      · exact .inl ⟨i, by omega, h2⟩
theorem fstK_nodup (s : List UInt8) (k : Nat) : (fstK s k).Nodup := by
  induction k with
  | zero => simp [fstK]
  | succ k ih =>
    rw [fstK_succ]
    unfold addK
    split
    · exact ih
    · next h => rw [List.nodup_append]; exact ⟨ih, by simp, fun a ha b hb => by simp at hb; subst hb; rintro rfl; exact h ha⟩
theorem fstK_length (s : List UInt8) (k : Nat) : (fstK s k).length ≤ k := by
  induction k with
  | zero => simp [fstK]
  | succ k ih =>
    rw [fstK_succ]
    unfold addK
    split
    · omega
    · simp; omega
theorem fam_at {B m i : Nat} {g : Nat → HObj} (h : i < m) : fam B m g (B + i) = some (g i) := by
  unfold fam; rw [if_pos (by omega), Nat.add_sub_cancel_left]
theorem fam_not {B m i : Nat} {g : Nat → HObj} (h : i < B ∨ B + m ≤ i) : fam B m g i = none := by
  unfold fam; rw [if_neg (by omega)]
theorem fam_some {B m id : Nat} {g : Nat → HObj} {o : HObj} (h : fam B m g id = some o) : ∃ i, i < m ∧ id = B + i ∧ o = g i := by
  unfold fam at h
  split at h
  · next hc => exact ⟨id - B, by omega, by omega, (Option.some.inj h).symm⟩
  · cases h
def rowK (s : List UInt8) (k i : Nat) : HObj := .row 3 1 (intsHV (offK s k ((fstK s k).getD i 0)))
theorem fstK_succ_get (s : List UInt8) {k i : Nat} (hi : i < (fstK s k).length) : (fstK s (k + 1))[i]? = (fstK s k)[i]? := by
  rw [fstK_succ]; unfold addK
  split
  · rfl
  · rw [List.getElem?_append_left hi]
theorem rowK_same {s : List UInt8} {k i : Nat} (hi : i < (fstK s k).length) (hne : (fstK s k)[i]? ≠ some (codeAt s k)) : rowK s (k + 1) i = rowK s k i := by
  unfold rowK
  rw [List.getD_eq_getElem?_getD, List.getD_eq_getElem?_getD, fstK_succ_get s hi, List.getElem?_eq_getElem hi, offK_succ, if_neg, List.append_nil]
  rw [List.getElem?_eq_getElem hi] at hne
  intro h
  exact hne (by rw [h]; rfl)
theorem rowK_hit {s : List UInt8} {k i : Nat} (he : (fstK s (k + 1))[i]? = some (codeAt s k)) : rowK s (k + 1) i = .row 3 1 (intsHV (offK s k (codeAt s k) ++ [(k : Int)])) := by
  unfold rowK
  rw [List.getD_eq_getElem?_getD, he, offK_succ]
  simp
theorem offK_none {s : List UInt8} {k : Nat} {c : Int} (h : c ∉ fstK s k) : offK s k c = [] := by
  unfold offK
  rw [List.filter_eq_nil_iff.2 (fun i hi => by
    intro h2
    exact h ((fstK_mem s k c).2 ⟨i, by simpa using hi, by simpa using h2⟩))]
  rfl
theorem isIM_fents {K : Type} (enc g : K → HV) (ks : List K) (h : ∀ k, isI (g k) = true) : isIM (fents enc g ks) = true := by
  unfold isIM fents
  simp [h]
theorem isIM_occ (s : List UInt8) (n : Nat) (ks : List Int) : isIM (fents eI (fun k => HV.sl 1 false (intsHV (offK s n k))) ks) = true := isIM_fents _ _ _ (fun _ => rfl)
def occV (s : List UInt8) : List (HV × HV) := fents eI (fun c => .sl 1 false (intsHV (offK s (s.length - 2) c))) (fstK s (s.length - 2))
set_option maxHeartbeats 1000000 in
theorem occ_spec (s : List UInt8) (hs : s.length ≤ 900000) : Spec1 Tryz.prog 72 [.str s] (.mp (occV s)) := by
  refine Spec1.of_HT Tryz.func72 rfl (by rw [Tryz.ntmps72]; simp) rfl ?_
  rw [Tryz.ntmps72]
  refine HT.seq ?_
  refine HT.region ?_   -- R0
  simp (disch := first | omega | (simp <;> omega) | fail) [wrap_i64, wrap_u64, wrap_u8']
  refine HT.seq ?_
  refine HT.region ?_   -- R1
  simp (disch := first | omega | (simp <;> omega) | fail) [wrap_i64, wrap_u64, wrap_u8']
  refine stepK.mk (.call1 _ _ _ _ rfl Ty.hb103 rfl (Fold_spec s (by omega)) rfl rfl) ?_
  simp (disch := first | omega | (simp <;> omega) | fail) [wrap_i64, wrap_u64, wrap_u8']
  refine HT.seq ?_
  refine HT.region ?_   -- R2
  simp (disch := first | omega | (simp <;> omega) | fail) [wrap_i64, wrap_u64, wrap_u8']
  refine HT.seq ?_
  refine HT.seq ?_
  refine HT.region ?_   -- R3
  simp (disch := first | omega | (simp <;> omega) | fail) [wrap_i64, wrap_u64, wrap_u8']
  refine HT.block ?_
  refine HT.loopK (fun k : {k : Nat // k ≤ s.length - 2} => [.s 5 (i64 k), .o 9 (.map (kents eI 1000 (fstK s k))), .os (fam 1000 (fstK s k).length (rowK s k))]) [3, 4] [] (fun k => s.length - k) (⟨0, by omega⟩) ?_ ?_   -- block 0 turned [5]
  · skip
    simp [show fstK s 0 = [] from rfl]
    intro id o h
    obtain ⟨i, hi, _⟩ := fam_some h
    omega
  rintro ⟨k, hk⟩
  simp (disch := first | omega | (simp <;> omega) | fail) [wrap_i64, wrap_u64, wrap_u8']
  refine HT.seq ?_
  refine HT.seq ?_
  refine HT.region ?_   -- R4
  simp (disch := first | omega | (simp <;> omega) | fail) [wrap_i64, wrap_u64, wrap_u8']
  refine HT.cond' ?_   -- if 14
  simp (disch := first | omega | (simp <;> omega) | fail) [wrap_i64, wrap_u64, wrap_u8']
  refine ⟨fun h14 => ?_, fun h14 => ?_⟩
  · skip
    have hk' : k + 2 < s.length := by omega
    have hlen := fstK_length s k
    have hcode := codeAt_foldS hk'
    refine HT.skip ?_
    simp (disch := first | omega | (simp <;> omega) | fail) [wrap_i64, wrap_u64, wrap_u8']
    refine HT.seq ?_
    refine HT.block ?_
    refine HT.seq ?_
    refine HT.region ?_   -- R6
    simp (disch := first | omega | (simp <;> omega) | fail) [wrap_i64, wrap_u64, wrap_u8']
    refine stepK.mk (.call1 _ _ _ _ rfl Ty.hb104 rfl (code_spec (foldS s) k (by simp; omega) (by simp; omega)) rfl rfl) ?_
    simp (disch := first | omega | (simp <;> omega) | fail) [wrap_i64, wrap_u64, wrap_u8', ← hcode]
    by_cases cf : codeAt s k ∈ fstK s k
    · skip
      have hlt := List.idxOf_lt_length_iff.2 cf
      have hb := offK_length s k (codeAt s k)
      have hgd : rowK s k ((fstK s k).idxOf (codeAt s k)) = .row 3 1 (intsHV (offK s k (codeAt s k))) := by
        unfold rowK; rw [List.getD_eq_getElem?_getD, List.getElem?_eq_getElem hlt, List.getElem_idxOf hlt]; rfl
      generalize hidx : (fstK s k).idxOf (codeAt s k) = q at *
      have hf1 : findHV Tryz.prog 3 (.lit (.int .i64 (codeAt s k))) (kents eI 1000 (fstK s k)) 0 = some (some (q, .ref (1000 + q))) := by
        have := find_kents (P := Tryz.prog) eI_eq 1000 (codeAt s k) (fstK s k); rw [if_pos cf, hidx] at this; exact this
      have hs1 : subM (1000 + q) .any .any (kents eI 1000 (fstK s k)) = (kents eI 1000 (fstK s k)).set q (.lit (.int .i64 (codeAt s k)), .any) := by rw [← hidx]; exact subM_kents_at cf
      have hf2 : findHV Tryz.prog 3 (.lit (.int .i64 (codeAt s k))) ((kents eI 1000 (fstK s k)).set q (.lit (.int .i64 (codeAt s k)), .any)) 0 = some (some (q, .any)) := by rw [← hidx]; exact find_kents_set eI_eq 1000 (fstK s k) cf .any
      have hg1 : ((kents eI 1000 (fstK s k)).set q (.lit (.int .i64 (codeAt s k)), .any))[q]? = some (.lit (.int .i64 (codeAt s k)), .any) := by rw [← hidx]; exact kents_set_get (enc := eI) 1000 cf .any
      have hb1 : (kents eI 1000 (fstK s k)).set q (.lit (.int .i64 (codeAt s k)), .ref (1000 + q)) = kents eI 1000 (fstK s k) := by rw [← hidx]; exact kents_back (enc := eI) 1000 cf
      refine HT.region ?_   -- R7
      simp (disch := first | omega | (simp <;> omega) | fail) [wrap_i64, wrap_u64, wrap_u8', hf1, hs1, hf2, hg1, hb1, hgd, fam_at hlt]
      refine HT.region ?_   -- R5
      simp (disch := first | omega | (simp <;> omega) | fail) [wrap_i64, wrap_u64, wrap_u8']
      refine Round.mk' (⟨k + 1, by omega⟩) (by dsimp only; omega) rfl ?_
      simp (disch := first | omega | (simp <;> omega) | fail) [wrap_i64, wrap_u64, wrap_u8']
      first
      | (have e1 : fstK s (k + 1) = fstK s k := by rw [fstK_succ, addK, if_pos cf]
         have e2 : (fstK s (k + 1))[q]? = some (codeAt s k) := by rw [e1, ← hidx, List.getElem?_eq_getElem (by rw [hidx]; exact hlt), List.getElem_idxOf]
         refine ⟨by rw [e1], fun id o h => ?_⟩
         rw [e1] at h
         obtain ⟨i, hi, rfl, rfl⟩ := fam_some h
         rw [if_neg (by omega)]
         by_cases e : q = i
         · subst e; rw [if_pos rfl, rowK_hit e2]
         · have hne : (fstK s k)[i]? ≠ some (codeAt s k) := fun h' => e (by
             rw [← hidx]
             have hi2 := List.getElem?_eq_getElem hi
             rw [hi2] at h'
             have := (fstK_nodup s k).idxOf_getElem i hi
             rw [Option.some.inj h'] at this
             exact this)
           rw [if_neg (by omega), fam_at hi, rowK_same hi hne]
           simp [rowK])
      | (have e1 : fstK s (k + 1) = fstK s k ++ [codeAt s k] := by rw [fstK_succ, addK, if_neg cf]
         have hs2 : subM (1000 + (fstK s k).length) .any .any (kents eI 1000 (fstK s k)) = kents eI 1000 (fstK s k) := subM_kents_out (.inr (Nat.le_refl _))
         have hs3 : subM 27 (.ref (1000 + (fstK s k).length)) (.mref (1000 + (fstK s k).length)) (kents eI 1000 (fstK s k)) = kents eI 1000 (fstK s k) := subM_kents_out (.inl (by decide))
         refine ⟨?_, fun id o h => ?_⟩
         · rw [e1, kents_snoc]
           have ha : ∀ (a b : List (HV × HV)) i x y, subM i x y (a ++ b) = subM i x y a ++ subM i x y b := fun a b i x y => by simp [subM]
           rw [ha, ha, hs2, hs3]
           simp [subM, eI, show ¬ 27 = 1000 + (fstK s k).length by omega]
         · obtain ⟨i, hi, rfl, rfl⟩ := fam_some h
           rw [e1, List.length_append, List.length_singleton] at hi
           by_cases e : (fstK s k).length = i
           · subst e
             rw [if_pos rfl, rowK_hit (by rw [e1, List.getElem?_append_right (Nat.le_refl _), Nat.sub_self]; rfl), offK_none cf]
             rfl
           · have hi' : i < (fstK s k).length := by omega
             have hne : (fstK s k)[i]? ≠ some (codeAt s k) := fun h' => cf (List.mem_of_getElem? h')
             rw [rowK_same hi' hne]
             simp (disch := first | omega | (simp; done) | fail) [show ¬ (fstK s k).length = i from e, fam_at hi', rowK])
    have hf1 : findHV Tryz.prog 3 (.lit (.int .i64 (codeAt s k))) (kents eI 1000 (fstK s k)) 0 = some none := by
      have := find_kents (P := Tryz.prog) eI_eq 1000 (codeAt s k) (fstK s k); rw [if_neg cf] at this; exact this
    have hs1 : subM 27 .any .any (kents eI 1000 (fstK s k)) = kents eI 1000 (fstK s k) := subM_kents_out (.inl (by decide))
    refine HT.region ?_   -- R7
    simp (disch := first | omega | (simp <;> omega) | fail) [wrap_i64, wrap_u64, wrap_u8', hf1, hs1]
    refine HT.weaken (HS.le_ren 27 (1000 + (fstK s k).length) rfl ?_) ?_
    · simp (disch := first | omega | (simp <;> omega) | fail) [wrap_i64, wrap_u64, wrap_u8', fam_not]
    simp only [HObj.sub]
    refine HT.region ?_   -- R5
    simp (disch := first | omega | (simp <;> omega) | fail) [wrap_i64, wrap_u64, wrap_u8']
    refine Round.mk' (⟨k + 1, by omega⟩) (by dsimp only; omega) rfl ?_
    simp (disch := first | omega | (simp <;> omega) | fail) [wrap_i64, wrap_u64, wrap_u8']
    first
    | (have e1 : fstK s (k + 1) = fstK s k := by rw [fstK_succ, addK, if_pos cf]
       have e2 : (fstK s (k + 1))[q]? = some (codeAt s k) := by rw [e1, ← hidx, List.getElem?_eq_getElem (by rw [hidx]; exact hlt), List.getElem_idxOf]
       refine ⟨by rw [e1], fun id o h => ?_⟩
       rw [e1] at h
       obtain ⟨i, hi, rfl, rfl⟩ := fam_some h
       rw [if_neg (by omega)]
       by_cases e : q = i
       · subst e; rw [if_pos rfl, rowK_hit e2]
       · have hne : (fstK s k)[i]? ≠ some (codeAt s k) := fun h' => e (by
           rw [← hidx]
           have hi2 := List.getElem?_eq_getElem hi
           rw [hi2] at h'
           have := (fstK_nodup s k).idxOf_getElem i hi
           rw [Option.some.inj h'] at this
           exact this)
         rw [if_neg (by omega), fam_at hi, rowK_same hi hne]
         simp [rowK])
    | (have e1 : fstK s (k + 1) = fstK s k ++ [codeAt s k] := by rw [fstK_succ, addK, if_neg cf]
       have hs2 : subM (1000 + (fstK s k).length) .any .any (kents eI 1000 (fstK s k)) = kents eI 1000 (fstK s k) := subM_kents_out (.inr (Nat.le_refl _))
       have hs3 : subM 27 (.ref (1000 + (fstK s k).length)) (.mref (1000 + (fstK s k).length)) (kents eI 1000 (fstK s k)) = kents eI 1000 (fstK s k) := subM_kents_out (.inl (by decide))
       refine ⟨?_, fun id o h => ?_⟩
       · rw [e1, kents_snoc]
         have ha : ∀ (a b : List (HV × HV)) i x y, subM i x y (a ++ b) = subM i x y a ++ subM i x y b := fun a b i x y => by simp [subM]
         rw [ha, ha, hs2, hs3]
         simp [subM, eI, show ¬ 27 = 1000 + (fstK s k).length by omega]
       · obtain ⟨i, hi, rfl, rfl⟩ := fam_some h
         rw [e1, List.length_append, List.length_singleton] at hi
         by_cases e : (fstK s k).length = i
         · subst e
           rw [if_pos rfl, rowK_hit (by rw [e1, List.getElem?_append_right (Nat.le_refl _), Nat.sub_self]; rfl), offK_none cf]
           rfl
         · have hi' : i < (fstK s k).length := by omega
           have hne : (fstK s k)[i]? ≠ some (codeAt s k) := fun h' => cf (List.mem_of_getElem? h')
           rw [rowK_same hi' hne]
           simp (disch := first | omega | (simp; done) | fail) [show ¬ (fstK s k).length = i from e, fam_at hi', rowK])
  · skip
    obtain rfl : k = s.length - 2 := by omega
    refine HT.exit ?_
    simp (disch := first | omega | (simp <;> omega) | fail) [wrap_i64, wrap_u64, wrap_u8']
    refine HT.weaken (HS.le_frzK (m := 9) (sz := 1) 1000 eI 3 (fun c => intsHV (offK s (s.length - 2) c)) (fstK s (s.length - 2)) (by decide) ?_ (fun _ => by simp) ?_) ?_
    · simp (disch := first | omega | (simp <;> omega) | fail) [wrap_i64, wrap_u64, wrap_u8']
    · intro i c hc
      have hi := getElem?_lt hc
      obtain rfl : (fstK s (s.length - 2))[i] = c := by rw [List.getElem?_eq_getElem hi] at hc; exact Option.some.inj hc
      simp (disch := first | omega | (simp <;> omega) | fail) [wrap_i64, wrap_u64, wrap_u8', fam_at hi, rowK]
    refine HT.seq ?_
    refine HT.region ?_   -- R8
    simp (disch := first | omega | (simp <;> omega) | fail) [wrap_i64, wrap_u64, wrap_u8']
    refine HT.ret ?_
    simp (disch := first | omega | (simp <;> omega) | fail) [wrap_i64, wrap_u64, wrap_u8', isIM_occ, occV]
end Go.Hv
/- The kit's contracts of library functions, laid at this program by the kit's own tool (plain words). -/
namespace Go.Proofs
open Go.Shelf
open Go.RowKit in
open Go.RowKit Go.Lib in
open Go.RowKit Go.Lib in
open Go.RowKit Go.Lib in
open Go.RowKit Go.Lib in
open Go.RowKit Go.Lib in
open Go.RowKit Go.Lib in
open Go.RowKit Go.Lib in
open Go.RowKit Go.Lib in
def Tryz.lays144_ren : Go.Shelf.Ren := ⟨fun | 144 => 125 | 143 => 144 | 219 => 150 | 217 => 154 | 225 => 155 | 224 => 156 | 267 => 157 | 266 => 161 | 314 => 162 | n => n, fun | 9 => 9 | 4 => 4 | 3 => 3 | 5 => 5 | 46 => 110 | 146 => 169 | 51 => 134 | n => n, fun | 1 => 0 | n => n⟩
theorem Tryz.lays144 : Go.Proofs.Lays.n144 Tryz.prog Tryz.lays144_ren := {
  mixed := by kernel_rfl
  f143 := Tryz.func144.trans (congrArg some (by kernel_rfl))
  f144 := Tryz.func125.trans (congrArg some (by kernel_rfl))
  f217 := Tryz.func154.trans (congrArg some (by kernel_rfl))
  f219 := Tryz.func150.trans (congrArg some (by kernel_rfl))
  f224 := Tryz.func156.trans (congrArg some (by kernel_rfl))
  f225 := Tryz.func155.trans (congrArg some (by kernel_rfl))
  f266 := Tryz.func161.trans (congrArg some (by kernel_rfl))
  f267 := Tryz.func157.trans (congrArg some (by kernel_rfl))
  f314 := Tryz.func162.trans (congrArg some (by kernel_rfl))
  t3 := Tryz.underlying3
  a3 := Tryz.isAgg3
  z3 := Tryz.sizeOf3
  v3 := Tryz.zeroValue3
  t4 := Tryz.underlying4
  a4 := Tryz.isAgg4
  z4 := Tryz.sizeOf4
  v4 := Tryz.zeroValue4
  t5 := Tryz.underlying5
  a5 := Tryz.isAgg5
  z5 := Tryz.sizeOf5
  v5 := Tryz.zeroValue5
  t9 := Tryz.underlying9
  a9 := Tryz.isAgg9
  z9 := Tryz.sizeOf9
  v9 := Tryz.zeroValue9
  t46 := Tryz.underlying110
  a46 := Tryz.isAgg110
  z46 := Tryz.sizeOf110
  v46 := Tryz.zeroValue110
  t51 := Tryz.underlying134
  a51 := Tryz.isAgg134
  z51 := Tryz.sizeOf134
  v51 := Tryz.zeroValue134
  t146 := Tryz.underlying169
  a146 := Tryz.isAgg169
  z146 := Tryz.sizeOf169
  v146 := Tryz.zeroValue169
  g1 := by kernel_rfl }
open Go.RowKit Go.Lib in
theorem Tryz.strings_Contains_one (s : ByteArray) (c : UInt8) (w : World) :
    Calls Tryz.prog 125 #[.string s, .string ⟨#[c]⟩] w fun e w' => e = .returned (.bool (decide (0 ≤ Lib.indexByte s.data.toList c))) ∧ w' = w := Any.strings_Contains_one Tryz.lays144 s c w
open Go.RowKit Go.Lib in
open Go.RowKit Go.Lib in
open Go.RowKit Go.Lib in
open Go.RowKit Go.Lib in
open Go.RowKit Go.Lib in
open Go.RowKit Go.Lib in
open Go.RowKit Go.Lib in
open Go.RowKit Go.Lib in
open Go.RowKit Go.Lib in
def Tryz.lays146_ren : Go.Shelf.Ren := ⟨fun | 146 => 126 | 221 => 145 | 268 => 151 | 138 => 152 | 143 => 144 | 195 => 158 | 197 => 159 | 218 => 160 | 219 => 150 | 260 => 163 | 217 => 154 | 225 => 155 | 224 => 156 | 267 => 157 | 266 => 161 | 314 => 162 | n => n, fun | 9 => 9 | 31 => 45 | 3 => 3 | 4 => 4 | 0 => 0 | 105 => 167 | 21 => 21 | 5 => 5 | 46 => 110 | 119 => 171 | 139 => 174 | 138 => 173 | 146 => 169 | 51 => 134 | n => n, fun | 1 => 0 | 3 => 1 | 4 => 2 | n => n⟩
theorem Tryz.lays146 : Go.Proofs.Lays.n146 Tryz.prog Tryz.lays146_ren := {
  mixed := by kernel_rfl
  f138 := Tryz.func152.trans (congrArg some (by kernel_rfl))
  f143 := Tryz.func144.trans (congrArg some (by kernel_rfl))
  f146 := Tryz.func126.trans (congrArg some (by kernel_rfl))
  f195 := Tryz.func158.trans (congrArg some (by kernel_rfl))
  f197 := Tryz.func159.trans (congrArg some (by kernel_rfl))
  f217 := Tryz.func154.trans (congrArg some (by kernel_rfl))
  f218 := Tryz.func160.trans (congrArg some (by kernel_rfl))
  f219 := Tryz.func150.trans (congrArg some (by kernel_rfl))
  f221 := Tryz.func145.trans (congrArg some (by kernel_rfl))
  f224 := Tryz.func156.trans (congrArg some (by kernel_rfl))
  f225 := Tryz.func155.trans (congrArg some (by kernel_rfl))
  f260 := Tryz.func163.trans (congrArg some (by kernel_rfl))
  f266 := Tryz.func161.trans (congrArg some (by kernel_rfl))
  f267 := Tryz.func157.trans (congrArg some (by kernel_rfl))
  f268 := Tryz.func151.trans (congrArg some (by kernel_rfl))
  f314 := Tryz.func162.trans (congrArg some (by kernel_rfl))
  t0 := Tryz.underlying0
  a0 := Tryz.isAgg0
  z0 := Tryz.sizeOf0
  v0 := Tryz.zeroValue0
  t3 := Tryz.underlying3
  a3 := Tryz.isAgg3
  z3 := Tryz.sizeOf3
  v3 := Tryz.zeroValue3
  t4 := Tryz.underlying4
  a4 := Tryz.isAgg4
  z4 := Tryz.sizeOf4
  v4 := Tryz.zeroValue4
  t5 := Tryz.underlying5
  a5 := Tryz.isAgg5
  z5 := Tryz.sizeOf5
  v5 := Tryz.zeroValue5
  t9 := Tryz.underlying9
  a9 := Tryz.isAgg9
  z9 := Tryz.sizeOf9
  v9 := Tryz.zeroValue9
  t21 := Tryz.underlying21
  a21 := Tryz.isAgg21
  z21 := Tryz.sizeOf21
  v21 := Tryz.zeroValue21
  t31 := Tryz.underlying45
  a31 := Tryz.isAgg45
  z31 := Tryz.sizeOf45
  v31 := Tryz.zeroValue45
  t46 := Tryz.underlying110
  a46 := Tryz.isAgg110
  z46 := Tryz.sizeOf110
  v46 := Tryz.zeroValue110
  t51 := Tryz.underlying134
  a51 := Tryz.isAgg134
  z51 := Tryz.sizeOf134
  v51 := Tryz.zeroValue134
  t105 := Tryz.underlying167
  a105 := Tryz.isAgg167
  z105 := Tryz.sizeOf167
  v105 := Tryz.zeroValue167
  t119 := Tryz.underlying171
  a119 := Tryz.isAgg171
  z119 := Tryz.sizeOf171
  t138 := Tryz.underlying173
  a138 := Tryz.isAgg173
  z138 := Tryz.sizeOf173
  v138 := Tryz.zeroValue173
  t139 := Tryz.underlying174
  a139 := Tryz.isAgg174
  z139 := Tryz.sizeOf174
  v139 := Tryz.zeroValue174
  t146 := Tryz.underlying169
  a146 := Tryz.isAgg169
  z146 := Tryz.sizeOf169
  v146 := Tryz.zeroValue169
  g1 := by kernel_rfl
  g3 := by kernel_rfl
  g4 := by kernel_rfl }
open Go.RowKit Go.Lib in
theorem Tryz.strings_Split (s sep : ByteArray) (m : Int) (w : World) (hs : s.size < 4294967281) (hm : w.cell? ⟨0, 0, none⟩ = some (.int .i64 m)) (h1 : 1 ≤ sep.size) :
    Calls Tryz.prog 126 #[.string s, .string sep] w fun e w' =>
      e = .returned (.slice (some ⟨w.heap.size, 0, none⟩) (Lib.countB s sep + 1) (Lib.countB s sep + 1)) ∧ w' = w.alloc (.cells ((Lib.splitB sep 0 (Lib.countB s sep) s).map Value.string).toArray 9) := Any.strings_Split Tryz.lays146 (by kernel_rfl) s sep m w hs hm h1
end Go.Proofs
namespace Go.Proofs
open Go.Shelf
def Tryz.laysF73_ren : Go.Shelf.Ren := ⟨fun | 6 => 73 | 15 => 76 | 14 => 105 | 28 => 114 | 29 => 115 | 20 => 128 | 21 => 129 | 22 => 130 | 23 => 131 | 24 => 132 | 25 => 133 | 26 => 134 | 27 => 135 | 46 => 146 | 47 => 137 | 48 => 138 | 49 => 147 | 50 => 148 | 57 => 153 | n => n, fun | 22 => 65 | 24 => 68 | 25 => 107 | 3 => 3 | 39 => 110 | 0 => 0 | 53 => 134 | 55 => 136 | 4 => 4 | 46 => 127 | 45 => 126 | 50 => 131 | 5 => 5 | 9 => 9 | 66 => 150 | 70 => 154 | 76 => 160 | 77 => 161 | n => n, fun | n => n⟩
theorem Tryz.laysF73 : Go.Proofs.SlLaysF0.n6 Tryz.prog Tryz.laysF73_ren := {
  mixed := by kernel_rfl
  f6 := ⟨Tryz.f73.name, by decide, Tryz.func73.trans (congrArg some (by kernel_rfl))⟩
  f14 := ⟨Tryz.f105.name, by decide, Tryz.func105.trans (congrArg some (by kernel_rfl))⟩
  f15 := Tryz.func76.trans (congrArg some (by kernel_rfl))
  f20 := ⟨Tryz.f128.name, by decide, Tryz.func128.trans (congrArg some (by kernel_rfl))⟩
  f21 := ⟨Tryz.f129.name, by decide, Tryz.func129.trans (congrArg some (by kernel_rfl))⟩
  f22 := ⟨Tryz.f130.name, by decide, Tryz.func130.trans (congrArg some (by kernel_rfl))⟩
  f23 := ⟨Tryz.f131.name, by decide, Tryz.func131.trans (congrArg some (by kernel_rfl))⟩
  f24 := ⟨Tryz.f132.name, by decide, Tryz.func132.trans (congrArg some (by kernel_rfl))⟩
  f25 := ⟨Tryz.f133.name, by decide, Tryz.func133.trans (congrArg some (by kernel_rfl))⟩
  f26 := ⟨Tryz.f134.name, by decide, Tryz.func134.trans (congrArg some (by kernel_rfl))⟩
  f27 := ⟨Tryz.f135.name, by decide, Tryz.func135.trans (congrArg some (by kernel_rfl))⟩
  f28 := Tryz.func114.trans (congrArg some (by kernel_rfl))
  f29 := Tryz.func115.trans (congrArg some (by kernel_rfl))
  f46 := ⟨Tryz.f146.name, by decide, Tryz.func146.trans (congrArg some (by kernel_rfl))⟩
  f47 := Tryz.func137.trans (congrArg some (by kernel_rfl))
  f48 := Tryz.func138.trans (congrArg some (by kernel_rfl))
  f49 := ⟨Tryz.f147.name, by decide, Tryz.func147.trans (congrArg some (by kernel_rfl))⟩
  f50 := ⟨Tryz.f148.name, by decide, Tryz.func148.trans (congrArg some (by kernel_rfl))⟩
  f57 := ⟨Tryz.f153.name, by decide, Tryz.func153.trans (congrArg some (by kernel_rfl))⟩
  t0 := Tryz.underlying0
  a0 := Tryz.isAgg0
  z0 := Tryz.sizeOf0
  v0 := Tryz.zeroValue0
  t3 := Tryz.underlying3
  a3 := Tryz.isAgg3
  z3 := Tryz.sizeOf3
  v3 := Tryz.zeroValue3
  t4 := Tryz.underlying4
  a4 := Tryz.isAgg4
  z4 := Tryz.sizeOf4
  v4 := Tryz.zeroValue4
  t5 := Tryz.underlying5
  a5 := Tryz.isAgg5
  z5 := Tryz.sizeOf5
  v5 := Tryz.zeroValue5
  t9 := Tryz.underlying9
  a9 := Tryz.isAgg9
  z9 := Tryz.sizeOf9
  v9 := Tryz.zeroValue9
  t22 := Tryz.underlying65
  a22 := Tryz.isAgg65
  z22 := Tryz.sizeOf65
  v22 := Tryz.zeroValue65
  t25 := Tryz.underlying107
  a25 := Tryz.isAgg107
  z25 := Tryz.sizeOf107
  v25 := Tryz.zeroValue107
  t39 := Tryz.underlying110
  a39 := Tryz.isAgg110
  z39 := Tryz.sizeOf110
  v39 := Tryz.zeroValue110
  t45 := Tryz.underlying126
  a45 := Tryz.isAgg126
  z45 := Tryz.sizeOf126
  v45 := Tryz.zeroValue126
  t46 := Tryz.underlying127
  a46 := Tryz.isAgg127
  z46 := Tryz.sizeOf127
  v46 := Tryz.zeroValue127
  t50 := Tryz.underlying131
  a50 := Tryz.isAgg131
  z50 := Tryz.sizeOf131
  v50 := Tryz.zeroValue131
  t53 := Tryz.underlying134
  a53 := Tryz.isAgg134
  z53 := Tryz.sizeOf134
  v53 := Tryz.zeroValue134
  t55 := Tryz.underlying136
  a55 := Tryz.isAgg136
  z55 := Tryz.sizeOf136
  v55 := Tryz.zeroValue136
  t66 := Tryz.underlying150
  a66 := Tryz.isAgg150
  z66 := Tryz.sizeOf150
  v66 := Tryz.zeroValue150
  t70 := Tryz.underlying154
  a70 := Tryz.isAgg154
  z70 := Tryz.sizeOf154
  v70 := Tryz.zeroValue154
  t76 := Tryz.underlying160
  a76 := Tryz.isAgg160
  z76 := Tryz.sizeOf160
  v76 := Tryz.zeroValue160
  t77 := Tryz.underlying161
  a77 := Tryz.isAgg161
  z77 := Tryz.sizeOf161
  v77 := Tryz.zeroValue161 }
def Tryz.laysF41_ren : Go.Shelf.Ren := ⟨fun | 6 => 41 | 15 => 76 | 14 => 75 | 28 => 114 | 29 => 115 | 20 => 106 | 21 => 107 | 22 => 108 | 23 => 109 | 24 => 110 | 25 => 111 | 26 => 112 | 27 => 113 | 46 => 136 | 47 => 137 | 48 => 138 | 49 => 139 | 50 => 140 | 57 => 149 | n => n, fun | 22 => 27 | 24 => 56 | 25 => 71 | 3 => 3 | 39 => 110 | 0 => 0 | 53 => 134 | 55 => 136 | 4 => 4 | 46 => 127 | 45 => 126 | 50 => 131 | 5 => 5 | 9 => 9 | 66 => 150 | 70 => 154 | 76 => 160 | 77 => 161 | n => n, fun | n => n⟩
theorem Tryz.laysF41 : Go.Proofs.SlLaysF0.n6 Tryz.prog Tryz.laysF41_ren := {
  mixed := by kernel_rfl
  f6 := ⟨Tryz.f41.name, by decide, Tryz.func41.trans (congrArg some (by kernel_rfl))⟩
  f14 := ⟨Tryz.f75.name, by decide, Tryz.func75.trans (congrArg some (by kernel_rfl))⟩
  f15 := Tryz.func76.trans (congrArg some (by kernel_rfl))
  f20 := ⟨Tryz.f106.name, by decide, Tryz.func106.trans (congrArg some (by kernel_rfl))⟩
  f21 := ⟨Tryz.f107.name, by decide, Tryz.func107.trans (congrArg some (by kernel_rfl))⟩
  f22 := ⟨Tryz.f108.name, by decide, Tryz.func108.trans (congrArg some (by kernel_rfl))⟩
  f23 := ⟨Tryz.f109.name, by decide, Tryz.func109.trans (congrArg some (by kernel_rfl))⟩
  f24 := ⟨Tryz.f110.name, by decide, Tryz.func110.trans (congrArg some (by kernel_rfl))⟩
  f25 := ⟨Tryz.f111.name, by decide, Tryz.func111.trans (congrArg some (by kernel_rfl))⟩
  f26 := ⟨Tryz.f112.name, by decide, Tryz.func112.trans (congrArg some (by kernel_rfl))⟩
  f27 := ⟨Tryz.f113.name, by decide, Tryz.func113.trans (congrArg some (by kernel_rfl))⟩
  f28 := Tryz.func114.trans (congrArg some (by kernel_rfl))
  f29 := Tryz.func115.trans (congrArg some (by kernel_rfl))
  f46 := ⟨Tryz.f136.name, by decide, Tryz.func136.trans (congrArg some (by kernel_rfl))⟩
  f47 := Tryz.func137.trans (congrArg some (by kernel_rfl))
  f48 := Tryz.func138.trans (congrArg some (by kernel_rfl))
  f49 := ⟨Tryz.f139.name, by decide, Tryz.func139.trans (congrArg some (by kernel_rfl))⟩
  f50 := ⟨Tryz.f140.name, by decide, Tryz.func140.trans (congrArg some (by kernel_rfl))⟩
  f57 := ⟨Tryz.f149.name, by decide, Tryz.func149.trans (congrArg some (by kernel_rfl))⟩
  t0 := Tryz.underlying0
  a0 := Tryz.isAgg0
  z0 := Tryz.sizeOf0
  v0 := Tryz.zeroValue0
  t3 := Tryz.underlying3
  a3 := Tryz.isAgg3
  z3 := Tryz.sizeOf3
  v3 := Tryz.zeroValue3
  t4 := Tryz.underlying4
  a4 := Tryz.isAgg4
  z4 := Tryz.sizeOf4
  v4 := Tryz.zeroValue4
  t5 := Tryz.underlying5
  a5 := Tryz.isAgg5
  z5 := Tryz.sizeOf5
  v5 := Tryz.zeroValue5
  t9 := Tryz.underlying9
  a9 := Tryz.isAgg9
  z9 := Tryz.sizeOf9
  v9 := Tryz.zeroValue9
  t22 := Tryz.underlying27
  a22 := Tryz.isAgg27
  z22 := Tryz.sizeOf27
  v22 := Tryz.zeroValue27
  t25 := Tryz.underlying71
  a25 := Tryz.isAgg71
  z25 := Tryz.sizeOf71
  v25 := Tryz.zeroValue71
  t39 := Tryz.underlying110
  a39 := Tryz.isAgg110
  z39 := Tryz.sizeOf110
  v39 := Tryz.zeroValue110
  t45 := Tryz.underlying126
  a45 := Tryz.isAgg126
  z45 := Tryz.sizeOf126
  v45 := Tryz.zeroValue126
  t46 := Tryz.underlying127
  a46 := Tryz.isAgg127
  z46 := Tryz.sizeOf127
  v46 := Tryz.zeroValue127
  t50 := Tryz.underlying131
  a50 := Tryz.isAgg131
  z50 := Tryz.sizeOf131
  v50 := Tryz.zeroValue131
  t53 := Tryz.underlying134
  a53 := Tryz.isAgg134
  z53 := Tryz.sizeOf134
  v53 := Tryz.zeroValue134
  t55 := Tryz.underlying136
  a55 := Tryz.isAgg136
  z55 := Tryz.sizeOf136
  v55 := Tryz.zeroValue136
  t66 := Tryz.underlying150
  a66 := Tryz.isAgg150
  z66 := Tryz.sizeOf150
  v66 := Tryz.zeroValue150
  t70 := Tryz.underlying154
  a70 := Tryz.isAgg154
  z70 := Tryz.sizeOf154
  v70 := Tryz.zeroValue154
  t76 := Tryz.underlying160
  a76 := Tryz.isAgg160
  z76 := Tryz.sizeOf160
  v76 := Tryz.zeroValue160
  t77 := Tryz.underlying161
  a77 := Tryz.isAgg161
  z77 := Tryz.sizeOf161
  v77 := Tryz.zeroValue161 }
end Go.Proofs
set_option linter.unusedVariables false
set_option linter.unusedSimpArgs false
namespace Go.Hv
open Go Go.Hv Go.Proofs Go.RowKit
open Go.Sort (putRow putCells Holds grow mapBlock onCells)
open Go.Proofs.YthdljfognblpbaaGreatDoor
def leI (a b : Int) : Bool := decide (a ≤ b)
set_option maxHeartbeats 1000000 in
theorem closure74 (x y : El) (W : World) : Calls Tryz.prog 74 #[.agg #[.int .i64 x.1.1, x.1.2], .agg #[.int .i64 y.1.1, y.1.2]] W fun e w' => e = .returned (.int .i64 (cfE x y)) ∧ ∃ q os', w' = grow (W.drewN q) os' := by
  have hw : IntKind.i64.wrap (x.1.1 - y.1.1) = cfE x y := by
    have := x.2.1; have := y.2.1
    unfold cfE
    simp [IntKind.wrap, IntKind.bits, IntKind.signed]; omega
  go_enter Tryz.func74, Tryz.ntmps74
  go_wp2
  go_ret
  exact ⟨rfl, 0, _, by rw [Go.Sort.alloc_eq_grow, Go.Sort.alloc_eq_grow, Go.Sort.grow_grow]; rfl⟩
theorem SortFunc_spec (cs : List (Int × HV)) (hr : ∀ p ∈ cs, 0 ≤ p.1 ∧ p.1 < 16777216) (hnd : (cs.map (·.1)).Nodup) (hI : ∀ p ∈ cs, isI p.2 = true) (hlen : cs.length < 4611686018427387904) : SpecS Tryz.prog 73 68 2 (pairsHV cs) [.fn (.func 74) []] (pairsHV (cs.mergeSort leC)) := by
  refine SpecS.sortCode cs hr hnd hI hlen (fun d blk cap w hH hblk hsz => ?_) (fun A w => ?_)
  · have eg : ∀ args w, (callFunc 74 args).run Tryz.prog w = .ok (.enter 74 args) w := enters_of Tryz.func74 (by kernel_rfl) rfl
    exact AnyQ.slices_SortFunc Tryz.laysF73 2 Tryz.isAgg68 Tryz.sizeOf68 encE (fun _ => rfl) (fun x v hv => by simp [encE] at hv; rcases hv with rfl | rfl; rfl; exact x.2.2) cfE swoE 74 #[] blk 0 cap d w eg (fun _ _ _ _ x y => closure74 x y _) hH hblk hsz
  · exact AnyF.slices_SortFunc_none (P := Tryz.prog) (ρ := Tryz.laysF73_ren) { Tryz.laysF73 with } A 0 (.func (.func 74) #[] #[]) w
set_option maxHeartbeats 1000000 in
theorem closure42 (x y : El) (W : World) : Calls Tryz.prog 42 #[.agg #[.int .i64 x.1.1, x.1.2], .agg #[.int .i64 y.1.1, y.1.2]] W fun e w' => e = .returned (.int .i64 (cfE x y)) ∧ ∃ q os', w' = grow (W.drewN q) os' := by
  have hw : IntKind.i64.wrap (x.1.1 - y.1.1) = cfE x y := by
    have := x.2.1; have := y.2.1
    unfold cfE
    simp [IntKind.wrap, IntKind.bits, IntKind.signed]; omega
  go_enter Tryz.func42, Tryz.ntmps42
  go_wp2
  go_ret
  exact ⟨rfl, 0, _, by rw [Go.Sort.alloc_eq_grow, Go.Sort.alloc_eq_grow, Go.Sort.grow_grow]; rfl⟩
theorem SortFuncP_spec (cs : List (Int × HV)) (hr : ∀ p ∈ cs, 0 ≤ p.1 ∧ p.1 < 16777216) (hnd : (cs.map (·.1)).Nodup) (hI : ∀ p ∈ cs, isI p.2 = true) (hlen : cs.length < 4611686018427387904) : SpecS Tryz.prog 41 56 2 (pairsHV cs) [.fn (.func 42) []] (pairsHV (cs.mergeSort leC)) := by
  refine SpecS.sortCode cs hr hnd hI hlen (fun d blk cap w hH hblk hsz => ?_) (fun A w => ?_)
  · have eg : ∀ args w, (callFunc 42 args).run Tryz.prog w = .ok (.enter 42 args) w := enters_of Tryz.func42 (by kernel_rfl) rfl
    exact AnyQ.slices_SortFunc Tryz.laysF41 2 Tryz.isAgg56 Tryz.sizeOf56 encE (fun _ => rfl) (fun x v hv => by simp [encE] at hv; rcases hv with rfl | rfl; rfl; exact x.2.2) cfE swoE 42 #[] blk 0 cap d w eg (fun _ _ _ _ x y => closure42 x y _) hH hblk hsz
  · exact AnyF.slices_SortFunc_none (P := Tryz.prog) (ρ := Tryz.laysF41_ren) { Tryz.laysF41 with } A 0 (.func (.func 42) #[] #[]) w
end Go.Hv
set_option linter.unusedVariables false
set_option linter.unusedSimpArgs false
namespace Go.Hv
open Go Go.Hv Go.Proofs
open Go.Proofs.YthdljfognblpbaaGreatDoor
theorem ofK_nodup (s : List UInt8) (k : Nat) : (ofK s k).Nodup := (ofK_inc s k).imp fun h => by intro e; subst e; omega
theorem ofK_perm (s : List UInt8) (k : Nat) : (ofK s k).Perm (fstK s k) := (List.perm_ext_iff_of_nodup (ofK_nodup s k) (fstK_nodup s k)).2 fun c => by rw [ofK_mem, fstK_mem]
theorem filter_ne_perm {l : List Nat} (hn : l.Nodup) {i : Nat} (hi : i ∈ l) : (i :: l.filter (· != i)).Perm l := by
  have : l.filter (· != i) = l.erase i := by
    rw [List.Nodup.erase_eq_filter hn]
  rw [this]
  exact (List.perm_cons_erase hi).symm
theorem perm_step {d l : List Nat} {n i : Nat} (h : (d ++ l).Perm (List.range n)) (hi : i ∈ l) : ((d ++ [i]) ++ l.filter (· != i)).Perm (List.range n) ∧ (l.filter (· != i)).length < l.length := by
  have hn : l.Nodup := by
    have := (h.nodup_iff).2 List.nodup_range
    exact (List.nodup_append.1 this).2.1
  have hp := filter_ne_perm hn hi
  constructor
  · rw [List.append_assoc]
    exact (List.Perm.append_left d hp).trans h
  · have := hp.length_eq
    simp at this; omega
theorem map_getD_range {α : Type} (l : List α) (d : α) : (List.range l.length).map (fun i => l.getD i d) = l := by
  apply List.ext_getElem?
  intro i
  rw [List.getElem?_map]
  rcases Nat.lt_or_ge i l.length with h | h
  · rw [List.getElem?_range h]; simp [List.getElem?_eq_getElem h]
  · rw [List.getElem?_eq_none (by simpa using h), List.getElem?_eq_none h]; rfl
theorem perm_taken {α : Type} {l : List α} {d : List Nat} (x : α) (h : (d ++ []).Perm (List.range l.length)) : (d.map (fun i => l.getD i x)).Perm l := by
  rw [List.append_nil] at h
  have := h.map (fun i => l.getD i x)
  rwa [map_getD_range] at this
theorem leI_sorted {l : List Int} (h : Inc l) : l.Pairwise fun a b => leI a b = true := h.imp fun h => by simp [leI]; omega
theorem mergeSort_of_inc {a b : List Int} (h : Inc a) (hp : b.Perm a) : b.mergeSort leI = a := by
  refine List.Perm.eq_of_pairwise (le := fun a b => leI a b = true) (fun x y _ _ h1 h2 => by simp [leI] at h1 h2; omega) ?_ (leI_sorted h) ((List.mergeSort_perm b leI).trans hp)
  exact List.pairwise_mergeSort (fun a b c h1 h2 => by simp [leI] at *; omega) (fun a b => by simp [leI]; omega) b
theorem sorted_of (s : List UInt8) {d : List Nat} (h : (d ++ []).Perm (List.range (fstK s (s.length - 2)).length)) : (d.map fun i => (fstK s (s.length - 2))[i]?.getD 0).mergeSort leI = ofV s := by
  have := perm_taken 0 h
  simp only [List.getD_eq_getElem?_getD] at this
  exact mergeSort_of_inc (ofK_inc s _) (this.trans (ofK_perm s _).symm)
@[simp] theorem occV_length (s : List UInt8) : (occV s).length = (fstK s (s.length - 2)).length := by simp [occV]
def gm (s : List UInt8) (c : Int) : Gram := ⟨c, offK s (s.length - 2) c⟩
def leG (a b : Gram) : Bool := decide (a.code ≤ b.code)
def gp (g : Gram) : Int × HV := (g.code, .sl 1 false (intsHV g.off))
theorem grams_pairs (l : List Gram) : gramsHV l = pairsHV (l.map gp) := by simp [gramsHV, pairsHV, gp]
theorem SortGrams_spec (l : List Gram) (hr : ∀ p ∈ l, 0 ≤ p.code ∧ p.code < 16777216) (hnd : (l.map (·.code)).Nodup) (hlen : l.length < 4611686018427387904) : SpecS Tryz.prog 73 68 2 (gramsHV l) [.fn (.func 74) []] (gramsHV (l.mergeSort leG)) := by
  rw [grams_pairs, grams_pairs, List.map_mergeSort (r := leG) (s := leC) (f := gp) (l := l) (fun _ _ _ _ => rfl)]
  refine SortFunc_spec _ (fun p hp => ?_) ?_ (fun p hp => ?_) (by simpa using hlen)
  · obtain ⟨g, hg, rfl⟩ := List.mem_map.1 hp; exact hr g hg
  · rw [List.map_map]; exact hnd
  · obtain ⟨g, hg, rfl⟩ := List.mem_map.1 hp; simp [gp, isI]
theorem grams_sorted (s : List UInt8) {d : List Nat} (h : (d ++ []).Perm (List.range (fstK s (s.length - 2)).length)) : (d.map fun i => gm s ((fstK s (s.length - 2))[i]?.getD 0)).mergeSort leG = gramsV s := by
  have hg : gramsV s = (ofV s).map (gm s) := rfl
  rw [hg, ← sorted_of s h]
  have := List.map_mergeSort (r := leI) (s := leG) (f := gm s) (l := d.map fun i => (fstK s (s.length - 2))[i]?.getD 0) (fun _ _ _ _ => rfl)
  rw [List.map_map] at this
  exact this.symm
theorem gm_ok (s : List UInt8) {d : List Nat} (h : (d ++ []).Perm (List.range (fstK s (s.length - 2)).length)) :
    (∀ p ∈ d.map (fun i => gm s ((fstK s (s.length - 2))[i]?.getD 0)), 0 ≤ p.code ∧ p.code < 16777216) ∧ ((d.map (fun i => gm s ((fstK s (s.length - 2))[i]?.getD 0))).map (·.code)).Nodup := by
  have hp := perm_taken 0 h
  simp only [List.getD_eq_getElem?_getD] at hp
  refine ⟨fun p hm => ?_, ?_⟩
  · obtain ⟨i, hi, rfl⟩ := List.mem_map.1 hm
    have : (fstK s (s.length - 2))[i]?.getD 0 ∈ fstK s (s.length - 2) := (hp.mem_iff).1 (List.mem_map.2 ⟨i, hi, rfl⟩)
    obtain ⟨j, _, hj⟩ := (fstK_mem s _ _).1 this
    simp only [gm]
    rw [← hj]
    exact code3_lt _ _ _
  · rw [List.map_map]
    exact hp.symm.nodup (fstK_nodup s _)
set_option maxHeartbeats 1000000 in
theorem Grams_spec (s : List UInt8) (hs : s.length ≤ 900000) : Spec1 Tryz.prog 39 [.str s] (.sl 2 false (gramsHV (gramsV s))) := by
  have hlen := fstK_length s (s.length - 2)
  have hol := ofV_length s
  refine Spec1.of_HT Tryz.func39 rfl (by rw [Tryz.ntmps39]; simp) rfl ?_
  rw [Tryz.ntmps39]
  refine HT.seq ?_
  refine HT.region ?_   -- R0
  simp (disch := first | omega | (simp <;> omega) | fail) [wrap_i64, wrap_u64, wrap_u8', eI]
  refine HT.seq ?_
  refine HT.region ?_   -- R1
  simp (disch := first | omega | (simp <;> omega) | fail) [wrap_i64, wrap_u64, wrap_u8', eI]
  refine HT.weaken (HS.le_own (t := 3) 200 68 2 _ (by decide) rfl (by decide)) ?_
  refine HT.seq ?_
  refine HT.seq ?_
  refine HT.region ?_   -- R2
  simp (disch := first | omega | (simp <;> omega) | fail) [wrap_i64, wrap_u64, wrap_u8', eI]
  refine stepK.mk (.call1f _ _ _ _ _ rfl Ty.hb72 rfl rfl (occ_spec s hs) rfl) ?_
  simp (disch := first | omega | (simp <;> omega) | fail) [wrap_i64, wrap_u64, wrap_u8', eI]
  refine HT.block ?_
  refine HT.loopK (fun k : {k : List Nat × List Nat × Option (HV × HV) // (k.1 ++ k.2.1).Perm (List.range (fstK s (s.length - 2)).length)} => [.s 3 (.ref 200), .o 200 (.row 68 2 (gramsHV (k.1.1.map fun i => gm s ((fstK s (s.length - 2)).getD i 0)))), .o 8 (.iter (occV s) k.1.2.1 k.1.2.2)]) [8] [] (fun k => k.1.2.1.length) (⟨⟨[], List.range (fstK s (s.length - 2)).length, none⟩, by simp⟩) ?_ ?_   -- block 0 turned [3]
  · simp (disch := first | omega | (simp <;> omega) | fail) [wrap_i64, wrap_u64, wrap_u8', eI]
  rintro ⟨⟨dn, lf, la⟩, hp⟩
  simp (disch := first | omega | (simp <;> omega) | fail) [wrap_i64, wrap_u64, wrap_u8', eI]
  refine HT.seq ?_
  refine HT.region ?_   -- R3
  simp (disch := first | omega | (simp <;> omega) | fail) [wrap_i64, wrap_u64, wrap_u8', eI]
  refine ⟨fun hnil => ?_, fun i kk vv hi hkv => ?_⟩
  · skip
    obtain rfl := hnil
    obtain ⟨g1, g2⟩ := gm_ok s hp
    refine HT.seq ?_
    refine HT.cond' ?_   -- if 10
    simp (disch := first | omega | (simp <;> omega) | fail) [wrap_i64, wrap_u64, wrap_u8', eI]
    refine HT.exit ?_
    simp (disch := first | omega | (simp <;> omega) | fail) [wrap_i64, wrap_u64, wrap_u8', eI]
    refine HT.seq ?_
    refine HT.region ?_   -- R6
    simp (disch := first | omega | (simp <;> omega) | fail) [wrap_i64, wrap_u64, wrap_u8', eI]
    refine stepK.mk (.callS _ _ _ _ _ _ _ rfl Ty.hb73 (by first | rfl | simp) (by simp) (by first | rfl | simp) (SortGrams_spec _ g1 g2 (by have := hp.length_eq; simp at this ⊢; omega)) rfl) ?_
    simp (disch := first | omega | (simp <;> omega) | fail) [wrap_i64, wrap_u64, wrap_u8', eI]
    refine HT.seq ?_
    refine HT.region ?_   -- R7
    simp (disch := first | omega | (simp <;> omega) | fail) [wrap_i64, wrap_u64, wrap_u8', eI]
    refine HT.ret ?_
    simp (disch := first | omega | (simp <;> omega) | fail) [wrap_i64, wrap_u64, wrap_u8', eI, grams_sorted s hp]
  · skip
    have hst := perm_step hp hi
    have hil : (dn ++ lf).length = _ := hp.length_eq
    have hil2 : i < (fstK s (s.length - 2)).length := by have := (hp.mem_iff (a := i)).1 (List.mem_append_right _ hi); simpa using this
    rw [occV, fents_get, List.getElem?_eq_getElem hil2] at hkv
    simp only [Option.map_some, Option.some.injEq, Prod.mk.injEq] at hkv
    obtain ⟨rfl, rfl⟩ := hkv
    have hb : dn.length + lf.length = (fstK s (s.length - 2)).length := by simpa using hil
    refine HT.seq ?_
    refine HT.cond' ?_   -- if 10
    simp (disch := first | omega | (simp <;> omega) | fail) [wrap_i64, wrap_u64, wrap_u8', eI]
    refine HT.skip ?_
    simp (disch := first | omega | (simp <;> omega) | fail) [wrap_i64, wrap_u64, wrap_u8', eI]
    refine HT.block ?_
    refine HT.seq ?_
    refine HT.region ?_   -- R4
    simp (disch := first | omega | (simp <;> omega) | fail) [wrap_i64, wrap_u64, wrap_u8', eI]
    refine HT.region ?_   -- R5
    simp (disch := first | omega | (simp <;> omega) | fail) [wrap_i64, wrap_u64, wrap_u8', eI]
    refine Round.mk' (⟨⟨dn ++ [i], lf.filter (· != i), some (eI (fstK s (s.length - 2))[i], .sl 1 false (intsHV (offK s (s.length - 2) (fstK s (s.length - 2))[i])))⟩, hst.1⟩) hst.2 rfl ?_
    simp (disch := first | omega | (simp <;> omega) | fail) [wrap_i64, wrap_u64, wrap_u8', eI, hil2, gm]
end Go.Hv
set_option linter.unusedVariables false
set_option linter.unusedSimpArgs false
/- Documents, postings and segments, in plain words. -/
namespace Go.Hv
structure Doc where
  id : Int
  repo : List UInt8
  path : List UInt8
  text : List UInt8
  on : List (List UInt8)
  deriving DecidableEq
structure Post where
  code : Int
  docs : List Gram
  deriving DecidableEq
structure Seg where
  docs : List Doc
  grams : List Post
  deriving DecidableEq
/-! ### Lists that increase by a number -/
def IncBy {α : Type} (f : α → Int) (l : List α) : Prop := l.Pairwise fun x y => f x < f y
theorem incBy_nodup {α : Type} {f : α → Int} {l : List α} (h : IncBy f l) : (l.map f).Nodup := by
  unfold List.Nodup
  rw [List.pairwise_map]
  exact h.imp fun h e => by omega
theorem incBy_unique {α : Type} {f : α → Int} : ∀ {a b : List α}, IncBy f a → IncBy f b → (∀ x, x ∈ a ↔ x ∈ b) → a = b
  | [], [], _, _, _ => rfl
  | [], y :: b, _, _, h => by have := (h y).2 (by simp); simp at this
  | x :: a, [], _, _, h => by have := (h x).1 (by simp); simp at this
  | x :: a, y :: b, ha, hb, h => by
    unfold IncBy at ha hb
    rw [List.pairwise_cons] at ha hb
    have hxy : x = y := by
      have h1 := (h x).1 (by simp)
      have h2 := (h y).2 (by simp)
      rcases List.mem_cons.1 h1 with h1 | h1
      · exact h1
      · rcases List.mem_cons.1 h2 with h2 | h2
        · exact h2.symm
        · have := hb.1 x h1; have := ha.1 y h2; omega
    subst hxy
    have : a = b := incBy_unique ha.2 hb.2 (fun z => by
      constructor
      · intro hz
        rcases List.mem_cons.1 ((h z).1 (by simp [hz])) with rfl | h1
        · have := ha.1 z hz; omega
        · exact h1
      · intro hz
        rcases List.mem_cons.1 ((h z).2 (by simp [hz])) with rfl | h1
        · have := hb.1 z hz; omega
        · exact h1)
    rw [this]
theorem incBy_perm {α : Type} {f : α → Int} {a b : List α} (ha : IncBy f a) (hb : IncBy f b) (h : a.Perm b) : a = b :=
  incBy_unique ha hb fun _ => h.mem_iff
theorem incBy_sort {α : Type} {f : α → Int} {l : List α} (h : (l.map f).Nodup) : IncBy f (l.mergeSort fun x y => decide (f x ≤ f y)) := by
  have hp := List.mergeSort_perm l (fun x y => decide (f x ≤ f y))
  have h1 : (l.mergeSort fun x y => decide (f x ≤ f y)).Pairwise fun x y => decide (f x ≤ f y) = true :=
    List.pairwise_mergeSort (fun a b c => by simp; omega) (fun a b => by simp; omega) l
  have h2 : ((l.mergeSort fun x y => decide (f x ≤ f y)).map f).Nodup := (hp.map f).nodup_iff.2 h
  unfold List.Nodup at h2
  rw [List.pairwise_map] at h2
  exact (h1.and h2).imp fun {x y} h => by have := of_decide_eq_true h.1; have := h.2; omega
/-! ### Merging by a number -/
def mergeBy {α : Type} (f : α → Int) (both : α → α → α) : List α → List α → List α
  | [], b => b
  | x :: a, [] => x :: a
  | x :: a, y :: b => if f x < f y then x :: mergeBy f both a (y :: b) else if f y < f x then y :: mergeBy f both (x :: a) b else both x y :: mergeBy f both a b
  termination_by a b => a.length + b.length
@[simp] theorem mergeBy_nil_left {α : Type} (f : α → Int) (both : α → α → α) (b : List α) : mergeBy f both [] b = b := by simp [mergeBy]
@[simp] theorem mergeBy_nil_right {α : Type} (f : α → Int) (both : α → α → α) (a : List α) : mergeBy f both a [] = a := by cases a <;> simp [mergeBy]
theorem mergeBy_cons {α : Type} (f : α → Int) (both : α → α → α) (x y : α) (a b : List α) : mergeBy f both (x :: a) (y :: b) =
    if f x < f y then x :: mergeBy f both a (y :: b) else if f y < f x then y :: mergeBy f both (x :: a) b else both x y :: mergeBy f both a b := by rw [mergeBy]
/-! ### The segment of documents -/
def offV (s : List UInt8) (c : Int) : List Int := offK s (s.length - 2) c
def postV (l : List Doc) (c : Int) : List Gram := (l.map fun d => (⟨d.id, offV d.text c⟩ : Gram)).filter fun g => decide (g.off ≠ [])
def codesV (l : List Doc) : List Int := l.foldl (fun a d => (ofV d.text).foldl ins a) []
def gramsOf (l : List Doc) : List Post := (codesV l).map fun c => ⟨c, postV l c⟩
def segV (l : List Doc) : Seg := ⟨l, gramsOf l⟩
theorem foldl_ins_mem (b : List Int) : ∀ (a : List Int) (c : Int), c ∈ b.foldl ins a ↔ c ∈ a ∨ c ∈ b := by
  induction b with
  | nil => simp
  | cons x b ih => intro a c; rw [List.foldl_cons, ih, ins_mem, List.mem_cons, or_assoc]
theorem foldl_ins_inc (b : List Int) : ∀ {a : List Int}, Inc a → Inc (b.foldl ins a) := by
  induction b with
  | nil => exact fun h => h
  | cons x b ih => exact fun h => ih (ins_inc h x)
theorem codesV_aux (l : List Doc) : ∀ (a : List Int), Inc a → Inc (l.foldl (fun a d => (ofV d.text).foldl ins a) a) ∧ ∀ c, c ∈ l.foldl (fun a d => (ofV d.text).foldl ins a) a ↔ c ∈ a ∨ ∃ d ∈ l, c ∈ ofV d.text := by
  induction l with
  | nil => intro a h; exact ⟨h, by simp⟩
  | cons d l ih =>
    intro a h
    obtain ⟨h1, h2⟩ := ih _ (foldl_ins_inc (ofV d.text) h)
    refine ⟨h1, fun c => ?_⟩
    rw [List.foldl_cons, h2, foldl_ins_mem]
    simp [or_assoc]
theorem codesV_inc (l : List Doc) : Inc (codesV l) := (codesV_aux l [] List.Pairwise.nil).1
theorem codesV_mem (l : List Doc) (c : Int) : c ∈ codesV l ↔ ∃ d ∈ l, c ∈ ofV d.text := by
  unfold codesV; rw [(codesV_aux l [] List.Pairwise.nil).2]; simp
theorem offV_ne (s : List UInt8) (c : Int) : offV s c ≠ [] ↔ c ∈ ofV s := by
  unfold ofV offV offK
  rw [ofK_mem, ne_eq, List.map_eq_nil_iff, List.filter_eq_nil_iff]
  simp
/-! ### A segment without some documents -/
def aliveB (dead : List Int) (i : Int) : Bool := !decide (i ∈ dead)
def filterV (s : Seg) (dead : List Int) : Seg := ⟨s.docs.filter fun d => aliveB dead d.id, (s.grams.map fun p => (⟨p.code, p.docs.filter fun g => aliveB dead g.code⟩ : Post)).filter fun p => decide (p.docs ≠ [])⟩
/-! ### The union of postings -/
def bothG (x _ : Gram) : Gram := x
def bothP (x y : Post) : Post := ⟨x.code, mergeBy Gram.code bothG x.docs y.docs⟩
def unionV (a b : List Post) : List Post := mergeBy Post.code bothP a b
end Go.Hv
set_option linter.unusedVariables false
set_option linter.unusedSimpArgs false
/- Right tables, the segment that Build returns, Merge, and the laws of layer 31 in plain words. -/
namespace Go.Hv
def letterV (c : UInt8) : Bool := decide (97 ≤ c ∧ c ≤ 122 ∨ 65 ≤ c ∧ c ≤ 90 ∨ 48 ≤ c ∧ c ≤ 57 ∨ c = 46 ∨ c = 95 ∨ c = 45)
def nameOK (s : List UInt8) : Bool := decide (1 ≤ s.length ∧ s.length ≤ 24 ∧ s ≠ [46] ∧ s ≠ [46, 46]) && s.all letterV
def partsV : List UInt8 → List (List UInt8)
  | [] => [[]]
  | c :: s => if c = 47 then [] :: partsV s else match partsV s with
    | [] => [[c]]
    | p :: r => (c :: p) :: r
def pathV (s : List UInt8) : Bool := decide (s.length ≤ 60) && (partsV s).all nameOK
def nameV (s : List UInt8) : Bool := pathV s && decide (47 ∉ s)
def textB (c : UInt8) : Bool := decide (c = 9 ∨ c = 10 ∨ 32 ≤ c ∧ c ≤ 126)
def textV (s : List UInt8) : Bool := decide (s.length ≤ 2000) && s.all textB
def incS : List (List UInt8) → Bool
  | [] => true
  | [_] => true
  | a :: b :: r => (!(Go.Op.bytesLess b a || decide (b = a))) && incS (b :: r)
def checkV (d : Doc) : Int :=
  if (nameV d.repo && pathV d.path && textV d.text) = false then 3
  else if d.on.all nameV = false then 3
  else if d.on = [] then 1
  else if incS d.on = false then 1
  else 0
def keyV (d : Doc) : List UInt8 × List UInt8 × List UInt8 := (d.repo, d.path, d.text)
def scanV : Int → List Doc → Int
  | _, [] => 0
  | last, d :: r => if d.id ≤ last ∨ d.id > 9999 then 2 else if checkV d ≠ 0 then checkV d else scanV d.id r
def rightV (l : List Doc) : Int :=
  if l.length > 64 then 4 else if scanV 0 l ≠ 0 then scanV 0 l else if (l.map keyV).Nodup then 0 else 7

theorem scanV_zero : ∀ (l : List Doc) (n : Int), scanV n l = 0 ↔ (∀ d ∈ l, n < d.id) ∧ IncBy Doc.id l ∧ ∀ d ∈ l, d.id ≤ 9999 ∧ checkV d = 0
  | [], n => by simp [scanV, IncBy]
  | d :: r, n => by
    unfold scanV IncBy
    rw [List.pairwise_cons]
    by_cases h1 : d.id ≤ n ∨ d.id > 9999
    · rw [if_pos h1]
      constructor
      · intro h; exact absurd h (by decide)
      · rintro ⟨h2, _, h3⟩
        have := h2 d (by simp); have := (h3 d (by simp)).1; omega
    · rw [if_neg h1]
      by_cases h2 : checkV d = 0
      · rw [if_neg (by simpa using h2), scanV_zero r d.id]
        constructor
        · rintro ⟨a, b, c⟩
          refine ⟨fun x hx => ?_, ⟨a, b⟩, fun x hx => ?_⟩
          · rcases List.mem_cons.1 hx with rfl | hx
            · omega
            · have := a x hx; omega
          · rcases List.mem_cons.1 hx with rfl | hx
            · exact ⟨by omega, h2⟩
            · exact c x hx
        · rintro ⟨a, ⟨b, c⟩, e⟩
          exact ⟨b, c, fun x hx => e x (by simp [hx])⟩
      · rw [if_pos h2]
        constructor
        · intro h; exact absurd h h2
        · rintro ⟨_, _, e⟩
          exact absurd (e d (by simp)).2 h2
theorem rightV_zero (l : List Doc) : rightV l = 0 ↔ l.length ≤ 64 ∧ (∀ d ∈ l, 0 < d.id) ∧ IncBy Doc.id l ∧ (∀ d ∈ l, d.id ≤ 9999 ∧ checkV d = 0) ∧ (l.map keyV).Nodup := by
  unfold rightV
  by_cases h1 : l.length > 64
  · rw [if_pos h1]
    constructor
    · intro h; exact absurd h (by decide)
    · rintro ⟨h, _⟩; omega
  · rw [if_neg h1]
    by_cases h2 : scanV 0 l = 0
    · rw [if_neg (by simpa using h2)]
      obtain ⟨a, b, c⟩ := (scanV_zero l 0).1 h2
      by_cases h3 : (l.map keyV).Nodup
      · rw [if_pos h3]; exact ⟨fun _ => ⟨by omega, a, b, c, h3⟩, fun _ => rfl⟩
      · rw [if_neg h3]
        constructor
        · intro h; exact absurd h (by decide)
        · rintro ⟨_, _, _, _, h⟩; exact absurd h h3
    · rw [if_pos h2]
      constructor
      · intro h; exact absurd h h2
      · rintro ⟨_, a, b, c, _⟩; exact absurd ((scanV_zero l 0).2 ⟨a, b, c⟩) h2
theorem right_inc {l : List Doc} (h : rightV l = 0) : IncBy Doc.id l := ((rightV_zero l).1 h).2.2.1
theorem right_sub {l m : List Doc} (h : rightV l = 0) (hs : List.Sublist m l) : rightV m = 0 := by
  obtain ⟨a, b, c, d, e⟩ := (rightV_zero l).1 h
  exact (rightV_zero m).2 ⟨by have := hs.length_le; omega, fun x hx => b x (hs.subset hx), c.sublist hs, fun x hx => d x (hs.subset hx), e.sublist (hs.map _)⟩
def emptySeg : Seg := ⟨[], []⟩
def buildV (l : List Doc) : Seg × Int := if rightV l = 0 then (segV l, 0) else (emptySeg, 1)
def sortV (l : List Doc) : List Doc := l.mergeSort fun x y => decide (x.id ≤ y.id)
def allV (ls : List Seg) (dead : List Int) : List Doc := ls.flatMap fun s => s.docs.filter fun d => aliveB dead d.id
def mergeV (ls : List Seg) (dead : List Int) : Seg × Int :=
  if ((allV ls dead).map Doc.id).Nodup then buildV (sortV (allV ls dead)) else (emptySeg, 7)
theorem sortV_perm (l : List Doc) : (sortV l).Perm l := List.mergeSort_perm l _
theorem sortV_eq {l m : List Doc} (hp : l.Perm m) (hm : IncBy Doc.id m) : sortV l = m := by
  have hn : (l.map Doc.id).Nodup := (hp.map Doc.id).nodup_iff.2 (incBy_nodup hm)
  exact incBy_perm (incBy_sort hn) hm ((sortV_perm l).trans hp)
theorem mergeV_eq {ls : List Seg} {dead : List Int} {m : List Doc} (hp : (allV ls dead).Perm m) (hm : rightV m = 0) : mergeV ls dead = (segV m, 0) := by
  unfold mergeV
  rw [if_pos ((hp.map Doc.id).nodup_iff.2 (incBy_nodup (right_inc hm))), sortV_eq hp (right_inc hm)]
  unfold buildV
  rw [if_pos hm]
def partV (part : Nat → Nat) (l : List Doc) (k : Nat) : List Doc := (l.zipIdx.filter fun p => decide (part p.2 = k)).map Prod.fst
theorem partV_sub (part : Nat → Nat) (l : List Doc) (k : Nat) : List.Sublist (partV part l k) l := by
  have h : List.Sublist ((l.zipIdx.filter fun p => decide (part p.2 = k)).map Prod.fst) (l.zipIdx.map Prod.fst) := (List.filter_sublist).map _
  unfold partV
  rwa [List.zipIdx_map_fst] at h
theorem three_perm {α : Type} (f : α → Nat) : ∀ (l : List α), (∀ x ∈ l, f x < 3) → (l.filter (fun x => decide (f x = 0)) ++ (l.filter (fun x => decide (f x = 1)) ++ l.filter fun x => decide (f x = 2))).Perm l
  | [], _ => by simp
  | x :: l, h => by
    have ih := three_perm f l fun y hy => h y (by simp [hy])
    have hx := h x (by simp)
    have : f x = 0 ∨ f x = 1 ∨ f x = 2 := by omega
    rcases this with e | e | e
    · simp only [List.filter_cons, e]
      simpa using ih
    · simp only [List.filter_cons, e]
      simp only [show decide (1 = 0) = false from rfl, show decide (1 = 1) = true from rfl, show decide (1 = 2) = false from rfl, if_true, Bool.false_eq_true, if_false]
      exact (List.perm_middle (l₁ := l.filter fun x => decide (f x = 0))).trans (ih.cons x)
    · simp only [List.filter_cons, e]
      simp only [show decide (2 = 0) = false from rfl, show decide (2 = 1) = false from rfl, show decide (2 = 2) = true from rfl, if_true, Bool.false_eq_true, if_false]
      rw [← List.append_assoc]
      refine (List.perm_middle (l₁ := l.filter (fun x => decide (f x = 0)) ++ l.filter fun x => decide (f x = 1))).trans ?_
      rw [List.append_assoc]
      exact ih.cons x
theorem partV_perm {part : Nat → Nat} (l : List Doc) (h : ∀ i, part i < 3) : (partV part l 0 ++ (partV part l 1 ++ partV part l 2)).Perm l := by
  have := (three_perm (fun p : Doc × Nat => part p.2) l.zipIdx fun p _ => h p.2).map Prod.fst
  rw [List.map_append, List.map_append, List.zipIdx_map_fst] at this
  exact this
theorem allV_docs (ls : List Seg) (dead : List Int) : allV ls dead = (ls.flatMap Seg.docs).filter fun d => aliveB dead d.id := by
  unfold allV
  induction ls with
  | nil => rfl
  | cons s ls ih => simp only [List.flatMap_cons, List.filter_append, ih]
theorem allV_nil (ls : List Seg) : allV ls [] = ls.flatMap Seg.docs := by
  rw [allV_docs, List.filter_eq_self.2]
  intro d _; simp [aliveB]
theorem rebuilds {part : Nat → Nat} {l : List Doc} {dead : List Int} (hl : rightV l = 0) (h : ∀ i, part i < 3) :
    let live := l.filter fun d => aliveB dead d.id
    let a := segV (partV part l 0); let b := segV (partV part l 1); let c := segV (partV part l 2)
    (∀ k, buildV (partV part l k) = (segV (partV part l k), 0)) ∧ buildV live = (segV live, 0) ∧ mergeV [a, b, c] dead = (segV live, 0) ∧ mergeV [c, b, a] dead = (segV live, 0) ∧
      ∃ ab, mergeV [a, b] [] = (ab, 0) ∧ mergeV [ab, c] dead = (segV live, 0) := by
  intro live a b c
  have hlive : rightV live = 0 := right_sub hl List.filter_sublist
  have hp := partV_perm l h
  have hb : ∀ m, rightV m = 0 → buildV m = (segV m, 0) := fun m hm => by unfold buildV; rw [if_pos hm]
  have hpart : ∀ k, rightV (partV part l k) = 0 := fun k => right_sub hl (partV_sub part l k)
  refine ⟨fun k => hb _ (hpart k), hb _ hlive, mergeV_eq ?_ hlive, mergeV_eq ?_ hlive, ?_⟩
  · rw [allV_docs]
    exact hp.filter _ |> (by simpa [a, b, c, segV] using ·)
  · rw [allV_docs]
    have h2 : (partV part l 2 ++ (partV part l 1 ++ partV part l 0)).Perm l := by
      refine List.Perm.trans ?_ hp
      refine List.perm_append_comm.trans ?_
      refine (List.perm_append_comm.append_right _).trans ?_
      rw [List.append_assoc]
    exact h2.filter _ |> (by simpa [a, b, c, segV] using ·)
  · have hn : ((partV part l 0 ++ partV part l 1).map Doc.id).Nodup := by
      have := (hp.map Doc.id).nodup_iff.2 (incBy_nodup (right_inc hl))
      rw [← List.append_assoc, List.map_append, List.nodup_append] at this
      exact this.1
    have hm : IncBy Doc.id (sortV (partV part l 0 ++ partV part l 1)) := incBy_sort hn
    have hpm := sortV_perm (partV part l 0 ++ partV part l 1)
    obtain ⟨r1, r2, r3, r4, r5⟩ := (rightV_zero l).1 hl
    have hsub : ∀ x ∈ sortV (partV part l 0 ++ partV part l 1), x ∈ l := fun x hx => by
      have := hpm.mem_iff.1 hx
      rcases List.mem_append.1 this with h | h
      · exact (partV_sub part l 0).subset h
      · exact (partV_sub part l 1).subset h
    have hr : rightV (sortV (partV part l 0 ++ partV part l 1)) = 0 := by
      refine (rightV_zero _).2 ⟨?_, fun x hx => r2 x (hsub x hx), hm, fun x hx => r4 x (hsub x hx), ?_⟩
      · have := hpm.length_eq; have h3 := hp.length_eq; simp at this h3; omega
      · refine (hpm.map keyV).nodup_iff.2 ?_
        have := (hp.map keyV).nodup_iff.2 r5
        rw [← List.append_assoc, List.map_append, List.nodup_append] at this
        exact this.1
    refine ⟨segV (sortV (partV part l 0 ++ partV part l 1)), mergeV_eq ?_ hr, mergeV_eq ?_ hlive⟩
    · rw [allV_nil]; simpa [a, b, segV] using hpm.symm
    · rw [allV_docs]
      have h2 : (sortV (partV part l 0 ++ partV part l 1) ++ partV part l 2).Perm l := (hpm.append_right _).trans (by rw [List.append_assoc]; exact hp)
      exact h2.filter _ |> (by simpa [c, segV] using ·)
end Go.Hv
set_option linter.unusedVariables false
set_option linter.unusedSimpArgs false
/- Pick, and the document's Union, in plain words. -/
namespace Go.Hv
def classV (n : Int) : Nat := if h : n ≤ 0 then 0 else classV (n / 4) + 1
  termination_by n.toNat
decreasing_by omega
theorem classV_le {n : Int} (h : n ≤ 0) : classV n = 0 := by rw [classV, dif_pos h]
theorem classV_gt {n : Int} (h : 0 < n) : classV n = classV (n / 4) + 1 := by rw [classV, dif_neg (by omega)]
theorem classV_bound : ∀ (k : Nat) {n : Int}, n < 4 ^ k → classV n ≤ k
  | 0, n, h => by rw [classV_le (by simp at h; omega)]; omega
  | k + 1, n, h => by
    by_cases h2 : n ≤ 0
    · rw [classV_le h2]; omega
    · rw [classV_gt (by omega)]
      have : n / 4 < 4 ^ k := by rw [Int.pow_succ] at h; omega
      have := classV_bound k this
      omega
def rangeI (a b : Nat) : List Int := (List.range (b - a)).map fun i => ((a + i : Nat) : Int)
@[simp] theorem rangeI_length (a b : Nat) : (rangeI a b).length = b - a := by simp [rangeI]
theorem rangeI_succ {a b : Nat} (h : a ≤ b) : rangeI a (b + 1) = rangeI a b ++ [(b : Int)] := by
  unfold rangeI
  rw [show b + 1 - a = (b - a) + 1 by omega, List.range_succ, List.map_append]
  simp; omega
@[simp] theorem rangeI_self (a : Nat) : rangeI a a = [] := by simp [rangeI]
def goR (s : List Int) (fr i : Nat) : Option (Nat × Nat) :=
  if h : s.length < i then none
  else if i < s.length ∧ classV (s.getD i 0) = classV (s.getD fr 0) then goR s fr (i + 1)
  else if 3 ≤ i - fr then some (fr, i) else goR s i (i + 1)
  termination_by s.length + 1 - i
theorem goR_out {s : List Int} {fr i : Nat} (h : s.length < i) : goR s fr i = none := by rw [goR, dif_pos h]
theorem goR_same {s : List Int} {fr i : Nat} (h : i < s.length) (e : classV (s.getD i 0) = classV (s.getD fr 0)) : goR s fr i = goR s fr (i + 1) := by
  rw [goR, dif_neg (by omega), if_pos ⟨h, e⟩]
theorem goR_stop {s : List Int} {fr i : Nat} (h : i ≤ s.length) (e : ¬ (i < s.length ∧ classV (s.getD i 0) = classV (s.getD fr 0))) : goR s fr i = if 3 ≤ i - fr then some (fr, i) else goR s i (i + 1) := by
  rw [goR, dif_neg (by omega), if_neg e]
def pickV (s : List Int) : List Int := match goR s 0 1 with
  | some (a, b) => rangeI a b
  | none => if 8 ≤ s.length then rangeI 0 s.length else []
theorem pickV_some {s : List Int} {a b : Nat} (h : goR s 0 1 = some (a, b)) : pickV s = rangeI a b := by unfold pickV; rw [h]
theorem pickV_none {s : List Int} (h : goR s 0 1 = none) : pickV s = if 8 ≤ s.length then rangeI 0 s.length else [] := by unfold pickV; rw [h]
/-! ### The document's Union -/
def mergeR : List Gram → List Gram → List Gram
  | [], b => b
  | x :: a, [] => x :: a
  | x :: a, y :: b => if x.code < y.code then x :: mergeR a (y :: b) else y :: mergeR (x :: a) b
  termination_by a b => a.length + b.length
@[simp] theorem mergeR_nil_left (b : List Gram) : mergeR [] b = b := by simp [mergeR]
@[simp] theorem mergeR_nil_right (a : List Gram) : mergeR a [] = a := by cases a <;> simp [mergeR]
end Go.Hv
set_option linter.unusedVariables false
set_option linter.unusedSectionVars false
set_option linter.unusedSimpArgs false
/- Documents, postings and segments as rows. -/
namespace Go.Hv
open Go Go.RowKit
variable [GI]
@[simp] def Doc.enc (d : Doc) : List HV := [i64 d.id, .str d.repo, .str d.path, .str d.text, .sl 1 false (strsHV d.on)]
@[simp] def Post.enc (p : Post) : List HV := [i64 p.code, .sl 2 false (gramsHV p.docs)]
def docsHV (l : List Doc) : List (List HV) := l.map fun x => x.enc
@[simp] theorem docsHV_length (l : List Doc) : (docsHV l).length = l.length := by simp [docsHV]
@[simp] theorem docsHV_getElem (l : List Doc) (k : Nat) (h : k < (docsHV l).length) : (docsHV l)[k] = (fun x => x.enc) (l[k]'(by simpa using h)) := by simp [docsHV]
theorem docsHV_append (a b : List Doc) : docsHV (a ++ b) = docsHV a ++ docsHV b := by simp [docsHV]
@[simp] theorem docsHV_snoc (l : List Doc) (i : Int) (r p t : List UInt8) (o : List (List UInt8)) : docsHV l ++ [[i64 i, .str r, .str p, .str t, .sl 1 false (strsHV o)]] = docsHV (l ++ [⟨i, r, p, t, o⟩]) := by simp [docsHV]
@[simp] theorem docsHV_nil : docsHV [] = [] := rfl
@[simp] theorem isILL_docsHV (l : List Doc) : isILL (docsHV l) = true := by
  unfold docsHV
  rw [isILL_iff]
  intro x hx
  obtain ⟨a, _, rfl⟩ := List.mem_map.1 hx
  simp [isIL, isI]
def postsHV (l : List Post) : List (List HV) := l.map fun x => x.enc
@[simp] theorem postsHV_length (l : List Post) : (postsHV l).length = l.length := by simp [postsHV]
@[simp] theorem postsHV_getElem (l : List Post) (k : Nat) (h : k < (postsHV l).length) : (postsHV l)[k] = (fun x => x.enc) (l[k]'(by simpa using h)) := by simp [postsHV]
@[simp] theorem postsHV_snoc (l : List Post) (c : Int) (o : List Gram) : postsHV l ++ [[i64 c, .sl 2 false (gramsHV o)]] = postsHV (l ++ [⟨c, o⟩]) := by simp [postsHV]
@[simp] theorem postsHV_nil : postsHV [] = [] := rfl
@[simp] theorem isILL_postsHV (l : List Post) : isILL (postsHV l) = true := by
  unfold postsHV
  rw [isILL_iff]
  intro x hx
  obtain ⟨a, _, rfl⟩ := List.mem_map.1 hx
  simp [isIL, isI]
@[simp] def Seg.enc (s : Seg) : List HV := [.sl 5 false (docsHV s.docs), .sl 2 false (postsHV s.grams)]
def segsHV (l : List Seg) : List (List HV) := l.map fun x => x.enc
@[simp] theorem segsHV_length (l : List Seg) : (segsHV l).length = l.length := by simp [segsHV]
@[simp] theorem segsHV_getElem (l : List Seg) (k : Nat) (h : k < (segsHV l).length) : (segsHV l)[k] = (fun x => x.enc) (l[k]'(by simpa using h)) := by simp [segsHV]
@[simp] theorem segsHV_snoc (l : List Seg) (d : List Doc) (g : List Post) : segsHV l ++ [[.sl 5 false (docsHV d), .sl 2 false (postsHV g)]] = segsHV (l ++ [⟨d, g⟩]) := by simp [segsHV]
@[simp] theorem segsHV_nil : segsHV [] = [] := rfl
@[simp] theorem isILL_segsHV (l : List Seg) : isILL (segsHV l) = true := by
  unfold segsHV
  rw [isILL_iff]
  intro x hx
  obtain ⟨a, _, rfl⟩ := List.mem_map.1 hx
  simp [isIL, isI]
end Go.Hv
set_option linter.unusedVariables false
set_option linter.unusedSimpArgs false
namespace Go.Hv
open Go Go.Hv Go.Proofs
open Go.Proofs.YthdljfognblpbaaGreatDoor
theorem idx_ne {l : List Int} {c : Int} (hg : ∀ i, i < l.length → l[i]? ≠ some c) : c ∉ l := fun h => by
  obtain ⟨i, hi, e⟩ := List.getElem_of_mem h
  exact hg i hi (by rw [List.getElem?_eq_getElem hi, e])
theorem ne_next {l : List Int} {c : Int} {k : Nat} (hg : ∀ i, i < k → l[i]? ≠ some c) (hk : k < l.length) (h : ¬ l[k] = c) : ∀ i, i < k + 1 → l[i]? ≠ some c := fun i hi => by
  by_cases e : i = k
  · subst e; rw [List.getElem?_eq_getElem hk]; simpa using h
  · exact hg i (by omega)
theorem idxOf_first {c : Int} : ∀ {l : List Int} {k : Nat} (hk : k < l.length) (e : l[k] = c) (hg : ∀ i, i < k → l[i]? ≠ some c), l.idxOf c = k
  | [], _, hk, _, _ => by simp at hk
  | x :: l, 0, _, e, _ => by simp at e; simp [e]
  | x :: l, k + 1, hk, e, hg => by
    have hx : x ≠ c := by have := hg 0 (by omega); simpa using this
    have ih := idxOf_first (l := l) (k := k) (by simpa using hk) (by simpa using e) (fun i hi => by have := hg (i + 1) (by omega); simpa using this)
    have hb : (x == c) = false := by simpa using hx
    rw [List.idxOf_cons, hb, cond_false, ih]
theorem class_quo {m : Int} (h : 0 < m) (h2 : m < 9223372036854775808) : IntKind.wrap .i64 (m.tdiv 4) = m / 4 := by
  rw [Int.tdiv_eq_ediv_of_nonneg (by omega)]
  exact wrap_i64 (by omega) (by omega)
theorem class63 {n : Int} (h : n < 9223372036854775808) : classV n ≤ 32 := classV_bound 32 (by simpa using (show n < 18446744073709551616 by omega))
theorem Has_spec (f : Bool) (l : List Int) (c : Int) (hl : l.length ≤ 140737488355328) : Spec1 Tryz.prog 25 [.sl 1 f (intsHV l), i64 c] (bo (decide (c ∈ l))) := by
  refine Spec1.of_HT Tryz.func25 rfl (by rw [Tryz.ntmps25]; simp) rfl ?_
  rw [Tryz.ntmps25]
  refine HT.seq ?_
  refine HT.region ?_   -- R0
  simp (disch := first | omega | (simp <;> omega) | fail) [wrap_i64, wrap_u64, wrap_u8']
  refine HT.seq ?_
  refine HT.seq ?_
  refine HT.region ?_   -- R1
  simp (disch := first | omega | (simp <;> omega) | fail) [wrap_i64, wrap_u64, wrap_u8']
  refine HT.block ?_
  refine HT.loopK (fun k : {k : Nat // k ≤ l.length ∧ ∀ i, i < k → l[i]? ≠ some c} => [.s 5 (i64 k)]) [0, 1] [] (fun k => l.length - k) (⟨0, by simp⟩) ?_ ?_   -- block 0 turned [5]
  · simp (disch := first | omega | (simp <;> omega) | fail) [wrap_i64, wrap_u64, wrap_u8']
  rintro ⟨k, hk, hg⟩
  simp (disch := first | omega | (simp <;> omega) | fail) [wrap_i64, wrap_u64, wrap_u8']
  refine HT.seq ?_
  refine HT.seq ?_
  refine HT.region ?_   -- R2
  simp (disch := first | omega | (simp <;> omega) | fail) [wrap_i64, wrap_u64, wrap_u8']
  refine HT.cond' ?_   -- if 9
  simp (disch := first | omega | (simp <;> omega) | fail) [wrap_i64, wrap_u64, wrap_u8']
  refine ⟨fun h9 => ?_, fun h9 => ?_⟩
  · skip
    have hk' : k < l.length := by omega
    refine HT.skip ?_
    simp (disch := first | omega | (simp <;> omega) | fail) [wrap_i64, wrap_u64, wrap_u8']
    refine HT.seq ?_
    refine HT.block ?_
    refine HT.seq ?_
    refine HT.region ?_   -- R4
    simp (disch := first | omega | (simp <;> omega) | fail) [wrap_i64, wrap_u64, wrap_u8']
    refine HT.cond' ?_   -- if 17
    simp (disch := first | omega | (simp <;> omega) | fail) [wrap_i64, wrap_u64, wrap_u8']
    refine ⟨fun h17 => ?_, fun h17 => ?_⟩
    · skip
      refine HT.seq ?_
      refine HT.region ?_   -- R5
      simp (disch := first | omega | (simp <;> omega) | fail) [wrap_i64, wrap_u64, wrap_u8']
      refine HT.ret ?_
      have : c ∈ l := h17 ▸ List.getElem_mem hk'
      simp (disch := first | omega | (simp <;> omega) | fail) [wrap_i64, wrap_u64, wrap_u8', this]
    · skip
      refine HT.skip ?_
      simp (disch := first | omega | (simp <;> omega) | fail) [wrap_i64, wrap_u64, wrap_u8']
      refine HT.region ?_   -- R3
      simp (disch := first | omega | (simp <;> omega) | fail) [wrap_i64, wrap_u64, wrap_u8']
      refine Round.mk' (⟨k + 1, by omega, ne_next hg hk' h17⟩) (by dsimp only; omega) rfl ?_
      simp (disch := first | omega | (simp <;> omega) | fail) [wrap_i64, wrap_u64, wrap_u8']
  · skip
    obtain rfl : k = l.length := by omega
    refine HT.exit ?_
    simp (disch := first | omega | (simp <;> omega) | fail) [wrap_i64, wrap_u64, wrap_u8']
    refine HT.seq ?_
    refine HT.region ?_   -- R6
    simp (disch := first | omega | (simp <;> omega) | fail) [wrap_i64, wrap_u64, wrap_u8']
    refine HT.ret ?_
    simp (disch := first | omega | (simp <;> omega) | fail) [wrap_i64, wrap_u64, wrap_u8', idx_ne hg]
theorem Index_spec (f : Bool) (l : List Int) (c : Int) (hl : l.length ≤ 140737488355328) : Spec1 Tryz.prog 60 [.sl 1 f (intsHV l), i64 c] (i64 (if c ∈ l then (l.idxOf c : Int) else -1)) := by
  refine Spec1.of_HT Tryz.func60 rfl (by rw [Tryz.ntmps60]; simp) rfl ?_
  rw [Tryz.ntmps60]
  refine HT.seq ?_
  refine HT.region ?_   -- R0
  simp (disch := first | omega | (simp <;> omega) | fail) [wrap_i64, wrap_u64, wrap_u8']
  refine HT.seq ?_
  refine HT.seq ?_
  refine HT.region ?_   -- R1
  simp (disch := first | omega | (simp <;> omega) | fail) [wrap_i64, wrap_u64, wrap_u8']
  refine HT.block ?_
  refine HT.loopK (fun k : {k : Nat // k ≤ l.length ∧ ∀ i, i < k → l[i]? ≠ some c} => [.s 8 (i64 k)]) [0, 1, 7] [] (fun k => l.length - k) (⟨0, by simp⟩) ?_ ?_   -- block 0 turned [8]
  · simp (disch := first | omega | (simp <;> omega) | fail) [wrap_i64, wrap_u64, wrap_u8']
  rintro ⟨k, hk, hg⟩
  simp (disch := first | omega | (simp <;> omega) | fail) [wrap_i64, wrap_u64, wrap_u8']
  refine HT.seq ?_
  refine HT.region ?_   -- R2
  simp (disch := first | omega | (simp <;> omega) | fail) [wrap_i64, wrap_u64, wrap_u8']
  refine HT.seq ?_
  refine HT.cond' ?_   -- if 9
  simp (disch := first | omega | (simp <;> omega) | fail) [wrap_i64, wrap_u64, wrap_u8']
  refine ⟨fun h9 => ?_, fun h9 => ?_⟩
  · skip
    have hk' : k < l.length := by omega
    refine HT.skip ?_
    simp (disch := first | omega | (simp <;> omega) | fail) [wrap_i64, wrap_u64, wrap_u8']
    refine HT.seq ?_
    refine HT.block ?_
    refine HT.seq ?_
    refine HT.region ?_   -- R3
    simp (disch := first | omega | (simp <;> omega) | fail) [wrap_i64, wrap_u64, wrap_u8']
    refine HT.seq ?_
    refine HT.region ?_   -- R4
    simp (disch := first | omega | (simp <;> omega) | fail) [wrap_i64, wrap_u64, wrap_u8']
    refine HT.cond' ?_   -- if 16
    simp (disch := first | omega | (simp <;> omega) | fail) [wrap_i64, wrap_u64, wrap_u8']
    refine ⟨fun h16 => ?_, fun h16 => ?_⟩
    · skip
      refine HT.seq ?_
      refine HT.region ?_   -- R5
      simp (disch := first | omega | (simp <;> omega) | fail) [wrap_i64, wrap_u64, wrap_u8']
      refine HT.ret ?_
      have h1 : c ∈ l := h16 ▸ List.getElem_mem hk'
      have h2 : l.idxOf c = k := idxOf_first hk' h16.symm hg
      simp (disch := first | omega | (simp <;> omega) | fail) [wrap_i64, wrap_u64, wrap_u8', h1, h2]
    · skip
      refine HT.skip ?_
      simp (disch := first | omega | (simp <;> omega) | fail) [wrap_i64, wrap_u64, wrap_u8']
      refine HT.region ?_   -- R6
      simp (disch := first | omega | (simp <;> omega) | fail) [wrap_i64, wrap_u64, wrap_u8']
      refine Round.mk' (⟨k + 1, by omega, ne_next hg hk' (fun e => h16 e.symm)⟩) (by dsimp only; omega) rfl ?_
      simp (disch := first | omega | (simp <;> omega) | fail) [wrap_i64, wrap_u64, wrap_u8']
  · skip
    obtain rfl : k = l.length := by omega
    refine HT.exit ?_
    simp (disch := first | omega | (simp <;> omega) | fail) [wrap_i64, wrap_u64, wrap_u8']
    refine HT.seq ?_
    refine HT.region ?_   -- R7
    simp (disch := first | omega | (simp <;> omega) | fail) [wrap_i64, wrap_u64, wrap_u8']
    refine HT.ret ?_
    simp (disch := first | omega | (simp <;> omega) | fail) [wrap_i64, wrap_u64, wrap_u8', idx_ne hg]
theorem Contains_spec (f : Bool) (l : List Int) (c : Int) (hl : l.length ≤ 140737488355328) : Spec1 Tryz.prog 31 [.sl 1 f (intsHV l), i64 c] (bo (decide (c ∈ l))) := by
  refine Spec1.of_HT Tryz.func31 rfl (by rw [Tryz.ntmps31]; simp) rfl ?_
  rw [Tryz.ntmps31]
  refine HT.seq ?_
  refine HT.region ?_   -- R0
  simp (disch := first | omega | (simp <;> omega) | fail) [wrap_i64, wrap_u64, wrap_u8']
  refine HT.seq ?_
  refine HT.region ?_   -- R1
  simp (disch := first | omega | (simp <;> omega) | fail) [wrap_i64, wrap_u64, wrap_u8']
  refine stepK.mk (.call1 _ _ _ _ rfl Ty.hb60 rfl (Index_spec f l c hl) rfl rfl) ?_
  simp (disch := first | omega | (simp <;> omega) | fail) [wrap_i64, wrap_u64, wrap_u8']
  refine HT.ret ?_
  by_cases hc : c ∈ l
  · simp (disch := first | omega | (simp <;> omega) | fail) [wrap_i64, wrap_u64, wrap_u8', hc]
  · simp (disch := first | omega | (simp <;> omega) | fail) [wrap_i64, wrap_u64, wrap_u8', hc]
theorem class_spec (n : Int) (hn : n < 9223372036854775808) : Spec1 Tryz.prog 46 [i64 n] (i64 (classV n)) := by
  have hcn := class63 hn
  refine Spec1.of_HT Tryz.func46 rfl (by rw [Tryz.ntmps46]; simp) rfl ?_
  rw [Tryz.ntmps46]
  refine HT.seq ?_
  refine HT.region ?_   -- R0
  simp (disch := first | omega | (simp <;> omega) | fail) [wrap_i64, wrap_u64, wrap_u8']
  refine HT.seq ?_
  refine HT.region ?_   -- R1
  simp (disch := first | omega | (simp <;> omega) | fail) [wrap_i64, wrap_u64, wrap_u8']
  refine HT.seq ?_
  refine HT.block ?_
  refine HT.loopK (fun k : {k : Int × Nat // k.1 < 9223372036854775808 ∧ classV n = k.2 + classV k.1} => [.s 0 (i64 k.1.1), .s 3 (i64 k.1.2)]) [] [] (fun k => k.1.1.toNat) (⟨⟨n, 0⟩, hn, by simp⟩) ?_ ?_   -- block 0 turned [0, 3]
  · simp (disch := first | omega | (simp <;> omega) | fail) [wrap_i64, wrap_u64, wrap_u8']
  rintro ⟨⟨m, k⟩, hm, hk⟩
  simp (disch := first | omega | (simp <;> omega) | fail) [wrap_i64, wrap_u64, wrap_u8']
  refine HT.seq ?_
  refine HT.seq ?_
  refine HT.region ?_   -- R2
  simp (disch := first | omega | (simp <;> omega) | fail) [wrap_i64, wrap_u64, wrap_u8']
  refine HT.cond' ?_   -- if 5
  simp (disch := first | omega | (simp <;> omega) | fail) [wrap_i64, wrap_u64, wrap_u8']
  refine ⟨fun h5 => ?_, fun h5 => ?_⟩
  · skip
    dsimp only at hk hm
    have hpos : 0 < m := by omega
    have hc1 := classV_gt hpos
    refine HT.skip ?_
    simp (disch := first | omega | (simp <;> omega) | fail) [wrap_i64, wrap_u64, wrap_u8']
    refine HT.block ?_
    refine HT.seq ?_
    refine HT.region ?_   -- R3
    simp (disch := first | omega | (simp <;> omega) | fail) [wrap_i64, wrap_u64, wrap_u8']
    refine HT.region ?_   -- R4
    simp (disch := first | omega | (simp <;> omega) | fail) [wrap_i64, wrap_u64, wrap_u8']
    refine Round.mk' (⟨⟨m / 4, k + 1⟩, by dsimp only; omega, by dsimp only; omega⟩) (by dsimp only; omega) rfl ?_
    simp (disch := first | omega | (simp <;> omega) | fail) [wrap_i64, wrap_u64, wrap_u8', class_quo hpos hm]
  · skip
    dsimp only at hk hm
    have h0 : classV n = k := by have := classV_le (show m ≤ 0 by omega); omega
    refine HT.exit ?_
    simp (disch := first | omega | (simp <;> omega) | fail) [wrap_i64, wrap_u64, wrap_u8']
    refine HT.seq ?_
    refine HT.region ?_   -- R5
    simp (disch := first | omega | (simp <;> omega) | fail) [wrap_i64, wrap_u64, wrap_u8']
    refine HT.ret ?_
    simp (disch := first | omega | (simp <;> omega) | fail) [wrap_i64, wrap_u64, wrap_u8', h0]
theorem indices_spec (a b : Nat) (h : a ≤ b) (hb : b ≤ 1000000) : Spec1 Tryz.prog 47 [i64 a, i64 b] (.sl 1 false (intsHV (rangeI a b))) := by
  refine Spec1.of_HT Tryz.func47 rfl (by rw [Tryz.ntmps47]; simp) rfl ?_
  rw [Tryz.ntmps47]
  refine HT.seq ?_
  refine HT.region ?_   -- R0
  simp (disch := first | omega | (simp <;> omega) | fail) [wrap_i64, wrap_u64, wrap_u8']
  refine HT.seq ?_
  refine HT.region ?_   -- R1
  simp (disch := first | omega | (simp <;> omega) | fail) [wrap_i64, wrap_u64, wrap_u8']
  refine HT.weaken (HS.le_own (t := 5) 200 3 1 _ (by decide) rfl (by decide)) ?_
  refine HT.seq ?_
  refine HT.seq ?_
  refine HT.region ?_   -- R2
  simp (disch := first | omega | (simp <;> omega) | fail) [wrap_i64, wrap_u64, wrap_u8']
  refine HT.block ?_
  refine HT.loopK (fun k : {k : Nat // a ≤ k ∧ k ≤ b} => [.s 6 (i64 k), .s 5 (.ref 200), .o 200 (.row 3 1 (intsHV (rangeI a k)))]) [1] [] (fun k => b - k) (⟨a, by omega, h⟩) ?_ ?_   -- block 0 turned [5, 6]
  · simp (disch := first | omega | (simp <;> omega) | fail) [wrap_i64, wrap_u64, wrap_u8']
  rintro ⟨k, hk, hk2⟩
  simp (disch := first | omega | (simp <;> omega) | fail) [wrap_i64, wrap_u64, wrap_u8']
  refine HT.seq ?_
  refine HT.seq ?_
  refine HT.region ?_   -- R3
  simp (disch := first | omega | (simp <;> omega) | fail) [wrap_i64, wrap_u64, wrap_u8']
  refine HT.cond' ?_   -- if 10
  simp (disch := first | omega | (simp <;> omega) | fail) [wrap_i64, wrap_u64, wrap_u8']
  refine ⟨fun h10 => ?_, fun h10 => ?_⟩
  · skip
    have hk' : k < b := by omega
    refine HT.skip ?_
    simp (disch := first | omega | (simp <;> omega) | fail) [wrap_i64, wrap_u64, wrap_u8']
    refine HT.seq ?_
    refine HT.block ?_
    refine HT.region ?_   -- R5
    simp (disch := first | omega | (simp <;> omega) | fail) [wrap_i64, wrap_u64, wrap_u8']
    refine HT.region ?_   -- R4
    simp (disch := first | omega | (simp <;> omega) | fail) [wrap_i64, wrap_u64, wrap_u8']
    refine Round.mk' (⟨k + 1, by omega, by omega⟩) (by dsimp only; omega) rfl ?_
    simp (disch := first | omega | (simp <;> omega) | fail) [wrap_i64, wrap_u64, wrap_u8', rangeI_succ hk]
  · skip
    obtain rfl : k = b := by omega
    refine HT.exit ?_
    simp (disch := first | omega | (simp <;> omega) | fail) [wrap_i64, wrap_u64, wrap_u8']
    refine HT.seq ?_
    refine HT.region ?_   -- R6
    simp (disch := first | omega | (simp <;> omega) | fail) [wrap_i64, wrap_u64, wrap_u8']
    refine HT.ret ?_
    simp (disch := first | omega | (simp <;> omega) | fail) [wrap_i64, wrap_u64, wrap_u8']
end Go.Hv
set_option linter.unusedVariables false
set_option linter.unusedSimpArgs false
namespace Go.Hv
open Go Go.Hv Go.Proofs
open Go.Proofs.YthdljfognblpbaaGreatDoor
def S63 (l : List Int) : Prop := ∀ x ∈ l, x < 9223372036854775808
theorem goR_same' {l : List Int} {i e : Nat} (he : e < l.length) (hi : i < l.length) (h : classV l[e] = classV l[i]) : goR l i e = goR l i (e + 1) :=
  goR_same he (by simp [List.getD_eq_getElem?_getD, he, hi, h])
theorem goR_stop' {l : List Int} {i e : Nat} (he : e ≤ l.length) (hi : i < l.length) (h : ∀ (h : e < l.length), ¬ classV l[e] = classV l[i]) : goR l i e = if 3 ≤ e - i then some (i, e) else goR l e (e + 1) :=
  goR_stop he fun ⟨h1, h2⟩ => h h1 (by simpa [List.getD_eq_getElem?_getD, h1, hi] using h2)
theorem indices0_spec (b : Nat) (hb : b ≤ 1000000) : Spec1 Tryz.prog 47 [i64 0, i64 b] (.sl 1 false (intsHV (rangeI 0 b))) := by simpa using indices_spec 0 b (by omega) hb
set_option maxHeartbeats 1000000 in
theorem Pick_spec (f : Bool) (l : List Int) (hl : l.length ≤ 1000) (hw : S63 l) : Spec1 Tryz.prog 19 [.sl 1 f (intsHV l)] (.sl 1 false (intsHV (pickV l))) := by
  refine Spec1.of_HT Tryz.func19 rfl (by rw [Tryz.ntmps19]; simp) rfl ?_
  rw [Tryz.ntmps19]
  refine HT.seq ?_
  refine HT.region ?_   -- R0
  simp (disch := first | omega | (simp <;> omega) | fail) [wrap_i64, wrap_u64, wrap_u8']
  refine HT.seq ?_
  refine HT.seq ?_
  refine HT.region ?_   -- R1
  simp (disch := first | omega | (simp <;> omega) | fail) [wrap_i64, wrap_u64, wrap_u8']
  refine HT.block ?_
  refine HT.loopK (fun k : {k : Nat // k ≤ l.length ∧ goR l k (k + 1) = goR l 0 1} => [.s 3 (i64 k)]) [0] [] (fun k => l.length - k) (⟨0, by omega, rfl⟩) ?_ ?_   -- block 0 turned [3, 16, 17, 18, 19, 20, 21, 22, 23, 24, 25, 26]
  · simp (disch := first | omega | (simp <;> omega) | fail) [wrap_i64, wrap_u64, wrap_u8']
  rintro ⟨i, hi, hg⟩
  simp (disch := first | omega | (simp <;> omega) | fail) [wrap_i64, wrap_u64, wrap_u8']
  refine HT.seq ?_
  refine HT.seq ?_
  refine HT.region ?_   -- R2
  simp (disch := first | omega | (simp <;> omega) | fail) [wrap_i64, wrap_u64, wrap_u8']
  refine HT.cond' ?_   -- if 8
  simp (disch := first | omega | (simp <;> omega) | fail) [wrap_i64, wrap_u64, wrap_u8']
  refine ⟨fun h8 => ?_, fun h8 => ?_⟩
  · skip
    have hi' : i < l.length := by omega
    refine HT.skip ?_
    simp (disch := first | omega | (simp <;> omega) | fail) [wrap_i64, wrap_u64, wrap_u8']
    refine HT.block ?_
    refine HT.seq ?_
    refine HT.region ?_   -- R3
    simp (disch := first | omega | (simp <;> omega) | fail) [wrap_i64, wrap_u64, wrap_u8']
    refine HT.joinX (fun p : {k : Nat // i < k ∧ k ≤ l.length ∧ (if 3 ≤ k - i then some (i, k) else goR l k (k + 1)) = goR l 0 1} => [.s 4 (i64 p.1)]) [0, 3] [] ?_ ?_
    · skip
      refine HT.block ?_
      refine HT.loopK (fun k : {k : Nat // i < k ∧ k ≤ l.length ∧ goR l i k = goR l 0 1} => [.s 4 (i64 k)]) [0, 3] [] (fun k => l.length - k) (⟨i + 1, by omega, by omega, hg⟩) ?_ ?_   -- block 2 turned [4, 16, 17, 18, 19, 20, 21, 22, 23, 24, 25, 26]
      · simp (disch := first | omega | (simp <;> omega) | fail) [wrap_i64, wrap_u64, wrap_u8']
      rintro ⟨e, hie, hel, hge⟩
      simp (disch := first | omega | (simp <;> omega) | fail) [wrap_i64, wrap_u64, wrap_u8']
      refine HT.seq ?_
      refine HT.seq ?_
      by_cases c1 : l.length ≤ e
      · skip
        refine HT.draw [.batch [0, 1, 2, 3, 4, 5, 6, 7, 8, 9, 10, 11, 12, 13, 14, 15, 16]] (by kernel_rfl) ?_   -- R4
        simp -dsimp (disch := first | omega | (simp <;> omega) | fail) [wrap_i64, wrap_u64, wrap_u8']
        refine HT.cond' ?_   -- if 27
        simp (disch := first | omega | (simp <;> omega) | fail) [wrap_i64, wrap_u64, wrap_u8']
        refine HT.exit ?_
        simp (disch := first | omega | (simp <;> omega) | fail) [wrap_i64, wrap_u64, wrap_u8']
        refine Pick.mk' (⟨e, hie, hel, by rw [← goR_stop' hel hi' (fun h => by first | omega | exact c2)]; exact hge⟩) rfl ?_
        simp (disch := first | omega | (simp <;> omega) | fail) [wrap_i64, wrap_u64, wrap_u8']
      have he : e < l.length := by omega
      by_cases c2 : ¬ classV l[e] = classV l[i]
      · skip
        refine HT.draw [.batch [0, 1, 2, 3, 4, 5, 6, 7, 8, 9, 10, 11, 12, 13, 14, 15, 16]] (by kernel_rfl) ?_   -- R4
        simp -dsimp (disch := first | omega | (simp <;> omega) | fail) [wrap_i64, wrap_u64, wrap_u8']
        refine stepK.mk (.call1 _ _ _ rfl Ty.hb46 rfl rfl (class_spec _ (hw _ (List.getElem_mem he)))) ?_
        simp -dsimp (disch := first | omega | (simp <;> omega) | fail) [wrap_i64, wrap_u64, wrap_u8']
        refine stepK.mk (.call1 _ _ _ rfl Ty.hb46 rfl rfl (class_spec _ (hw _ (List.getElem_mem hi')))) ?_
        simp -dsimp (disch := first | omega | (simp <;> omega) | fail) [wrap_i64, wrap_u64, wrap_u8']
        refine HT.cond' ?_   -- if 27
        simp (disch := first | omega | (simp <;> omega) | fail) [wrap_i64, wrap_u64, wrap_u8']
        refine HT.exit ?_
        simp (disch := first | omega | (simp <;> omega) | fail) [wrap_i64, wrap_u64, wrap_u8']
        refine Pick.mk' (⟨e, hie, hel, by rw [← goR_stop' hel hi' (fun h => by first | omega | exact c2)]; exact hge⟩) rfl ?_
        simp (disch := first | omega | (simp <;> omega) | fail) [wrap_i64, wrap_u64, wrap_u8']
      rw [Classical.not_not] at c2
      refine HT.draw [.batch [0, 1, 2, 3, 4, 5, 6, 7, 8, 9, 10, 11, 12, 13, 14, 15, 16]] (by kernel_rfl) ?_   -- R4
      simp -dsimp (disch := first | omega | (simp <;> omega) | fail) [wrap_i64, wrap_u64, wrap_u8']
      refine stepK.mk (.call1 _ _ _ rfl Ty.hb46 rfl rfl (class_spec _ (hw _ (List.getElem_mem he)))) ?_
      simp -dsimp (disch := first | omega | (simp <;> omega) | fail) [wrap_i64, wrap_u64, wrap_u8']
      refine stepK.mk (.call1 _ _ _ rfl Ty.hb46 rfl rfl (class_spec _ (hw _ (List.getElem_mem hi')))) ?_
      simp -dsimp (disch := first | omega | (simp <;> omega) | fail) [wrap_i64, wrap_u64, wrap_u8']
      refine HT.cond' ?_   -- if 27
      simp (disch := first | omega | (simp <;> omega) | fail) [wrap_i64, wrap_u64, wrap_u8']
      refine HT.skip ?_
      simp (disch := first | omega | (simp <;> omega) | fail) [wrap_i64, wrap_u64, wrap_u8']
      refine HT.block ?_
      refine HT.region ?_   -- R5
      simp (disch := first | omega | (simp <;> omega) | fail) [wrap_i64, wrap_u64, wrap_u8']
      refine Round.mk' (⟨e + 1, by omega, by omega, by rw [← goR_same' he hi' c2]; exact hge⟩) (by dsimp only; omega) rfl ?_
      simp (disch := first | omega | (simp <;> omega) | fail) [wrap_i64, wrap_u64, wrap_u8']
    · rintro ⟨e, hie, hel, hst⟩
      simp (disch := first | omega | (simp <;> omega) | fail) [wrap_i64, wrap_u64, wrap_u8']
      refine HT.seq ?_
      refine HT.seq ?_
      refine HT.region ?_   -- R6
      simp (disch := first | omega | (simp <;> omega) | fail) [wrap_i64, wrap_u64, wrap_u8']
      refine HT.cond' ?_   -- if 33
      simp (disch := first | omega | (simp <;> omega) | fail) [wrap_i64, wrap_u64, wrap_u8']
      refine ⟨fun h33 => ?_, fun h33 => ?_⟩
      · skip
        have h3 : 3 ≤ e - i := by omega
        have hps : pickV l = rangeI i e := pickV_some (by rw [← hst, if_pos h3])
        refine HT.seq ?_
        refine HT.region ?_   -- R7
        simp (disch := first | omega | (simp <;> omega) | fail) [wrap_i64, wrap_u64, wrap_u8']
        refine stepK.mk (.call1f _ _ _ _ _ rfl Ty.hb47 rfl rfl (indices_spec i e (by omega) (by omega)) rfl) ?_
        simp (disch := first | omega | (simp <;> omega) | fail) [wrap_i64, wrap_u64, wrap_u8']
        refine HT.ret ?_
        simp (disch := first | omega | (simp <;> omega) | fail) [wrap_i64, wrap_u64, wrap_u8', hps]
      · skip
        refine HT.skip ?_
        simp (disch := first | omega | (simp <;> omega) | fail) [wrap_i64, wrap_u64, wrap_u8']
        refine HT.region ?_   -- R8
        simp (disch := first | omega | (simp <;> omega) | fail) [wrap_i64, wrap_u64, wrap_u8']
        refine Round.mk' (⟨e, hel, by rw [← hst, if_neg (by omega)]⟩) (by dsimp only; omega) rfl ?_
        simp (disch := first | omega | (simp <;> omega) | fail) [wrap_i64, wrap_u64, wrap_u8']
  · skip
    obtain rfl : i = l.length := by omega
    have hnone : goR l 0 1 = none := by rw [← hg]; exact goR_out (by omega)
    have hpn := pickV_none hnone
    refine HT.exit ?_
    simp (disch := first | omega | (simp <;> omega) | fail) [wrap_i64, wrap_u64, wrap_u8']
    refine HT.seq ?_
    refine HT.seq ?_
    refine HT.region ?_   -- R9
    simp (disch := first | omega | (simp <;> omega) | fail) [wrap_i64, wrap_u64, wrap_u8']
    refine HT.cond' ?_   -- if 40
    simp (disch := first | omega | (simp <;> omega) | fail) [wrap_i64, wrap_u64, wrap_u8']
    refine ⟨fun h40 => ?_, fun h40 => ?_⟩
    · skip
      have h8 : 8 ≤ l.length := by omega
      refine HT.seq ?_
      refine HT.region ?_   -- R10
      simp (disch := first | omega | (simp <;> omega) | fail) [wrap_i64, wrap_u64, wrap_u8']
      refine stepK.mk (.call1f _ _ _ _ _ rfl Ty.hb47 rfl rfl (indices0_spec l.length (by omega)) rfl) ?_
      simp (disch := first | omega | (simp <;> omega) | fail) [wrap_i64, wrap_u64, wrap_u8']
      refine HT.ret ?_
      simp (disch := first | omega | (simp <;> omega) | fail) [wrap_i64, wrap_u64, wrap_u8', hpn, h8]
    · skip
      have h8 : ¬ 8 ≤ l.length := by omega
      refine HT.skip ?_
      simp (disch := first | omega | (simp <;> omega) | fail) [wrap_i64, wrap_u64, wrap_u8']
      refine HT.seq ?_
      refine HT.region ?_   -- R11
      simp (disch := first | omega | (simp <;> omega) | fail) [wrap_i64, wrap_u64, wrap_u8']
      refine HT.weaken (HS.le_wk 2 (.sl 1 false []) (by decide) rfl rfl (HLe.nilf 0 1 true)) ?_
      refine HT.ret ?_
      simp (disch := first | omega | (simp <;> omega) | fail) [wrap_i64, wrap_u64, wrap_u8', hpn, h8]
end Go.Hv
set_option linter.unusedVariables false
set_option linter.unusedSimpArgs false
namespace Go.Hv
open Go Go.Hv Go.Proofs
open Go.Proofs.YthdljfognblpbaaGreatDoor
theorem filt_succ {α : Type} (q : α → Bool) {l : List α} {j : Nat} (hj : j < l.length) : (l.take (j + 1)).filter q = (l.take j).filter q ++ (if q l[j] = true then [l[j]] else []) := by
  rw [List.take_succ_eq_append_getElem hj, List.filter_append]
  by_cases h : q l[j] = true <;> simp [h]
theorem filt_le {α : Type} (q : α → Bool) (l : List α) (j : Nat) : ((l.take j).filter q).length ≤ l.length := by
  have h1 := List.length_filter_le q (l.take j)
  rw [List.length_take] at h1; omega
theorem docsHV_snoc' (l : List Doc) (d : Doc) : docsHV l ++ [[i64 d.id, .str d.repo, .str d.path, .str d.text, .sl 1 false (strsHV d.on)]] = docsHV (l ++ [d]) := by simp [docsHV]
theorem gramsHV_snoc' (l : List Gram) (d : Gram) : gramsHV l ++ [[i64 d.code, .sl 1 false (intsHV d.off)]] = gramsHV (l ++ [d]) := by simp [gramsHV]
theorem postsHV_snoc' (l : List Post) (d : Post) : postsHV l ++ [[i64 d.code, .sl 2 false (gramsHV d.docs)]] = postsHV (l ++ [d]) := by simp [postsHV]
set_option maxHeartbeats 1000000 in
theorem keepD_spec (g : Nat) (hg : hasBody Tryz.prog g = true) (cap : List HV) (hcap : isIL cap = true) (p : Doc → Bool) (l : List Doc) (hl : l.length ≤ 1000000) (hp : ∀ d ∈ l, Spec1 Tryz.prog g (.agg d.enc :: cap) (bo (p d))) : Spec1 Tryz.prog 29 [.sl 5 false (docsHV l), .fn (.func g) cap] (.sl 5 false (docsHV (l.filter p))) := by
  have hsub : ∀ (i : Nat) (x y : HV), subL i x y cap = cap := fun i x y => subL_isI i x y cap hcap
  refine Spec1.of_HT Tryz.func29 rfl (by rw [Tryz.ntmps29]; simp) rfl ?_
  rw [Tryz.ntmps29]
  refine HT.seq ?_
  refine HT.region ?_   -- R0
  simp (disch := first | omega | (simp <;> omega) | fail) [wrap_i64, wrap_u64, wrap_u8', hsub]
  refine HT.seq ?_
  refine HT.region ?_   -- R1
  simp (disch := first | omega | (simp <;> omega) | fail) [wrap_i64, wrap_u64, wrap_u8', hsub]
  refine HT.weaken (HS.le_own (t := 5) 200 47 5 _ (by decide) rfl (by decide)) ?_
  refine HT.seq ?_
  refine HT.seq ?_
  refine HT.region ?_   -- R2
  simp (disch := first | omega | (simp <;> omega) | fail) [wrap_i64, wrap_u64, wrap_u8', hsub]
  refine HT.block ?_
  refine HT.loopK (fun k : {k : Nat // k ≤ l.length} => [.s 10 (i64 k), .s 5 (.ref 200), .o 200 (.row 47 5 (docsHV ((l.take k).filter p)))]) [1, 8, 9] [] (fun k => l.length - k) (⟨0, by omega⟩) ?_ ?_   -- block 0 turned [5, 10]
  · simp (disch := first | omega | (simp <;> omega) | fail) [wrap_i64, wrap_u64, wrap_u8', hsub]
  rintro ⟨k, hk⟩
  simp (disch := first | omega | (simp <;> omega) | fail) [wrap_i64, wrap_u64, wrap_u8', hsub]
  refine HT.seq ?_
  refine HT.region ?_   -- R3
  simp (disch := first | omega | (simp <;> omega) | fail) [wrap_i64, wrap_u64, wrap_u8', hsub]
  refine HT.seq ?_
  refine HT.cond' ?_   -- if 11
  simp (disch := first | omega | (simp <;> omega) | fail) [wrap_i64, wrap_u64, wrap_u8', hsub]
  refine ⟨fun h11 => ?_, fun h11 => ?_⟩
  · skip
    have hk' : k < l.length := by omega
    have hfl := filt_le p l k
    refine HT.skip ?_
    simp (disch := first | omega | (simp <;> omega) | fail) [wrap_i64, wrap_u64, wrap_u8', hsub]
    refine HT.seq ?_
    refine HT.block ?_
    refine HT.seq ?_
    refine HT.region ?_   -- R4
    simp (disch := first | omega | (simp <;> omega) | fail) [wrap_i64, wrap_u64, wrap_u8', hsub]
    refine HT.seq ?_
    refine HT.region ?_   -- R5
    simp (disch := first | omega | (simp <;> omega) | fail) [wrap_i64, wrap_u64, wrap_u8', hsub]
    refine stepK.mk (.call1 _ _ _ _ rfl hg (by simp [rdL, rd, rdL_isI, hcap, hsub]) (hp l[k] (List.getElem_mem hk')) rfl rfl) ?_
    simp (disch := first | omega | (simp <;> omega) | fail) [wrap_i64, wrap_u64, wrap_u8', hsub]
    refine HT.cond' ?_   -- if 16
    simp (disch := first | omega | (simp <;> omega) | fail) [wrap_i64, wrap_u64, wrap_u8', hsub]
    refine ⟨fun h16 => ?_, fun h16 => ?_⟩
    · skip
      refine HT.region ?_   -- R6
      simp (disch := first | omega | (simp <;> omega) | fail) [wrap_i64, wrap_u64, wrap_u8', hsub]
      refine HT.region ?_   -- R7
      simp (disch := first | omega | (simp <;> omega) | fail) [wrap_i64, wrap_u64, wrap_u8', hsub]
      refine Round.mk' (⟨k + 1, by omega⟩) (by dsimp only; omega) rfl ?_
      simp (disch := first | omega | (simp <;> omega) | fail) [wrap_i64, wrap_u64, wrap_u8', hsub, filt_succ p hk', h16, docsHV_snoc']
    · skip
      refine HT.skip ?_
      simp (disch := first | omega | (simp <;> omega) | fail) [wrap_i64, wrap_u64, wrap_u8', hsub]
      refine HT.region ?_   -- R7
      simp (disch := first | omega | (simp <;> omega) | fail) [wrap_i64, wrap_u64, wrap_u8', hsub]
      refine Round.mk' (⟨k + 1, by omega⟩) (by dsimp only; omega) rfl ?_
      simp (disch := first | omega | (simp <;> omega) | fail) [wrap_i64, wrap_u64, wrap_u8', hsub, filt_succ p hk', h16, docsHV_snoc']
  · skip
    obtain rfl : k = l.length := by omega
    refine HT.exit ?_
    simp (disch := first | omega | (simp <;> omega) | fail) [wrap_i64, wrap_u64, wrap_u8', hsub]
    refine HT.seq ?_
    refine HT.region ?_   -- R8
    simp (disch := first | omega | (simp <;> omega) | fail) [wrap_i64, wrap_u64, wrap_u8', hsub]
    refine HT.ret ?_
    simp (disch := first | omega | (simp <;> omega) | fail) [wrap_i64, wrap_u64, wrap_u8', hsub]
set_option maxHeartbeats 1000000 in
theorem keepG_spec (g : Nat) (hg : hasBody Tryz.prog g = true) (cap : List HV) (hcap : isIL cap = true) (p : Gram → Bool) (l : List Gram) (hl : l.length ≤ 1000000) (hp : ∀ d ∈ l, Spec1 Tryz.prog g (.agg d.enc :: cap) (bo (p d))) : Spec1 Tryz.prog 44 [.sl 2 false (gramsHV l), .fn (.func g) cap] (.sl 2 false (gramsHV (l.filter p))) := by
  have hsub : ∀ (i : Nat) (x y : HV), subL i x y cap = cap := fun i x y => subL_isI i x y cap hcap
  refine Spec1.of_HT Tryz.func44 rfl (by rw [Tryz.ntmps44]; simp) rfl ?_
  rw [Tryz.ntmps44]
  refine HT.seq ?_
  refine HT.region ?_   -- R0
  simp (disch := first | omega | (simp <;> omega) | fail) [wrap_i64, wrap_u64, wrap_u8', hsub]
  refine HT.seq ?_
  refine HT.region ?_   -- R1
  simp (disch := first | omega | (simp <;> omega) | fail) [wrap_i64, wrap_u64, wrap_u8', hsub]
  refine HT.weaken (HS.le_own (t := 5) 200 58 2 _ (by decide) rfl (by decide)) ?_
  refine HT.seq ?_
  refine HT.seq ?_
  refine HT.region ?_   -- R2
  simp (disch := first | omega | (simp <;> omega) | fail) [wrap_i64, wrap_u64, wrap_u8', hsub]
  refine HT.block ?_
  refine HT.loopK (fun k : {k : Nat // k ≤ l.length} => [.s 10 (i64 k), .s 5 (.ref 200), .o 200 (.row 58 2 (gramsHV ((l.take k).filter p)))]) [1, 8, 9] [] (fun k => l.length - k) (⟨0, by omega⟩) ?_ ?_   -- block 0 turned [5, 10]
  · simp (disch := first | omega | (simp <;> omega) | fail) [wrap_i64, wrap_u64, wrap_u8', hsub]
  rintro ⟨k, hk⟩
  simp (disch := first | omega | (simp <;> omega) | fail) [wrap_i64, wrap_u64, wrap_u8', hsub]
  refine HT.seq ?_
  refine HT.region ?_   -- R3
  simp (disch := first | omega | (simp <;> omega) | fail) [wrap_i64, wrap_u64, wrap_u8', hsub]
  refine HT.seq ?_
  refine HT.cond' ?_   -- if 11
  simp (disch := first | omega | (simp <;> omega) | fail) [wrap_i64, wrap_u64, wrap_u8', hsub]
  refine ⟨fun h11 => ?_, fun h11 => ?_⟩
  · skip
    have hk' : k < l.length := by omega
    have hfl := filt_le p l k
    refine HT.skip ?_
    simp (disch := first | omega | (simp <;> omega) | fail) [wrap_i64, wrap_u64, wrap_u8', hsub]
    refine HT.seq ?_
    refine HT.block ?_
    refine HT.seq ?_
    refine HT.region ?_   -- R4
    simp (disch := first | omega | (simp <;> omega) | fail) [wrap_i64, wrap_u64, wrap_u8', hsub]
    refine HT.seq ?_
    refine HT.region ?_   -- R5
    simp (disch := first | omega | (simp <;> omega) | fail) [wrap_i64, wrap_u64, wrap_u8', hsub]
    refine stepK.mk (.call1 _ _ _ _ rfl hg (by simp [rdL, rd, rdL_isI, hcap, hsub]) (hp l[k] (List.getElem_mem hk')) rfl rfl) ?_
    simp (disch := first | omega | (simp <;> omega) | fail) [wrap_i64, wrap_u64, wrap_u8', hsub]
    refine HT.cond' ?_   -- if 16
    simp (disch := first | omega | (simp <;> omega) | fail) [wrap_i64, wrap_u64, wrap_u8', hsub]
    refine ⟨fun h16 => ?_, fun h16 => ?_⟩
    · skip
      refine HT.region ?_   -- R6
      simp (disch := first | omega | (simp <;> omega) | fail) [wrap_i64, wrap_u64, wrap_u8', hsub]
      refine HT.region ?_   -- R7
      simp (disch := first | omega | (simp <;> omega) | fail) [wrap_i64, wrap_u64, wrap_u8', hsub]
      refine Round.mk' (⟨k + 1, by omega⟩) (by dsimp only; omega) rfl ?_
      simp (disch := first | omega | (simp <;> omega) | fail) [wrap_i64, wrap_u64, wrap_u8', hsub, filt_succ p hk', h16, gramsHV_snoc']
    · skip
      refine HT.skip ?_
      simp (disch := first | omega | (simp <;> omega) | fail) [wrap_i64, wrap_u64, wrap_u8', hsub]
      refine HT.region ?_   -- R7
      simp (disch := first | omega | (simp <;> omega) | fail) [wrap_i64, wrap_u64, wrap_u8', hsub]
      refine Round.mk' (⟨k + 1, by omega⟩) (by dsimp only; omega) rfl ?_
      simp (disch := first | omega | (simp <;> omega) | fail) [wrap_i64, wrap_u64, wrap_u8', hsub, filt_succ p hk', h16, gramsHV_snoc']
  · skip
    obtain rfl : k = l.length := by omega
    refine HT.exit ?_
    simp (disch := first | omega | (simp <;> omega) | fail) [wrap_i64, wrap_u64, wrap_u8', hsub]
    refine HT.seq ?_
    refine HT.region ?_   -- R8
    simp (disch := first | omega | (simp <;> omega) | fail) [wrap_i64, wrap_u64, wrap_u8', hsub]
    refine HT.ret ?_
    simp (disch := first | omega | (simp <;> omega) | fail) [wrap_i64, wrap_u64, wrap_u8', hsub]
theorem MergeC_spec (f : Bool) (dead : List Int) (hd : dead.length ≤ 1000000) (d : Doc) : Spec1 Tryz.prog 30 [.agg d.enc, .cptr [.sl 1 f (intsHV dead)]] (bo (aliveB dead d.id)) := by
  refine Spec1.of_HT Tryz.func30 rfl (by rw [Tryz.ntmps30]; simp) rfl ?_
  rw [Tryz.ntmps30]
  refine HT.seq ?_
  refine HT.region ?_   -- R0
  simp (disch := first | omega | (simp <;> omega) | fail) [wrap_i64, wrap_u64, wrap_u8']
  refine HT.seq ?_
  refine HT.region ?_   -- R1
  simp (disch := first | omega | (simp <;> omega) | fail) [wrap_i64, wrap_u64, wrap_u8']
  refine stepK.mk (.call1 _ _ _ _ rfl Ty.hb31 rfl (Contains_spec f dead d.id (by omega)) rfl rfl) ?_
  simp (disch := first | omega | (simp <;> omega) | fail) [wrap_i64, wrap_u64, wrap_u8']
  refine HT.ret ?_
  simp (disch := first | omega | (simp <;> omega) | fail) [wrap_i64, wrap_u64, wrap_u8', aliveB]
theorem FilterC1_spec (f : Bool) (dead : List Int) (hd : dead.length ≤ 1000000) (d : Doc) : Spec1 Tryz.prog 43 [.agg d.enc, .cptr [.sl 1 f (intsHV dead)]] (bo (aliveB dead d.id)) := by
  refine Spec1.of_HT Tryz.func43 rfl (by rw [Tryz.ntmps43]; simp) rfl ?_
  rw [Tryz.ntmps43]
  refine HT.seq ?_
  refine HT.region ?_   -- R0
  simp (disch := first | omega | (simp <;> omega) | fail) [wrap_i64, wrap_u64, wrap_u8']
  refine HT.seq ?_
  refine HT.region ?_   -- R1
  simp (disch := first | omega | (simp <;> omega) | fail) [wrap_i64, wrap_u64, wrap_u8']
  refine stepK.mk (.call1 _ _ _ _ rfl Ty.hb31 rfl (Contains_spec f dead d.id (by omega)) rfl rfl) ?_
  simp (disch := first | omega | (simp <;> omega) | fail) [wrap_i64, wrap_u64, wrap_u8']
  refine HT.ret ?_
  simp (disch := first | omega | (simp <;> omega) | fail) [wrap_i64, wrap_u64, wrap_u8', aliveB]
theorem FilterC2_spec (f : Bool) (dead : List Int) (hd : dead.length ≤ 1000000) (d : Gram) : Spec1 Tryz.prog 45 [.agg d.enc, .cptr [.sl 1 f (intsHV dead)]] (bo (aliveB dead d.code)) := by
  refine Spec1.of_HT Tryz.func45 rfl (by rw [Tryz.ntmps45]; simp) rfl ?_
  rw [Tryz.ntmps45]
  refine HT.seq ?_
  refine HT.region ?_   -- R0
  simp (disch := first | omega | (simp <;> omega) | fail) [wrap_i64, wrap_u64, wrap_u8']
  refine HT.seq ?_
  refine HT.region ?_   -- R1
  simp (disch := first | omega | (simp <;> omega) | fail) [wrap_i64, wrap_u64, wrap_u8']
  refine stepK.mk (.call1 _ _ _ _ rfl Ty.hb31 rfl (Contains_spec f dead d.code (by omega)) rfl rfl) ?_
  simp (disch := first | omega | (simp <;> omega) | fail) [wrap_i64, wrap_u64, wrap_u8']
  refine HT.ret ?_
  simp (disch := first | omega | (simp <;> omega) | fail) [wrap_i64, wrap_u64, wrap_u8', aliveB]
theorem UnionC1_spec (p : Post) : Spec1 Tryz.prog 51 [.agg p.enc] (i64 p.code) := by
  refine Spec1.of_HT Tryz.func51 rfl (by rw [Tryz.ntmps51]; simp) rfl ?_
  rw [Tryz.ntmps51]
  refine HT.seq ?_
  refine HT.region ?_   -- R0
  simp (disch := first | omega | (simp <;> omega) | fail) [wrap_i64, wrap_u64, wrap_u8']
  refine HT.seq ?_
  refine HT.region ?_   -- R1
  simp (disch := first | omega | (simp <;> omega) | fail) [wrap_i64, wrap_u64, wrap_u8']
  refine HT.ret ?_
  simp (disch := first | omega | (simp <;> omega) | fail) [wrap_i64, wrap_u64, wrap_u8']
theorem UnionC21_spec (p : Gram) : Spec1 Tryz.prog 54 [.agg p.enc] (i64 p.code) := by
  refine Spec1.of_HT Tryz.func54 rfl (by rw [Tryz.ntmps54]; simp) rfl ?_
  rw [Tryz.ntmps54]
  refine HT.seq ?_
  refine HT.region ?_   -- R0
  simp (disch := first | omega | (simp <;> omega) | fail) [wrap_i64, wrap_u64, wrap_u8']
  refine HT.seq ?_
  refine HT.region ?_   -- R1
  simp (disch := first | omega | (simp <;> omega) | fail) [wrap_i64, wrap_u64, wrap_u8']
  refine HT.ret ?_
  simp (disch := first | omega | (simp <;> omega) | fail) [wrap_i64, wrap_u64, wrap_u8']
theorem UnionC22_spec (p q : Gram) : Spec1 Tryz.prog 55 [.agg p.enc, .agg q.enc] (.agg p.enc) := by
  refine Spec1.of_HT Tryz.func55 rfl (by rw [Tryz.ntmps55]; simp) rfl ?_
  rw [Tryz.ntmps55]
  refine HT.seq ?_
  refine HT.region ?_   -- R0
  simp (disch := first | omega | (simp <;> omega) | fail) [wrap_i64, wrap_u64, wrap_u8']
  refine HT.seq ?_
  refine HT.region ?_   -- R1
  simp (disch := first | omega | (simp <;> omega) | fail) [wrap_i64, wrap_u64, wrap_u8']
  refine HT.ret ?_
  simp (disch := first | omega | (simp <;> omega) | fail) [wrap_i64, wrap_u64, wrap_u8']
end Go.Hv
