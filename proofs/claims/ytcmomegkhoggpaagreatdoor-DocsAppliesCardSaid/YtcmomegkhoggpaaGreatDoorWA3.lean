import Derived.Test.YtcmomegkhoggpaaGreatDoorWA2
import Derived.Lib.RowBridge
set_option linter.unusedVariables false
set_option linter.unusedSimpArgs false
/- Library functions over slices of strings: sorted, without neighbours that are equal (layer 28). -/
namespace Go.Hv
open Go Go.Hv Go.Proofs Go.RowKit
open Go.Sort (putRow putCells Holds grow mapBlock onCells)
open Go.Proofs.YtcmomegkhoggpaaGreatDoor
def srtS (l : List (List UInt8)) : List (List UInt8) := l.mergeSort fun x y => decide (x ≤ y)
theorem isStr_at {l : List (List UInt8)} {i j : Nat} {x : List HV} {c : HV} (hx : (strsHV l)[i]? = some x) (hc : x[j]? = some c) : j = 0 ∧ ∃ a, l[i]? = some a ∧ c = .str a := by
 unfold strsHV at hx
 rw [List.getElem?_map] at hx
 cases h : l[i]? with
 | none => rw [h] at hx; cases hx
 | some a =>
  rw [h] at hx
  obtain rfl := (Option.some.inj hx).symm
  match j with
  | 0 => exact ⟨rfl, a, rfl, (Option.some.inj hc).symm⟩
  | j + 1 => simp at hc
theorem irep_str' {w : World} {dead : Nat → Prop} {l : List UInt8} {v : Value} (h : IRep w dead (.str l) v) : v = encStr l := irep_str h
theorem SortS_spec (l : List (List UInt8)) (hlen : l.length < 4611686018427387904) : SpecS Tryz.prog 51 9 1 (strsHV l) [] (strsHV (srtS l)) := by
 have hl2 : (srtS l).length = l.length := List.length_mergeSort _
 refine SpecS.of_cells (by simp [hl2]) (fun x hx => by obtain ⟨p, _, rfl⟩ := List.mem_map.1 hx; rfl) (by simp) (fun w blk cap us V dead hVs hcell hblk hcap hmax hone hdead hrep hus hargs => ?_) (fun A w us dead hus hargs hes => ?_)
 ·have hu : us = #[] := Array.eq_empty_of_size_eq_zero hus
  subst hu
  have hV : V = (l.map encStr).toArray := by
   apply Array.ext_getElem?
   intro i
   rcases Nat.lt_or_ge i l.length with hi | hi
   ·have hg := List.getElem?_eq_getElem hi
    obtain ⟨u, h1, h2⟩ := hrep i 0 [.str l[i]] _ (by simp [strsHV, hg]) rfl
    rw [irep_str' h2] at h1
    simpa [hg] using h1
   ·rw [Array.getElem?_eq_none (by rw [hVs]; simp; omega), Array.getElem?_eq_none (by simp; omega)]
  subst hV
  have hH : Holds encStr w blk 0 l.toArray := by
   intro i hi
   have := hcell i (by simpa using hi)
   have hi' : i < l.length := by simpa using hi
   rw [Nat.zero_add]
   refine ⟨?_, this.2⟩
   rw [this.1]
   simp [List.getElem?_eq_getElem hi', getElem!_pos l i hi']
  have := Tryz.slices_Sort_string blk 0 cap l w hH hblk hlen
  rw [show (strsHV l).length = l.length by simp]
  refine this.mono ?_
  rintro x w' ⟨rfl, n, os, rfl⟩
  refine ⟨rfl, n, os, ((srtS l).map encStr).toArray, by simp [hl2], fun v hv => by simp at hv; obtain ⟨a, _, rfl⟩ := hv; rfl, ?_, fun i j x c hx hc => ?_⟩
  ·rw [putRow_map]; simp [srtS]
  ·obtain ⟨rfl, a, ha, rfl⟩ := isStr_at hx hc
   exact ⟨encStr a, by simp [ha], .str _⟩
 ·have hu : us = #[] := Array.eq_empty_of_size_eq_zero hus
  subst hu
  exact Tryz.slices_Sort_string_none A 0 w
theorem grow_nil (w : World) : Go.Sort.grow w #[] = w := by cases w; simp [Go.Sort.grow]
theorem CompactS_spec (l : List (List UInt8)) (hlen : l.length ≤ 1000000) (hc : (Lib.compact l).length ≤ l.length) : SpecR Tryz.prog 151 9 1 (strsHV l) [] (strsHV (Lib.compact l)) := by
 refine SpecR.of_cells (by simpa using hc) (fun x hx => by obtain ⟨p, _, rfl⟩ := List.mem_map.1 hx; rfl) (by simp) (fun w blk cap us V dead hVs hcell hblk hcap hmax hone hdead hrep hus hargs => ?_) (fun A w us dead hus hargs hes => ?_)
 ·have hu : us = #[] := Array.eq_empty_of_size_eq_zero hus
  subst hu
  have hV : V = (l.map encStr).toArray := by
   apply Array.ext_getElem?
   intro i
   rcases Nat.lt_or_ge i l.length with hi | hi
   ·have hg := List.getElem?_eq_getElem hi
    obtain ⟨u, h1, h2⟩ := hrep i 0 [.str l[i]] _ (by simp [strsHV, hg]) rfl
    rw [irep_str' h2] at h1
    simpa [hg] using h1
   ·rw [Array.getElem?_eq_none (by rw [hVs]; simp; omega), Array.getElem?_eq_none (by simp; omega)]
  subst hV
  have hH : Holds encStr w blk 0 l.toArray := by
   intro i hi
   have := hcell i (by simpa using hi)
   have hi' : i < l.length := by simpa using hi
   rw [Nat.zero_add]
   refine ⟨?_, this.2⟩
   rw [this.1]
   simp [List.getElem?_eq_getElem hi', getElem!_pos l i hi']
  have := Tryz.slices_Compact_string blk 0 cap l w hH (by omega) (by simpa using hcap)
  rw [show (strsHV l).length = l.length by simp, show (strsHV (Lib.compact l)).length = (Lib.compact l).length by simp]
  refine this.mono ?_
  rintro x w' ⟨rfl, n, rfl⟩
  refine ⟨rfl, n, #[], ((Lib.compact l ++ List.replicate (l.length - (Lib.compact l).length) []).map encStr).toArray, by simp; omega, fun v hv => by simp at hv; rcases hv with ⟨a, _, rfl⟩ | ⟨_, rfl⟩ <;> rfl, ?_, fun i j x c hx hc => ?_⟩
  ·rw [putRow_map, grow_nil]; simp
  ·obtain ⟨rfl, a, ha, rfl⟩ := isStr_at hx hc
   have hi := getElem?_lt ha
   exact ⟨encStr a, by simp only [Nat.mul_one, Nat.add_zero, List.getElem?_toArray, List.map_append]; rw [List.getElem?_append_left (by simpa using hi), List.getElem?_map, ha]; rfl, .str _⟩
 ·have hu : us = #[] := Array.eq_empty_of_size_eq_zero hus
  subst hu
  exact Tryz.slices_Compact_string_empty A 0 w
/-! ### What is sorted -/
theorem leS_eq (x y : List UInt8) : decide (x ≤ y) = !ltB y x := by
 show _ = !Op.bytesLess y x
 rw [bytesLess_eq, ← decide_not]
 rfl
theorem srtS_of {l s : List (List UInt8)} (hp : s.Perm l) (hs : s.Pairwise fun a b => ltB a b = true) : srtS l = s := by
 have e : srtS l = l.mergeSort (fun x y => !ltB y x) := by
  unfold srtS
  congr 1
  funext x y
  exact leS_eq x y
 have hsn : s.Nodup := hs.imp fun h => ltB_ne h
 have hpm : (srtS l).Perm s := (by rw [e]; exact List.mergeSort_perm l _ : (srtS l).Perm l).trans hp.symm
 have hle : (srtS l).Pairwise fun a b => (!ltB b a) = true := by
  rw [e]
  refine List.pairwise_mergeSort (fun a b c h1 h2 => ?_) (fun a b => ?_) l
  ·rw [Bool.not_eq_true'] at h1 h2 ⊢
   cases h : ltB c a with
   | false => rfl
   | true =>
    by_cases hab : a = b
    ·subst hab; rw [h] at h2; exact h2
    ·have : ltB a b = true := by
      cases hq : ltB a b with
      | true => rfl
      | false => exact absurd (ltB_tri hq h1) hab
     rw [ltB_trans h this] at h2; exact h2
  ·cases h : ltB b a with
   | false => rfl
   | true => rw [ltB_asymm h]; rfl
 have hnd : (srtS l).Nodup := hpm.symm.nodup hsn
 refine pw_unique (r := fun a b => ltB a b = true) (fun x hx => by rw [ltB_irrefl] at hx; cases hx) (fun h k => ltB_trans h k) ?_ hs fun x => hpm.mem_iff
 refine (hle.and hnd).imp fun {a b} ⟨h1, h2⟩ => ?_
 cases hq : ltB a b with
 | true => rfl
 | false => rw [Bool.not_eq_true'] at h1; exact absurd (ltB_tri hq h1) h2
theorem compact_nodup {s : List (List UInt8)} (h : s.Nodup) : Lib.compact s = s := by
 unfold Lib.compact Lib.compactUpTo
 rw [List.filter_eq_self.2]
 ·apply List.ext_getElem
  ·simp
  ·intro i h1 h2
   simp [getElem!_pos, h2]
 ·intro j hj
  have hj := List.mem_range.1 hj
  cases j with
  | zero => exact Lib.keeps_lt_one _ 0 (by omega)
  | succ j =>
   refine Lib.keeps_pos ?_
   simp only [List.getElem!_toArray, Nat.add_sub_cancel]
   rw [getElem!_pos s (j + 1) hj, getElem!_pos s j (by omega)]
   intro e
   have := (List.getElem_inj h).1 e
   omega
end Go.Hv
set_option linter.unusedVariables false
set_option linter.unusedSimpArgs false
/- Apply of changes to a tree (layer 25). -/
namespace Go.Hv
open Go Go.Hv Go.Proofs Go.RowKit
open Go.Proofs.YtcmomegkhoggpaaGreatDoor
/-! ### Maps of numbers by strings -/
def sents (ks : List (List UInt8)) (f : List UInt8 → Int) : List (HV × HV) := ks.map fun p => (HV.str p, i64 (f p))
theorem tkS : tk Tryz.prog 9 = some .string := by kernel_rfl
theorem keyEqS (a b : List UInt8) : keyEq Tryz.prog 9 (.str a) (.str b) = some (decide (a = b)) := by
 unfold keyEq; rw [tkS]
theorem sents_get (ks : List (List UInt8)) (f : List UInt8 → Int) (j : Nat) : (sents ks f)[j]? = (ks[j]?).map fun p => (HV.str p, i64 (f p)) := by unfold sents; rw [List.getElem?_map]
@[simp] theorem sents_length (ks : List (List UInt8)) (f : List UInt8 → Int) : (sents ks f).length = ks.length := by unfold sents; rw [List.length_map]
theorem find_sentsF (c : List UInt8) (f : List UInt8 → Int) : ∀ (ks : List (List UInt8)) (i : Nat), findHV Tryz.prog 9 (.str c) (sents ks f) i = some (if c ∈ ks then some (i + ks.idxOf c, i64 (f c)) else none)
 | [], i => by simp [sents, findHV]
 | k :: ks, i => by
  have ih := find_sentsF c f ks (i + 1)
  unfold sents at ih ⊢
  rw [List.map_cons, findHV, keyEqS]
  by_cases e : c = k
  ·subst e; simp
  ·simp only [e, decide_false, ih, List.mem_cons, false_or]
   have e2 : (k == c) = false := by simpa using fun x : k = c => e x.symm
   split
   ·rw [List.idxOf_cons, e2]; simp only [cond_false]; rw [show i + 1 + ks.idxOf c = i + (ks.idxOf c + 1) by omega]
   ·rfl
theorem find_sents (ks : List (List UInt8)) (f : List UInt8 → Int) (c : List UInt8) : findHV Tryz.prog 9 (.str c) (sents ks f) 0 = some (if c ∈ ks then some (ks.idxOf c, i64 (f c)) else none) := by
 rw [find_sentsF, Nat.zero_add]
theorem sents_in {ks : List (List UInt8)} {f : List UInt8 → Int} {c : List UInt8} (h : c ∈ ks) : (sents ks f)[ks.idxOf c]? = some (.str c, i64 (f c)) := by
 have hlt := List.idxOf_lt_length_iff.2 h
 rw [sents_get, List.getElem?_eq_getElem hlt, List.getElem_idxOf hlt]; rfl
theorem sents_set {ks : List (List UInt8)} (hn : ks.Nodup) {f : List UInt8 → Int} {c : List UInt8} (h : c ∈ ks) (b : Int) : (sents ks f).set (ks.idxOf c) (.str c, i64 b) = sents ks (updF f c b) := by
 apply List.ext_getElem?
 intro i
 have hlt := List.idxOf_lt_length_iff.2 h
 rw [List.getElem?_set, sents_get, sents_get]
 split
 ·next e =>
  subst e
  rw [if_pos (by simpa using hlt), List.getElem?_eq_getElem hlt, List.getElem_idxOf hlt]
  simp [updF]
 ·next e =>
  rcases Nat.lt_or_ge i ks.length with hi | hi
  ·rw [List.getElem?_eq_getElem hi]
   have : ks[i] ≠ c := fun he => e (by rw [← he]; exact hn.idxOf_getElem i hi)
   simp [updF, this]
  ·rw [List.getElem?_eq_none hi]; rfl
theorem sents_snoc {ks : List (List UInt8)} {f : List UInt8 → Int} {c : List UInt8} (h : c ∉ ks) (b : Int) : sents ks f ++ [(.str c, i64 b)] = sents (ks ++ [c]) (updF f c b) := by
 unfold sents
 rw [List.map_append]
 congr 1
 ·refine List.map_congr_left fun p hp => ?_
  have : p ≠ c := fun e => h (e ▸ hp)
  simp [updF, this]
 ·simp [updF]
theorem sents_del {ks : List (List UInt8)} {f : List UInt8 → Int} {c : List UInt8} : (sents ks f).eraseIdx (ks.idxOf c) = sents (ks.erase c) f := by
 unfold sents
 rw [← map_eraseIdx', List.erase_eq_eraseIdx_of_idxOf rfl]
@[simp] theorem subM_sents (id : Nat) (x y : HV) (ks : List (List UInt8)) (f : List UInt8 → Int) : subM id x y (sents ks f) = sents ks f := by
 unfold subM sents
 rw [List.map_map]
 exact List.map_congr_left fun k _ => by simp [HV.sub]
@[simp] theorem isIM_sents (ks : List (List UInt8)) (f : List UInt8 → Int) : isIM (sents ks f) = true := by
 unfold isIM sents
 rw [List.all_map, List.all_eq_true]
 intro x _; rfl
def blobOf (l : List File) (p : List UInt8) : Int := ((l.find? fun f => decide (f.path = p)).map File.blob).getD 0
theorem sorted_path {l : List File} (h : SortedF l) {x y : File} (hx : x ∈ l) (hy : y ∈ l) (e : x.path = y.path) : x = y := by
 obtain ⟨i, hi, rfl⟩ := List.mem_iff_getElem.1 hx
 obtain ⟨j, hj, rfl⟩ := List.mem_iff_getElem.1 hy
 have h1 : (l.map File.path)[i]'(by simpa using hi) = (l.map File.path)[j]'(by simpa using hj) := by simpa using e
 have := (List.getElem_inj (sortedF_nodup h)).1 h1
 subst this; rfl
theorem blobOf_mem {l : List File} (h : SortedF l) {x : File} (hx : x ∈ l) : blobOf l x.path = x.blob := by
 unfold blobOf
 cases hf : l.find? (fun f => decide (f.path = x.path)) with
 | none => have := List.find?_eq_none.1 hf x hx; simp at this
 | some y =>
  have h1 := List.mem_of_find?_eq_some hf
  have h2 : y.path = x.path := by have := List.find?_some hf; simpa using this
  rw [sorted_path h h1 hx h2]; rfl
theorem mapOf_right {l : List File} (h : rightT l = 0) : MapOf (l.map File.path) (blobOf l) l where
 sorted := (rightT_sorted h).1
 nodup := sortedF_nodup (rightT_sorted h).1
 keys := fun p => by rw [List.mem_map]
 vals := fun x hx => blobOf_mem (rightT_sorted h).1 hx
 nz := fun x hx => by have := ((rightT_sorted h).2.2 x hx).2.1; omega
theorem take_notin {l : List File} (h : SortedF l) {k : Nat} (hk : k < l.length) : l[k].path ∉ (l.map File.path).take k := fun hm => by
 obtain ⟨i, hi, e⟩ := List.mem_iff_getElem.1 hm
 rw [List.length_take, List.length_map] at hi
 rw [List.getElem_take, List.getElem_map] at e
 have := List.pairwise_iff_getElem.1 h i k (by omega) hk (by omega)
 exact ltB_ne this e
theorem contents_step {l : List File} (h : SortedF l) {k : Nat} (hk : k < l.length) : sents ((l.map File.path).take k) (blobOf l) ++ [(HV.str l[k].path, i64 l[k].blob)] = sents ((l.map File.path).take (k + 1)) (blobOf l) := by
 rw [List.take_succ_eq_append_getElem (by simpa using hk), List.getElem_map, ← blobOf_mem h (List.getElem_mem hk)]
 unfold sents
 rw [List.map_append]; rfl
set_option maxRecDepth 20000 in
theorem contents_spec (l : List File) (hl : SortedF l) (hn : l.length ≤ 1000000) : SpecM Tryz.prog 120 [.sl 2 false (filesHV l)] (sents (l.map File.path) (blobOf l)) := by
 refine SpecM.of_HT Tryz.func120 rfl (by rw [Tryz.ntmps120]; simp) rfl ?_
 rw [Tryz.ntmps120]
 refine HT.seq ?_;refine HT.region ?_;simp (disch := first|omega|(simp<;>omega)|fail) [wr3]
 refine HT.seq ?_;refine HT.region ?_;simp (disch := first|omega|(simp<;>omega)|fail) [wr3]
 refine HT.seq ?_;refine HT.seq ?_;refine HT.region ?_;simp (disch := first|omega|(simp<;>omega)|fail) [wr3]
 refine HT.block ?_;refine HT.loopK (fun k : {k : Nat // k ≤ l.length} => [.s 9 (i64 k), .o 6 (.map (sents ((l.map File.path).take k) (blobOf l)))]) [3, 7, 8] [] (fun k => l.length - k) (⟨0, by omega⟩) ?_ ?_
 ·simp (disch := first|omega|(simp<;>omega)|fail) [wr3, sents]
 rintro ⟨k, hk⟩
 simp (disch := first|omega|(simp<;>omega)|fail) [wr3]
 refine HT.seq ?_;refine HT.region ?_;simp (disch := first|omega|(simp<;>omega)|fail) [wr3]
 refine HT.seq ?_;refine HT.cond' ?_;simp (disch := first|omega|(simp<;>omega)|fail) [wr3]
 refine ⟨fun h10 => ?_, fun h10 => ?_⟩
 ·have hk' : k < l.length := by omega
  have hf1 : findHV Tryz.prog 9 (.str l[k].path) (sents ((l.map File.path).take k) (blobOf l)) 0 = some none := by rw [find_sents, if_neg (take_notin hl hk')]
  refine HT.skip ?_;simp (disch := first|omega|(simp<;>omega)|fail) [wr3]
  refine HT.seq ?_;refine HT.block ?_;refine HT.seq ?_;refine HT.region ?_;simp (disch := first|omega|(simp<;>omega)|fail) [wr3]
  refine HT.region ?_;simp (disch := first|omega|(simp<;>omega)|fail) [wr3, hf1, tkS]
  refine HT.region ?_;simp (disch := first|omega|(simp<;>omega)|fail) [wr3]
  refine Round.mk' (⟨k + 1, by omega⟩) (by dsimp only; omega) rfl ?_
  simp (disch := first|omega|(simp<;>omega)|fail) [wr3, contents_step hl hk']
 ·obtain rfl : k = l.length := by omega
  have he : (l.map File.path).take l.length = l.map File.path := List.take_of_length_le (by simp)
  refine HT.exit ?_
  simp (disch := first|omega|(simp<;>omega)|fail) [wr3]
  refine HT.seq ?_;refine HT.region ?_;simp (disch := first|omega|(simp<;>omega)|fail) [wr3]
  refine HT.ret ?_;simp (disch := first|omega|(simp<;>omega)|fail) [wr3, he]
theorem one_len (c : Prop) [Decidable c] (x : File) : (if c then [] else [x]).length ≤ 1 := by split <;> simp
theorem setR_len (p : List UInt8) (b : Int) : ∀ (l : List File) (inn : Bool), (setR p b inn l).length ≤ l.length + 1
 | [], inn => by cases inn <;> simp [setR]
 | x :: r, true => by rw [setR_true]; exact Nat.le_succ_of_le (List.length_filter_le _ _)
 | x :: r, false => by
  have h3 := one_len (x.path = p) x
  unfold setR
  cases hx : ltB x.path p with
  | true =>
   have := setR_len p b r false
   show (([] ++ (if x.path = p then [] else [x])) ++ setR p b false r).length ≤ _
   rw [List.nil_append, List.length_append, List.length_cons]; omega
  | false =>
   have h2 : (setR p b true r).length ≤ r.length := by rw [setR_true]; exact List.length_filter_le _ _
   show ((([⟨p, b⟩] : List File) ++ (if x.path = p then [] else [x])) ++ setR p b true r).length ≤ _
   rw [List.length_append, List.length_append, List.length_singleton, List.length_cons]; omega
theorem setV_len (l : List File) (p : List UInt8) (b : Int) : (setV l p b).length ≤ l.length + 1 := setR_len p b l _
theorem runT_cons_some {r r1 : List File} {c : List File} {k : Nat} (hk : k < c.length) (e : stepT r c[k] = some r1) : runT r (c.drop k) = runT r1 (c.drop (k + 1)) := by
 rw [List.drop_eq_getElem_cons hk, runT, e]
theorem runT_cons_none {r : List File} {c : List File} {k : Nat} (hk : k < c.length) (e : stepT r c[k] = none) : runT r (c.drop k) = none := by
 rw [List.drop_eq_getElem_cons hk, runT, e]
theorem apply_bad {l c : List File} (h : ¬ rightT l = 0) : applyT l c = ([], rightT l) := by unfold applyT; rw [if_pos h]
theorem apply_long {l c : List File} (h : rightT l = 0) (h2 : c.length > 16) : applyT l c = ([], 4) := by unfold applyT; rw [if_neg (by simpa using h), if_pos h2]
theorem apply_none {l c : List File} (h : rightT l = 0) (h2 : ¬ c.length > 16) (h3 : runT l c = none) : applyT l c = ([], 8) := by unfold applyT; rw [if_neg (by simpa using h), if_neg h2, h3]
theorem apply_some {l c r : List File} (h : rightT l = 0) (h2 : ¬ c.length > 16) (h3 : runT l c = some r) : applyT l c = if rightT r ≠ 0 then ([], rightT r) else (r, 0) := by unfold applyT; rw [if_neg (by simpa using h), if_neg h2, h3]
end Go.Hv
set_option linter.unusedVariables false
namespace Go.Hv
theorem filter_ne_perm {l : List Nat} (hn : l.Nodup) {i : Nat} (hi : i ∈ l) : (i :: l.filter (· != i)).Perm l := by
 have : l.filter (· != i) = l.erase i := by
  rw [List.Nodup.erase_eq_filter hn]
 rw [this]
 exact (List.perm_cons_erase hi).symm
theorem perm_step {d l : List Nat} {n i : Nat} (h : (d ++ l).Perm (List.range n)) (hi : i ∈ l) : ((d ++ [i]) ++ l.filter (· != i)).Perm (List.range n) ∧ (l.filter (· != i)).length < l.length := by
 have hn : l.Nodup := by
  have := (h.nodup_iff).2 List.nodup_range
  exact (List.nodup_append.1 this).2.1
 have hp := filter_ne_perm hn hi
 constructor
 ·rw [List.append_assoc]
  exact (List.Perm.append_left d hp).trans h
 ·have := hp.length_eq
  simp at this; omega
theorem map_getD_range {α : Type} (l : List α) (d : α) : (List.range l.length).map (fun i => l.getD i d) = l := by
 apply List.ext_getElem?
 intro i
 rw [List.getElem?_map]
 rcases Nat.lt_or_ge i l.length with h | h
 ·rw [List.getElem?_range h]; simp [List.getElem?_eq_getElem h]
 ·rw [List.getElem?_eq_none (by simpa using h), List.getElem?_eq_none h]; rfl
theorem perm_taken {α : Type} {l : List α} {d : List Nat} (x : α) (h : (d ++ []).Perm (List.range l.length)) : (d.map (fun i => l.getD i x)).Perm l := by
 rw [List.append_nil] at h
 have := h.map (fun i => l.getD i x)
 rwa [map_getD_range] at this
end Go.Hv
set_option linter.unusedVariables false
set_option linter.unusedSimpArgs false
/- Apply of the program (layer 25). -/
namespace Go.Hv
open Go Go.Hv Go.Proofs Go.RowKit
open Go.Proofs.YtcmomegkhoggpaaGreatDoor
def takenS (ks : List (List UInt8)) (dn : List Nat) : List (List UInt8) := dn.map fun i => ks.getD i []
theorem takenS_snoc {ks : List (List UInt8)} {dn : List Nat} {i : Nat} (hi : i < ks.length) : takenS ks dn ++ [ks[i]] = takenS ks (dn ++ [i]) := by
 simp [takenS, List.getD_eq_getElem?_getD, List.getElem?_eq_getElem hi]
@[simp] theorem takenS_length (ks : List (List UInt8)) (dn : List Nat) : (takenS ks dn).length = dn.length := by simp [takenS]
theorem sorted_all {ks s out : List (List UInt8)} (hp : s.Perm ks) (hs : s.Pairwise fun a b => ltB a b = true) (ho : out.Perm ks) : srtS out = s ∧ Lib.compact (srtS out) = s := by
 have h := srtS_of (l := out) (hp.trans ho.symm) hs
 refine ⟨h, ?_⟩
 rw [h]; exact compact_nodup (hs.imp fun h => ltB_ne h)
set_option maxRecDepth 20000 in
set_option maxHeartbeats 2000000 in
theorem paths_spec (ks : List (List UInt8)) (f : List UInt8 → Int) (s : List (List UInt8)) (hp : s.Perm ks) (hs : s.Pairwise fun a b => ltB a b = true) (hn : ks.length ≤ 100000) : Spec1 Tryz.prog 140 [.sl 1 true [[.mp (sents ks f)]]] (.sl 1 false (strsHV s)) := by
 refine Spec1.of_HT Tryz.func140 rfl (by rw [Tryz.ntmps140]; simp) rfl ?_
 rw [Tryz.ntmps140]
 refine HT.seq ?_;refine HT.region ?_;simp (disch := first|omega|(simp<;>omega)|fail) [wr3]
 refine HT.seq ?_;refine HT.region ?_;simp (disch := first|omega|(simp<;>omega)|fail) [wr3]
 refine HT.weaken (HS.le_own (t := 3) 200 9 1 _ (by decide) rfl (by decide)) ?_
 refine HT.seq ?_;refine HT.seq ?_;refine HT.region ?_;simp (disch := first|omega|(simp<;>omega)|fail) [wr3]
 refine HT.block ?_;refine HT.loopK (fun k : {k : Nat × List (List UInt8) // (k.1 = 0 ∧ k.2 = []) ∨ (k.1 = 1 ∧ k.2.Perm ks)} => [.s 9 (i64 k.1.1), .s 3 (.ref 200), .o 200 (.row 9 1 (strsHV k.1.2))]) [7, 8] [] (fun k => 1 - k.1.1) (⟨⟨0, []⟩, .inl ⟨rfl, rfl⟩⟩) ?_ ?_
 ·simp (disch := first|omega|(simp<;>omega)|fail) [wr3]
 rintro ⟨⟨k, out⟩, hk⟩
 simp (disch := first|omega|(simp<;>omega)|fail) [wr3]
 refine HT.seq ?_;refine HT.region ?_;simp (disch := first|omega|(simp<;>omega)|fail) [wr3]
 refine HT.seq ?_;refine HT.cond' ?_;simp (disch := first|omega|(simp<;>omega)|fail) [wr3]
 refine ⟨fun h10 => ?_, fun h10 => ?_⟩
 ·obtain ⟨rfl, rfl⟩ : k = 0 ∧ out = [] := by rcases hk with h | h; exact h; dsimp only at h; omega
  refine HT.skip ?_;simp (disch := first|omega|(simp<;>omega)|fail) [wr3]
  refine HT.seq ?_;refine HT.block ?_;refine HT.seq ?_;refine HT.region ?_;simp (disch := first|omega|(simp<;>omega)|fail) [wr3]
  refine HT.seq ?_;refine HT.region ?_;simp (disch := first|omega|(simp<;>omega)|fail) [wr3]
  refine HT.block ?_;refine HT.loopK (fun k : {k : List Nat × List Nat × Option (HV × HV) // (k.1 ++ k.2.1).Perm (List.range ks.length)} => [.s 3 (.ref 200), .o 200 (.row 9 1 (strsHV (takenS ks k.1.1))), .o 14 (.iter (sents ks f) k.1.2.1 k.1.2.2)]) [7, 8, 9, 14] [] (fun k => k.1.2.1.length) (⟨⟨[], List.range ks.length, none⟩, by simp⟩) ?_ ?_
  ·simp (disch := first|omega|(simp<;>omega)|fail) [wr3, takenS]
  rintro ⟨⟨dn, lf, la⟩, hp2⟩
  simp (disch := first|omega|(simp<;>omega)|fail) [wr3]
  refine HT.seq ?_;refine HT.region ?_;simp (disch := first|omega|(simp<;>omega)|fail) [wr3]
  refine ⟨fun hnil => ?_, fun i kk vv hi hkv => ?_⟩
  ·obtain rfl := hnil
   have hpt : (takenS ks dn).Perm ks := perm_taken [] hp2
   refine HT.seq ?_;refine HT.cond' ?_;simp (disch := first|omega|(simp<;>omega)|fail) [wr3]
   refine HT.exit ?_
   simp (disch := first|omega|(simp<;>omega)|fail) [wr3]
   refine HT.region ?_;simp (disch := first|omega|(simp<;>omega)|fail) [wr3]
   refine Round.mk' (⟨⟨1, takenS ks dn⟩, .inr ⟨rfl, hpt⟩⟩) (by dsimp only; omega) rfl ?_
   simp (disch := first|omega|(simp<;>omega)|fail) [wr3]
  ·have hst := perm_step hp2 hi
   have hil : (dn ++ lf).length = _ := hp2.length_eq
   have hil2 : i < ks.length := by have := (hp2.mem_iff (a := i)).1 (List.mem_append_right _ hi); simpa using this
   rw [sents_get, List.getElem?_eq_getElem hil2] at hkv
   simp only [Option.map_some, Option.some.injEq, Prod.mk.injEq] at hkv
   obtain ⟨rfl, rfl⟩ := hkv
   have hb : dn.length + lf.length = ks.length := by simpa using hil
   refine HT.seq ?_;refine HT.cond' ?_;simp (disch := first|omega|(simp<;>omega)|fail) [wr3]
   refine HT.skip ?_;simp (disch := first|omega|(simp<;>omega)|fail) [wr3]
   refine HT.block ?_;refine HT.seq ?_;refine HT.region ?_;simp (disch := first|omega|(simp<;>omega)|fail) [wr3]
   refine HT.region ?_;simp (disch := first|omega|(simp<;>omega)|fail) [wr3]
   refine Round.mk' (⟨⟨dn ++ [i], lf.filter (· != i), some (HV.str ks[i], i64 (f ks[i]))⟩, hst.1⟩) hst.2 rfl ?_
   simp (disch := first|omega|(simp<;>omega)|fail) [wr3, hil2, takenS_snoc hil2]
 ·obtain ⟨hk1, ho⟩ : k = 1 ∧ out.Perm ks := by rcases hk with h | h; dsimp only at h; omega; exact h
  have hol : out.length = ks.length := ho.length_eq
  obtain ⟨e1, e2⟩ := sorted_all hp hs ho
  have hsl : s.length = ks.length := hp.length_eq
  refine HT.exit ?_
  simp (disch := first|omega|(simp<;>omega)|fail) [wr3]
  refine HT.seq ?_;refine HT.region ?_;simp (disch := first|omega|(simp<;>omega)|fail) [wr3]
  refine stepK.mk (.callS _ _ _ _ _ _ _ rfl Ty.hb51 (by first | rfl | simp) (by simp) (by first | rfl | simp) (SortS_spec out (by omega)) rfl) ?_
  simp (disch := first|omega|(simp<;>omega)|fail) [wr3]
  refine HT.seq ?_;refine HT.region ?_;simp (disch := first|omega|(simp<;>omega)|fail) [wr3]
  refine stepK.mk (.callR _ _ _ _ _ _ _ rfl Ty.hb151 (by first | rfl | simp) (by simp) (by first | rfl | simp) (CompactS_spec (srtS out) (by rw [e1]; omega) (by rw [e2, e1]; exact Nat.le_refl _)) rfl) ?_
  simp (disch := first|omega|(simp<;>omega)|fail) [wr3]
  refine HT.ret ?_;simp (disch := first|omega|(simp<;>omega)|fail) [wr3, e2]
theorem find_file {ks : List (List UInt8)} {f : List UInt8 → Int} {r : List File} (h : MapOf ks f r) {k : Nat} (hk : k < r.length) : findHV Tryz.prog 9 (.str r[k].path) (sents ks f) 0 = some (some (ks.idxOf r[k].path, i64 r[k].blob)) := by
 rw [find_sents, if_pos ((h.keys _).2 ⟨_, List.getElem_mem hk, rfl⟩), h.vals _ (List.getElem_mem hk)]
theorem files_step {r : List File} {k : Nat} (hk : k < r.length) : r.take k ++ [r[k]] = r.take (k + 1) := (List.take_succ_eq_append_getElem hk).symm
theorem mapOf_len {ks : List (List UInt8)} {f : List UInt8 → Int} {r : List File} (h : MapOf ks f r) : (r.map File.path).Perm ks :=
 (List.perm_ext_iff_of_nodup (sortedF_nodup h.sorted) h.nodup).2 fun p => by rw [h.keys, List.mem_map]
theorem mapOf_inc {ks : List (List UInt8)} {f : List UInt8 → Int} {r : List File} (h : MapOf ks f r) : (r.map File.path).Pairwise fun a b => ltB a b = true := by
 rw [List.pairwise_map]; exact h.sorted
set_option maxRecDepth 20000 in
set_option maxHeartbeats 2000000 in
theorem files_spec (ks : List (List UInt8)) (f : List UInt8 → Int) (r : List File) (h : MapOf ks f r) (hn : r.length ≤ 100000) : Spec1 Tryz.prog 121 [.mp (sents ks f)] (.sl 2 false (filesHV r)) := by
 have hpl : r.length = ks.length := by have := (mapOf_len h).length_eq; simpa using this
 refine Spec1.of_HT Tryz.func121 rfl (by rw [Tryz.ntmps121]; simp) rfl ?_
 rw [Tryz.ntmps121]
 refine HT.seq ?_;refine HT.region ?_;simp (disch := first|omega|(simp<;>omega)|fail) [wr3]
 refine HT.seq ?_;refine HT.region ?_;simp (disch := first|omega|(simp<;>omega)|fail) [wr3]
 refine HT.weaken (HS.le_own (t := 3) 200 88 2 _ (by decide) rfl (by decide)) ?_
 refine HT.seq ?_;refine HT.seq ?_;refine HT.region ?_;simp (disch := first|omega|(simp<;>omega)|fail) [wr3]
 refine stepK.mk (.call1f _ _ _ _ _ rfl Ty.hb140 rfl rfl (paths_spec ks f (r.map File.path) (mapOf_len h) (mapOf_inc h) (by omega)) rfl) ?_
 simp (disch := first|omega|(simp<;>omega)|fail) [wr3]
 refine HT.block ?_;refine HT.loopK (fun k : {k : Nat // k ≤ r.length} => [.s 10 (i64 k), .s 3 (.ref 200), .o 200 (.row 88 2 (filesHV (r.take k)))]) [0, 8, 9] [] (fun k => r.length - k) (⟨0, by omega⟩) ?_ ?_
 ·simp (disch := first|omega|(simp<;>omega)|fail) [wr3]
 rintro ⟨k, hk⟩
 simp (disch := first|omega|(simp<;>omega)|fail) [wr3]
 refine HT.seq ?_;refine HT.region ?_;simp (disch := first|omega|(simp<;>omega)|fail) [wr3]
 refine HT.seq ?_;refine HT.cond' ?_;simp (disch := first|omega|(simp<;>omega)|fail) [wr3]
 refine ⟨fun h11 => ?_, fun h11 => ?_⟩
 ·have hk' : k < r.length := by omega
  have hf1 := find_file h hk'
  have hnz := h.nz _ (List.getElem_mem hk')
  have htl : (r.take k).length = k := by rw [List.length_take]; omega
  refine HT.skip ?_;simp (disch := first|omega|(simp<;>omega)|fail) [wr3]
  refine HT.seq ?_;refine HT.block ?_;refine HT.seq ?_;refine HT.region ?_;simp (disch := first|omega|(simp<;>omega)|fail) [wr3]
  refine HT.seq ?_;refine HT.region ?_;simp (disch := first|omega|(simp<;>omega)|fail) [wr3, hf1, tkS]
  refine HT.cond' ?_;simp (disch := first|omega|(simp<;>omega)|fail) [wr3]
  refine HT.region ?_;simp (disch := first|omega|(simp<;>omega)|fail) [wr3, hf1, tkS]
  refine HT.region ?_;simp (disch := first|omega|(simp<;>omega)|fail) [wr3]
  refine Round.mk' (⟨k + 1, by omega⟩) (by dsimp only; omega) rfl ?_
  simp (disch := first|omega|(simp<;>omega)|fail) [wr3]
  try rw [← files_step hk']
  try simp (disch := first|omega|(simp<;>omega)|fail) [wr3, filesHV_append]
 ·obtain rfl : k = r.length := by omega
  refine HT.exit ?_
  simp (disch := first|omega|(simp<;>omega)|fail) [wr3]
  refine HT.seq ?_;refine HT.region ?_;simp (disch := first|omega|(simp<;>omega)|fail) [wr3]
  refine HT.ret ?_;simp (disch := first|omega|(simp<;>omega)|fail) [wr3]
theorem stepT_put {r : List File} {c : File} (h : ¬ c.blob = 0) : stepT r c = some (setV r c.path c.blob) := by unfold stepT; rw [if_neg (fun e => h e.1)]
theorem stepT_del {r : List File} {c : File} {ks : List (List UInt8)} {f : List UInt8 → Int} (hm : MapOf ks f r) (h : c.blob = 0) (hk : c.path ∈ ks) : stepT r c = some (setV r c.path 0) := by
 unfold stepT; rw [if_neg, h]
 rintro ⟨_, e⟩
 rw [hm.there, decide_eq_true hk] at e; cases e
theorem stepT_none {r : List File} {c : File} {ks : List (List UInt8)} {f : List UInt8 → Int} (hm : MapOf ks f r) (h : c.blob = 0) (hk : c.path ∉ ks) : stepT r c = none := by
 unfold stepT; rw [if_pos]
 exact ⟨h, by rw [hm.there, decide_eq_false hk]⟩
structure ApS (l c : List File) (k : Nat × List (List UInt8) × (List UInt8 → Int) × List File) : Prop where
 le : k.1 ≤ c.length
 run : runT l c = runT k.2.2.2 (c.drop k.1)
 map : MapOf k.2.1 k.2.2.1 k.2.2.2
 len : k.2.2.2.length ≤ l.length + k.1
theorem ApS.put {l c : List File} {k : Nat} {ks : List (List UInt8)} {f : List UInt8 → Int} {r : List File} (h : ApS l c (k, ks, f, r)) (hk : k < c.length) (hb : ¬ c[k].blob = 0) :
  ApS l c (k + 1, if c[k].path ∈ ks then ks else ks ++ [c[k].path], updF f c[k].path c[k].blob, setV r c[k].path c[k].blob) where
 le := hk
 run := h.run.trans (runT_cons_some hk (stepT_put hb))
 map := h.map.put _ hb
 len := by have := h.len; have h2 := setV_len r c[k].path c[k].blob; dsimp only at this ⊢; omega
theorem ApS.del {l c : List File} {k : Nat} {ks : List (List UInt8)} {f : List UInt8 → Int} {r : List File} (h : ApS l c (k, ks, f, r)) (hk : k < c.length) (hb : c[k].blob = 0) (hm : c[k].path ∈ ks) :
  ApS l c (k + 1, ks.erase c[k].path, f, setV r c[k].path 0) where
 le := hk
 run := h.run.trans (runT_cons_some hk (stepT_del h.map hb hm))
 map := h.map.del _
 len := by have := h.len; have h2 := setV_len r c[k].path 0; dsimp only at this ⊢; omega
set_option maxRecDepth 20000 in
set_option maxHeartbeats 2000000 in
theorem TApply_spec (l c : List File) (hl : FileB 1000 l) (hc : FileQ c) (hfin : ∀ r, runT l c = some r → FileB 1000 r) : SpecT Tryz.prog 81 [.sl 2 false (filesHV l), .sl 2 false (filesHV c)] [.sl 2 false (filesHV (applyT l c).1), i64 (applyT l c).2] := by
 have hl1 := hl.1
 have hc1 := hc.1
 refine SpecT.of_HT Tryz.func81 rfl (by rw [Tryz.ntmps81]; simp) (rs := [.tmp 4, .tmp 5]) rfl (by decide) ?_
 rw [Tryz.ntmps81]
 refine HT.seq ?_;refine HT.region ?_;simp (disch := first|omega|(simp<;>omega)|fail) [wr3]
 refine HT.seq ?_;refine HT.seq ?_;refine HT.region ?_;simp (disch := first|omega|(simp<;>omega)|fail) [wr3]
 refine stepK.mk (.call1 _ _ _ _ rfl Ty.hb119 rfl (TRight_spec l ⟨by omega, fun f hf => Nat.le_trans (hl.2 f hf) (by decide)⟩) rfl rfl) ?_
 simp (disch := first|omega|(simp<;>omega)|fail) [wr3]
 refine HT.seq ?_;refine HT.region ?_;simp (disch := first|omega|(simp<;>omega)|fail) [wr3]
 refine HT.cond' ?_;simp (disch := first|omega|(simp<;>omega)|fail) [wr3]
 refine ⟨fun h17 => ?_, fun h17 => ?_⟩
 ·refine HT.seq ?_;refine HT.region ?_;simp (disch := first|omega|(simp<;>omega)|fail) [wr3]
  refine HT.weaken (HS.le_wk 4 (.sl 2 false []) (by decide) rfl rfl (HLe.nilf 0 2 true)) ?_
  refine HT.ret ?_;simp (disch := first|omega|(simp<;>omega)|fail) [wr3, apply_bad h17]
 ·have hr0 : rightT l = 0 := by simpa using h17
  refine HT.skip ?_;simp (disch := first|omega|(simp<;>omega)|fail) [wr3]
  refine HT.seq ?_;refine HT.seq ?_;refine HT.region ?_;simp (disch := first|omega|(simp<;>omega)|fail) [wr3]
  refine HT.cond' ?_;simp (disch := first|omega|(simp<;>omega)|fail) [wr3]
  refine ⟨fun h21 => ?_, fun h21 => ?_⟩
  ·have hx := apply_long (l := l) (c := c) hr0 (by omega)
   refine HT.seq ?_;refine HT.region ?_;simp (disch := first|omega|(simp<;>omega)|fail) [wr3]
   refine HT.weaken (HS.le_wk 4 (.sl 2 false []) (by decide) rfl rfl (HLe.nilf 0 2 true)) ?_
   refine HT.ret ?_;simp (disch := first|omega|(simp<;>omega)|fail) [wr3, hx]
  ·refine HT.skip ?_;simp (disch := first|omega|(simp<;>omega)|fail) [wr3]
   refine HT.seq ?_;refine HT.region ?_;simp (disch := first|omega|(simp<;>omega)|fail) [wr3]
   refine stepK.mk (.callM _ _ _ _ _ _ rfl Ty.hb120 rfl (by simp) (contents_spec l (rightT_sorted hr0).1 (by omega)) rfl rfl) ?_
   simp (disch := first|omega|(simp<;>omega)|fail) [wr3]
   refine HT.seq ?_;refine HT.seq ?_;refine HT.region ?_;simp (disch := first|omega|(simp<;>omega)|fail) [wr3]
   refine HT.block ?_;refine HT.loopK (fun k : {k : Nat × List (List UInt8) × (List UInt8 → Int) × List File // ApS l c k} => [.s 26 (i64 k.1.1), .s 7 (.mref 23), .o 23 (.map (sents k.1.2.1 k.1.2.2.1))]) [24, 25] [] (fun k => c.length - k.1.1) (⟨⟨0, l.map File.path, blobOf l, l⟩, ⟨Nat.zero_le _, rfl, mapOf_right hr0, Nat.le_refl _⟩⟩) ?_ ?_
   ·simp (disch := first|omega|(simp<;>omega)|fail) [wr3]
   rintro ⟨⟨k, ks, f, r⟩, hk⟩
   simp (disch := first|omega|(simp<;>omega)|fail) [wr3]
   refine HT.seq ?_;refine HT.region ?_;simp (disch := first|omega|(simp<;>omega)|fail) [wr3]
   refine HT.seq ?_;refine HT.cond' ?_;simp (disch := first|omega|(simp<;>omega)|fail) [wr3]
   refine ⟨fun h27 => ?_, fun h27 => ?_⟩
   ·have hkl := hk.le
    dsimp only at hkl
    have hk' : k < c.length := by omega
    refine HT.skip ?_;simp (disch := first|omega|(simp<;>omega)|fail) [wr3]
    refine HT.seq ?_;refine HT.block ?_;refine HT.seq ?_;refine HT.region ?_;simp (disch := first|omega|(simp<;>omega)|fail) [wr3]
    refine HT.seq ?_;refine HT.seq ?_;refine HT.region ?_;simp (disch := first|omega|(simp<;>omega)|fail) [wr3]
    refine HT.cond' ?_;simp (disch := first|omega|(simp<;>omega)|fail) [wr3]
    refine ⟨fun h32 => ?_, fun h32 => ?_⟩
    ·have tp : ¬ c[k].blob = 0 := h32
     refine HT.seq ?_
     by_cases cf : c[k].path ∈ ks
     ·have hf1 : findHV Tryz.prog 9 (.str c[k].path) (sents ks f) 0 = some (some (ks.idxOf c[k].path, i64 (f c[k].path))) := by rw [find_sents, if_pos cf]
      have hs1 := sents_set (f := f) hk.map.nodup cf c[k].blob
      have hg1 := sents_in (f := f) cf
      refine HT.region ?_;simp (disch := first|omega|(simp<;>omega)|fail) [wr3, hf1, hs1, hg1, tkS]
      refine HT.exit ?_
      simp (disch := first|omega|(simp<;>omega)|fail) [wr3]
      refine HT.region ?_;simp (disch := first|omega|(simp<;>omega)|fail) [wr3]
      first | (have _t := tp; refine Round.mk' (⟨_, hk.put hk' tp⟩) (by dsimp only; omega) rfl ?_) | (have _t := td; refine Round.mk' (⟨_, hk.del hk' td cf⟩) (by dsimp only; omega) rfl ?_)
      simp (disch := first|omega|(simp<;>omega)|fail) [wr3, cf]
     have hf1 : findHV Tryz.prog 9 (.str c[k].path) (sents ks f) 0 = some none := by rw [find_sents, if_neg cf]
     have hs1 := sents_snoc (f := f) cf c[k].blob
     refine HT.region ?_;simp (disch := first|omega|(simp<;>omega)|fail) [wr3, hf1, hs1, tkS]
     refine HT.exit ?_
     simp (disch := first|omega|(simp<;>omega)|fail) [wr3]
     refine HT.region ?_;simp (disch := first|omega|(simp<;>omega)|fail) [wr3]
     first | (have _t := tp; refine Round.mk' (⟨_, hk.put hk' tp⟩) (by dsimp only; omega) rfl ?_) | (have _t := td; refine Round.mk' (⟨_, hk.del hk' td cf⟩) (by dsimp only; omega) rfl ?_)
     simp (disch := first|omega|(simp<;>omega)|fail) [wr3, cf]
    ·have td : c[k].blob = 0 := by simpa using h32
     refine HT.skip ?_;simp (disch := first|omega|(simp<;>omega)|fail) [wr3]
     refine HT.seq ?_;refine HT.seq ?_
     by_cases cf : c[k].path ∈ ks
     ·have hf1 : findHV Tryz.prog 9 (.str c[k].path) (sents ks f) 0 = some (some (ks.idxOf c[k].path, i64 (f c[k].path))) := by rw [find_sents, if_pos cf]
      refine HT.region ?_;simp (disch := first|omega|(simp<;>omega)|fail) [wr3, hf1, tkS]
      refine HT.seq ?_;refine HT.region ?_;simp (disch := first|omega|(simp<;>omega)|fail) [wr3]
      refine HT.cond' ?_;simp (disch := first|omega|(simp<;>omega)|fail) [wr3]
      refine HT.skip ?_;simp (disch := first|omega|(simp<;>omega)|fail) [wr3]
      refine HT.region ?_;simp (disch := first|omega|(simp<;>omega)|fail) [wr3, hf1, tkS, sents_del]
      refine HT.region ?_;simp (disch := first|omega|(simp<;>omega)|fail) [wr3]
      first | (have _t := tp; refine Round.mk' (⟨_, hk.put hk' tp⟩) (by dsimp only; omega) rfl ?_) | (have _t := td; refine Round.mk' (⟨_, hk.del hk' td cf⟩) (by dsimp only; omega) rfl ?_)
      simp (disch := first|omega|(simp<;>omega)|fail) [wr3, cf]
     have hf1 : findHV Tryz.prog 9 (.str c[k].path) (sents ks f) 0 = some none := by rw [find_sents, if_neg cf]
     refine HT.region ?_;simp (disch := first|omega|(simp<;>omega)|fail) [wr3, hf1, tkS]
     refine HT.seq ?_;refine HT.region ?_;simp (disch := first|omega|(simp<;>omega)|fail) [wr3]
     refine HT.cond' ?_;simp (disch := first|omega|(simp<;>omega)|fail) [wr3]
     refine HT.seq ?_;refine HT.region ?_;simp (disch := first|omega|(simp<;>omega)|fail) [wr3]
     refine HT.weaken (HS.le_wk 4 (.sl 2 false []) (by decide) rfl rfl (HLe.nilf 0 2 true)) ?_
     refine HT.ret ?_;simp (disch := first|omega|(simp<;>omega)|fail) [wr3, apply_none hr0 (by omega) (hk.run.trans (runT_cons_none hk' (stepT_none hk.map td cf)))]
   ·have hkl := hk.le
    dsimp only at hkl
    obtain rfl : k = c.length := by omega
    have hrn := hk.run
    rw [List.drop_length] at hrn
    have hB := hfin r hrn
    have hlr := hk.len
    dsimp only at hlr hrn
    refine HT.exit ?_
    simp (disch := first|omega|(simp<;>omega)|fail) [wr3]
    refine HT.weaken (HS.le_frzref (id := 23) (xr := .any) (xm := .mp (sents ks f)) (by simp [frz1])) ?_
    refine HT.seq ?_;refine HT.region ?_;simp (disch := first|omega|(simp<;>omega)|fail) [wr3]
    refine stepK.mk (.call1f _ _ _ _ _ rfl Ty.hb121 rfl rfl (files_spec ks f r hk.map (by omega)) rfl) ?_
    simp (disch := first|omega|(simp<;>omega)|fail) [wr3]
    refine HT.seq ?_;refine HT.seq ?_;refine HT.region ?_;simp (disch := first|omega|(simp<;>omega)|fail) [wr3]
    refine stepK.mk (.call1 _ _ _ _ rfl Ty.hb119 rfl (TRight_spec r ⟨by omega, fun f hf => Nat.le_trans (hB.2 f hf) (by decide)⟩) rfl rfl) ?_
    simp (disch := first|omega|(simp<;>omega)|fail) [wr3]
    refine HT.seq ?_;refine HT.region ?_;simp (disch := first|omega|(simp<;>omega)|fail) [wr3]
    refine HT.cond' ?_;simp (disch := first|omega|(simp<;>omega)|fail) [wr3]
    refine ⟨fun h56 => ?_, fun h56 => ?_⟩
    ·refine HT.seq ?_;refine HT.region ?_;simp (disch := first|omega|(simp<;>omega)|fail) [wr3]
     refine HT.weaken (HS.le_wk 4 (.sl 2 false []) (by decide) rfl rfl (HLe.nilf 0 2 true)) ?_
     refine HT.ret ?_;simp (disch := first|omega|(simp<;>omega)|fail) [wr3, apply_some hr0 (by omega) hrn, h56]
    ·refine HT.skip ?_;simp (disch := first|omega|(simp<;>omega)|fail) [wr3]
     refine HT.seq ?_;refine HT.region ?_;simp (disch := first|omega|(simp<;>omega)|fail) [wr3]
     refine HT.ret ?_;simp (disch := first|omega|(simp<;>omega)|fail) [wr3, apply_some hr0 (by omega) hrn, h56]
end Go.Hv
set_option linter.unusedVariables false
set_option linter.unusedSimpArgs false
/- Histories (layer 26). -/
namespace Go.Hv
open Go Go.Hv Go.Proofs Go.RowKit
open Go.Proofs.YtcmomegkhoggpaaGreatDoor
def getHV (l : List Commit) (id : Int) : List HV := match idxC l id with
 | none => [i64 0, .sl 0 true [], .sl 0 true [], i64 0, i64 0]
 | some j => (l[j]?.getD default).enc
theorem getHV_none {l : List Commit} {id : Int} (h : idxC l id = none) : getHV l id = [i64 0, .sl 0 true [], .sl 0 true [], i64 0, i64 0] := by unfold getHV; rw [h]
theorem getHV_some {l : List Commit} {id : Int} {j : Nat} (h : idxC l id = some j) : getHV l id = (l[j]'(idxC_lt h)).enc := by unfold getHV; rw [h]; simp only [List.getElem?_eq_getElem (idxC_lt h), Option.getD_some]
theorem idxC_hit {l : List Commit} {id : Int} {k : Nat} (hk : k < l.length) (hg : UpTo (fun c => !decide (c.id = id)) l k) (h : l[k].id = id) : idxC l id = some k := by
 refine List.findIdx?_eq_some_iff_getElem.2 ⟨hk, by simpa using h, fun j hj => ?_⟩
 have := hg j _ hj (List.getElem?_eq_getElem (by omega))
 simpa using this
theorem idxC_miss {l : List Commit} {id : Int} (hg : UpTo (fun c => !decide (c.id = id)) l l.length) : idxC l id = none := by
 refine List.findIdx?_eq_none_iff.2 fun x hx => ?_
 obtain ⟨i, hi⟩ := List.mem_iff_getElem?.1 hx
 have := hg i x (getElem?_lt hi) hi
 simpa using this
set_option maxRecDepth 20000 in
theorem GetC_spec (l : List Commit) (id : Int) (hn : l.length ≤ 140737488355328) : SpecT Tryz.prog 80 [.sl 5 false (cmsHV l), i64 id] [.agg (getHV l id), bo (idxC l id).isSome] := by
 refine SpecT.of_HT Tryz.func80 rfl (by rw [Tryz.ntmps80]; simp) (rs := [.cell 4 80, .tmp 5]) rfl (by decide) ?_
 rw [Tryz.ntmps80]
 refine HT.seq ?_;refine HT.region ?_;simp (disch := first|omega|(simp<;>omega)|fail) [wr3]
 refine HT.seq ?_;refine HT.seq ?_;refine HT.region ?_;simp (disch := first|omega|(simp<;>omega)|fail) [wr3]
 refine HT.block ?_;refine HT.loopK (fun k : {k : Nat // k ≤ l.length ∧ UpTo (fun c => !decide (c.id = id)) l k} => [.s 10 (i64 k)]) [1, 4, 8, 9] [4] (fun k => l.length - k) (⟨0, by omega, UpTo.zero _ _⟩) ?_ ?_
 ·simp (disch := first|omega|(simp<;>omega)|fail) [wr3]
 rintro ⟨k, hk, hg⟩
 simp (disch := first|omega|(simp<;>omega)|fail) [wr3]
 refine HT.seq ?_;refine HT.region ?_;simp (disch := first|omega|(simp<;>omega)|fail) [wr3]
 refine HT.seq ?_;refine HT.cond' ?_;simp (disch := first|omega|(simp<;>omega)|fail) [wr3]
 refine ⟨fun h11 => ?_, fun h11 => ?_⟩
 ·have hk' : k < l.length := by omega
  refine HT.skip ?_;simp (disch := first|omega|(simp<;>omega)|fail) [wr3]
  refine HT.seq ?_;refine HT.block ?_;refine HT.seq ?_;refine HT.region ?_;simp (disch := first|omega|(simp<;>omega)|fail) [wr3]
  refine HT.seq ?_;refine HT.region ?_;simp (disch := first|omega|(simp<;>omega)|fail) [wr3]
  refine HT.cond' ?_;simp (disch := first|omega|(simp<;>omega)|fail) [wr3]
  refine ⟨fun h17 => ?_, fun h17 => ?_⟩
  ·have hx := idxC_hit hk' hg (by simpa using h17)
   refine HT.seq ?_;refine HT.region ?_;simp (disch := first|omega|(simp<;>omega)|fail) [wr3]
   refine HT.ret ?_;simp (disch := first|omega|(simp<;>omega)|fail) [wr3, getHV_some hx, hx]
  ·refine HT.skip ?_;simp (disch := first|omega|(simp<;>omega)|fail) [wr3]
   refine HT.region ?_;simp (disch := first|omega|(simp<;>omega)|fail) [wr3]
   refine Round.mk' (⟨k + 1, by omega, hg.succ hk' (by simpa using h17)⟩) (by dsimp only; omega) rfl ?_
   simp (disch := first|omega|(simp<;>omega)|fail) [wr3]
 ·obtain rfl : k = l.length := by omega
  have hx := idxC_miss hg
  refine HT.exit ?_
  simp (disch := first|omega|(simp<;>omega)|fail) [wr3]
  refine HT.seq ?_;refine HT.region ?_;simp (disch := first|omega|(simp<;>omega)|fail) [wr3]
  refine HT.ret ?_;simp (disch := first|omega|(simp<;>omega)|fail) [wr3, getHV_none hx, hx]
theorem rightB {l : List File} (h : rightT l = 0) : FileB 1000 l := by
 obtain ⟨_, h2, h3⟩ := rightT_sorted h
 refine ⟨by omega, fun f hf => ?_⟩
 have := (h3 f hf).1
 unfold pathV at this
 simp only [Bool.and_eq_true, decide_eq_true_eq] at this
 omega
theorem treeV_zero (l : List Commit) : treeV l 0 = ([], 0) := by unfold treeV; rw [if_pos rfl]
theorem treeV_miss {l : List Commit} {id : Int} (h0 : ¬ id = 0) (h : idxC l id = none) : treeV l id = ([], 8) := by
 unfold treeV; rw [if_neg h0, h]
end Go.Hv
set_option linter.unusedVariables false
set_option linter.unusedSectionVars false
set_option linter.unusedSimpArgs false
namespace Go.Hv
open Go Go.Hv
variable [GI]
/-! ### Numbers, strings and grams that are handed in -/
@[reducible] def intsSh : ShT := .sl 1 (.int .i64)
@[reducible] def gramsSh : ShT := .sl 2 (.st [.int .i64, intsSh])
theorem map_choiceF {α β : Type} {f : β → α} {p : β → Prop} : ∀ {es : List α}, (∀ x ∈ es, ∃ d, x = f d ∧ p d) → ∃ l : List β, es = l.map f ∧ ∀ d ∈ l, p d
 | [], _ => ⟨[], rfl, by simp⟩
 | x :: r, h => by
  obtain ⟨d, rfl, hd⟩ := h x (by simp)
  obtain ⟨l, rfl, hl⟩ := map_choiceF (es := r) (f := f) (p := p) (fun y hy => h y (by simp [hy]))
  exact ⟨d :: l, rfl, fun y hy => by rcases List.mem_cons.1 hy with rfl | hy; exact hd; exact hl y hy⟩
theorem rdF_int {B : Nat} {k : IntKind} {x : List HV} (h : RdF B (.int k) x) : ∃ n, x = [.lit (.int k n)] ∧ (Lit.int k n).wf = true := by
 cases h with | int k n hw => exact ⟨n, rfl, hw⟩
theorem rdF_str {B : Nat} {x : List HV} (h : RdF B .str x) : ∃ s, x = [.str s] ∧ s.length ≤ B := by
 cases h with | str l hl => exact ⟨l, rfl, hl⟩
theorem rdF_ints {B : Nat} {x : List HV} (h : RdF B intsSh x) : ∃ l, x = [.sl 1 false (intsHV l)] ∧ l.length ≤ B ∧ ∀ n ∈ l, (Lit.int .i64 n).wf = true := by
 cases h with
 | sl sz e es hl hz h =>
  obtain ⟨on, rfl, hon⟩ := map_choiceF (f := fun n => [HV.lit (.int .i64 n)]) (p := fun n => (Lit.int .i64 n).wf = true) (fun x hx => rdF_int (h x hx))
  exact ⟨on, rfl, by simpa using hl, hon⟩
theorem repsF_one {w : World} {dead : Nat → Prop} {c : HV} {v : Value} (h : Reps w dead [c] [v]) : IRep w dead c v := by
 cases h with | cons h1 _ => exact h1
end Go.Hv
set_option linter.unusedVariables false
set_option linter.unusedSectionVars false
set_option linter.unusedSimpArgs false
namespace Go.Hv
open Go Go.Hv
variable [GI]
/-! ### Documents and segments that are handed in -/
@[reducible] def strsShF : ShT := .sl 1 .str
@[reducible] def docShF : ShT := .st [.int .i64, .str, .str, .str, strsShF]
@[reducible] def docsShF : ShT := .sl 5 docShF
@[reducible] def postShF : ShT := .st [.int .i64, gramsSh]
@[reducible] def segShF : ShT := .st [docsShF, .sl 2 postShF]
@[reducible] def segsShF : ShT := .sl 2 segShF
def DocF (B : Nat) (d : Doc) : Prop := d.repo.length ≤ B ∧ d.path.length ≤ B ∧ d.text.length ≤ B ∧ d.on.length ≤ B ∧ ∀ s ∈ d.on, s.length ≤ B
theorem rdF_strs {B : Nat} {x : List HV} (h : RdF B strsShF x) : ∃ l, x = [.sl 1 false (strsHV l)] ∧ l.length ≤ B ∧ ∀ s ∈ l, s.length ≤ B := by
 cases h with
 | sl sz e es hl hz h =>
  obtain ⟨on, rfl, hon⟩ := map_choiceF (f := fun s => [HV.str s]) (p := fun s => s.length ≤ B) (fun x hx => rdF_str (h x hx))
  exact ⟨on, rfl, by simpa using hl, hon⟩
theorem rdF_doc {B : Nat} {x : List HV} (h : RdF B docShF x) : ∃ d : Doc, x = d.enc ∧ DocF B d := by
 cases h with
 | st fs hs h =>
  cases h with
  | cons h1 h =>
  cases h with
  | cons h2 h =>
  cases h with
  | cons h3 h =>
  cases h with
  | cons h4 h =>
  cases h with
  | cons h5 h =>
  cases h
  obtain ⟨n, rfl, hn⟩ := rdF_int h1
  obtain ⟨r, rfl, hr⟩ := rdF_str h2
  obtain ⟨p, rfl, hp⟩ := rdF_str h3
  obtain ⟨t, rfl, ht⟩ := rdF_str h4
  obtain ⟨on, rfl, ho, hos⟩ := rdF_strs h5
  exact ⟨⟨n, r, p, t, on⟩, rfl, hr, hp, ht, ho, hos⟩
theorem rdF_docs {B : Nat} {x : List HV} (h : RdF B docsShF x) : ∃ l : List Doc, x = [.sl 5 false (docsHV l)] ∧ l.length ≤ B ∧ ∀ d ∈ l, DocF B d := by
 cases h with
 | sl sz e es hl hz h =>
  obtain ⟨l, rfl, hb⟩ := map_choiceF (f := Doc.enc) (p := DocF B) (fun x hx => rdF_doc (h x hx))
  exact ⟨l, rfl, by simpa using hl, hb⟩
theorem docs_of_trodW {H : Type} {enc : TypeId × Value → H} {P : Program} {w : World} {sp : Nat → Bool} {held : Bool} {t : TypeId} {a : Option Addr} {n c : Nat} {d : DataW H} {ps : List MemPlace} {B : Nat} (hk : shOKW P docsShF t = true)
  (h : DataW.Trod enc P w 0 sp held t (.slice a n c) d ps) (hB : ∀ n ∈ d.weights P t, n ≤ B) : ∃ l : List Doc, IRep w (fun _ => False) (.sl 5 false (docsHV l)) (.slice a n c) ∧ l.length ≤ B ∧ ∀ d ∈ l, DocF B d := by
 obtain ⟨hs, h1, h2⟩ := arg_of_trodW docsShF hk h hB
 obtain ⟨l, rfl, hl, hg⟩ := rdF_docs h1
 exact ⟨l, repsF_one h2, hl, hg⟩
end Go.Hv
set_option linter.unusedVariables false
set_option linter.unusedSectionVars false
set_option linter.unusedSimpArgs false
/- Conditions: trees of a kind, a number and parts. -/
namespace Go.Hv
open Go Go.RowKit
variable [GI]
inductive NeedT where
 | mk (kind gram : Int) (subs : List NeedT)
def NeedT.kind : NeedT → Int | .mk k _ _ => k
def NeedT.gram : NeedT → Int | .mk _ g _ => g
def NeedT.subs : NeedT → List NeedT | .mk _ _ s => s
mutual
def NeedT.enc (n : NeedT) : List HV :=
 match n with
 | .mk k g s => [i64 k, i64 g, .sl 3 false (needsHV s)]
  termination_by structural n
def needsHV (l : List NeedT) : List (List HV) :=
 match l with
 | [] => []
 | x :: r => x.enc :: needsHV r
  termination_by structural l
end
theorem needsHV_map (l : List NeedT) : needsHV l = l.map NeedT.enc := by
 induction l with
 | nil => rfl
 | cons x r ih => rw [needsHV, ih]; rfl
@[simp] theorem needsHV_length (l : List NeedT) : (needsHV l).length = l.length := by rw [needsHV_map]; simp
@[simp] theorem needsHV_getElem (l : List NeedT) (k : Nat) (h : k < (needsHV l).length) : (needsHV l)[k] = (l[k]'(by simpa using h)).enc := by simp [needsHV_map]
mutual
theorem isIL_need (n : NeedT) : isIL n.enc = true := by
 match n with
 | .mk k g s => rw [NeedT.enc]; simp [isIL, isI, isILL_needs s]
theorem isILL_needs (l : List NeedT) : isILL (needsHV l) = true := by
 match l with
 | [] => rfl
 | x :: r =>
  rw [needsHV, isILL_iff]
  have h := isILL_iff.1 (isILL_needs r)
  intro y hy
  rcases List.mem_cons.1 hy with rfl | hy
  ·exact isIL_need x
  ·exact h y hy
end
attribute [simp] isIL_need isILL_needs
inductive NeedB (B : Nat) : NeedT → Prop
 | mk (k g : Int) (s : List NeedT) (hl : s.length ≤ B) (h : ∀ x ∈ s, NeedB B x) : NeedB B (.mk k g s)
theorem NeedB.len {B : Nat} {n : NeedT} (h : NeedB B n) : n.subs.length ≤ B := by cases h with | mk k g s hl h => exact hl
theorem NeedB.sub {B : Nat} {n x : NeedT} (h : NeedB B n) (hx : x ∈ n.subs) : NeedB B x := by cases h with | mk k g s hl h => exact h x hx
/-! ### Conditions that are handed in -/
variable {H : Type} {enc : TypeId × Value → H} {P : Program} {w : World} {sp : Nat → Bool} {held : Bool} {B : Nat}
end Go.Hv
set_option linter.unusedVariables false
set_option linter.unusedSectionVars false
set_option linter.unusedSimpArgs false
namespace Go.Hv
open Go Go.Hv
variable [GI]
/-! ### A segment and a condition that are handed in -/
theorem reps_at {w : World} {dead : Nat → Prop} {hs : List HV} {us : List Value} (h : Reps w dead hs us) : us.length = hs.length ∧ ∀ (j : Nat) (c : HV) (v : Value), hs[j]? = some c → us[j]? = some v → IRep w dead c v := by
 induction h with
 | nil => exact ⟨rfl, by simp⟩
 | cons a b ih =>
  refine ⟨by simp [ih.1], fun j c v h1 h2 => ?_⟩
  cases j with
  | zero => simp at h1 h2; subst h1; subst h2; exact a
  | succ j => exact ih.2 j c v (by simpa using h1) (by simpa using h2)
theorem agg_of_reps {w : World} {dead : Nat → Prop} {hs : List HV} {v : Value} (hl : hs.length ≠ 1) (h : Reps w dead hs v.cells.toList) : IRep w dead (.agg hs) v := by
 obtain ⟨h1, h2⟩ := reps_at h
 cases v with
 | agg vs => exact .agg (by simpa [Value.cells] using h1) (fun j c v hc hv => h2 j c v hc (by simpa [Value.cells] using hv))
 | _ => exact absurd h1.symm (by simpa [Value.cells] using hl)
end Go.Hv
set_option linter.unusedVariables false
set_option linter.unusedSectionVars false
set_option linter.unusedSimpArgs false
namespace Go.Hv
open Go Go.Hv
variable [GI]
/-! ### A repository, a change and a question that are handed in -/
@[reducible] def blobShF : ShT := .st [.int .i64, .str]
@[reducible] def fileShF : ShT := .st [.str, .int .i64]
@[reducible] def commitShF : ShT := .st [.int .i64, intsSh, .sl 2 fileShF, .int .i64, .int .i64]
@[reducible] def storeShF : ShT := .st [.int .i64, .sl 2 blobShF]
@[reducible] def repoShF : ShT := .st [.str, storeShF, .sl 5 commitShF, .sl 2 fileShF]
@[reducible] def deltaShF : ShT := .st [docsShF, intsSh, docsShF]
@[reducible] def askShF : ShT := .st [.str, .str, .int .i64]
def CommitF (B : Nat) (c : Commit) : Prop := c.parents.length ≤ B ∧ c.changes.length ≤ B ∧ ∀ f ∈ c.changes, f.path.length ≤ B
structure RepoF (B : Nat) (r : Repo) : Prop where
 name : r.name.length ≤ B
 blobs : r.store.blobs.length ≤ B
 texts : ∀ b ∈ r.store.blobs, b.text.length ≤ B
 commits : r.commits.length ≤ B
 commit : ∀ c ∈ r.commits, CommitF B c
 brs : r.brs.length ≤ B
 names : ∀ b ∈ r.brs, b.name.length ≤ B
structure DeltaF (B : Nat) (d : Delta) : Prop where
 new : d.new.length ≤ B
 news : ∀ x ∈ d.new, DocF B x
 dead : d.dead.length ≤ B
 moved : d.moved.length ≤ B
 moveds : ∀ x ∈ d.moved, DocF B x
theorem rdF_delta {B : Nat} {x : List HV} (h : RdF B deltaShF x) : ∃ d : Delta, x = d.enc ∧ DeltaF B d := by
 cases h with
 | st fs hs h =>
  cases h with
  | cons h1 h =>
  cases h with
  | cons h2 h =>
  cases h with
  | cons h3 h =>
  cases h
  obtain ⟨a, rfl, ha, ha'⟩ := rdF_docs h1
  obtain ⟨b, rfl, hb, _⟩ := rdF_ints h2
  obtain ⟨c, rfl, hc, hc'⟩ := rdF_docs h3
  exact ⟨⟨a, b, c⟩, rfl, ha, ha', hb, hc, hc'⟩
theorem delta_of_trodW {H : Type} {enc : TypeId × Value → H} {P : Program} {w : World} {sp : Nat → Bool} {held : Bool} {t : TypeId} {v : Value} {d : DataW H} {ps : List MemPlace} {B : Nat} (hk : shOKW P deltaShF t = true)
  (h : DataW.Trod enc P w 0 sp held t v d ps) (hB : ∀ n ∈ d.weights P t, n ≤ B) : ∃ r : Delta, IRep w (fun _ => False) (.agg r.enc) v ∧ DeltaF B r := by
 obtain ⟨hs, h1, h2⟩ := arg_of_trodW deltaShF hk h hB
 obtain ⟨s, rfl, hg⟩ := rdF_delta h1
 exact ⟨s, agg_of_reps (by simp [Delta.enc]) h2, hg⟩
structure Ask where
 repo : List UInt8
 branch : List UInt8
 id : Int
@[simp] def Ask.enc (a : Ask) : List HV := [.str a.repo, .str a.branch, i64 a.id]
theorem ask_of_trodW {H : Type} {enc : TypeId × Value → H} {P : Program} {w : World} {sp : Nat → Bool} {held : Bool} {t : TypeId} {v : Value} {d : DataW H} {ps : List MemPlace} {B : Nat} (hk : shOKW P askShF t = true)
  (h : DataW.Trod enc P w 0 sp held t v d ps) (hB : ∀ n ∈ d.weights P t, n ≤ B) : ∃ r : Ask, IRep w (fun _ => False) (.agg r.enc) v ∧ r.repo.length ≤ B ∧ r.branch.length ≤ B := by
 obtain ⟨hs, h1, h2⟩ := arg_of_trodW askShF hk h hB
 cases h1 with
 | st fs hs h =>
  cases h with
  | cons h1 h =>
  cases h with
  | cons h3 h =>
  cases h with
  | cons h4 h =>
  cases h
  obtain ⟨a, rfl, ha⟩ := rdF_str h1
  obtain ⟨b, rfl, hb⟩ := rdF_str h3
  obtain ⟨c, rfl, hc⟩ := rdF_int h4
  exact ⟨⟨a, b, c⟩, agg_of_reps (by simp [Ask.enc]) h2, ha, hb⟩
end Go.Hv
set_option linter.unusedVariables false
set_option linter.unusedSimpArgs false
/- Right histories (layer 26). -/
namespace Go.Hv
open Go Go.Hv Go.Proofs Go.RowKit
open Go.Proofs.YtcmomegkhoggpaaGreatDoor
theorem all_upto {α : Type} {q : α → Bool} {l : List α} (h : UpTo q l l.length) : l.all q = true := by
 rw [List.all_eq_true]
 intro x hx
 obtain ⟨i, hi⟩ := List.mem_iff_getElem?.1 hx
 exact h i x (getElem?_lt hi) hi
theorem all_fail {α : Type} {q : α → Bool} {l : List α} {k : Nat} (hk : k < l.length) (h : q l[k] = false) : l.all q = false := by
 rw [List.all_eq_false]
 exact ⟨_, List.getElem_mem hk, by simp [h]⟩
def HistB (l : List Commit) : Prop := rightC l = 0 ∧ ∀ c ∈ l, CommitF 140737488355328 c
theorem chain_changes {l : List Commit} (h : HistB l) {i : Nat} (hi : i < l.length) {k : Nat} (hk : k < (chainV l i).length) : FileQ (chainV l i)[k].changes := by
 have hm := chain_sub (l := l) i _ (List.getElem_mem hk)
 obtain ⟨j, hj, e⟩ := List.mem_iff_getElem.1 hm
 rw [← e]
 have := (checkC_ok (right_check h.1 hj)).chg
 exact ⟨by omega, (h.2 _ (List.getElem_mem hj)).2.2⟩
theorem applyT_fin {l c r0 : List File} (h : applyT l c = (r0, 0)) : ∀ r, runT l c = some r → FileB 1000 r := fun r hr => by
 unfold applyT at h
 split at h
 ·next h1 => exact absurd (congrArg Prod.snd h) h1
 ·split at h
  ·exact absurd (congrArg Prod.snd h) (by simp)
  ·rw [hr] at h
   dsimp only at h
   split at h
   ·next h1 => exact absurd (congrArg Prod.snd h) h1
   ·next h1 => exact rightB (by simpa using h1)
theorem chain_pos {l : List Commit} {i : Nat} (hi : i < l.length) : 0 < (chainV l i).length := by rw [chainV_at hi]; simp
theorem chain_zero {l : List Commit} {i : Nat} (hi : i < l.length) : (chainV l i)[0]'(chain_pos hi) = l[i] := by simp only [chainV_at hi, List.getElem_cons_zero]
theorem treeV_some {l : List Commit} {id : Int} (h0 : ¬ id = 0) {i : Nat} (h : idxC l id = some i) : treeV l id = (filesOf (chainV l i), 0) := by unfold treeV; rw [if_neg h0, h]
theorem cms_step {m : List Commit} {k : Nat} (hk : k < m.length) : m.take k ++ [m[k]] = m.take (k + 1) := (List.take_succ_eq_append_getElem hk).symm
structure ChG (l : List Commit) (i k : Nat) : Prop where
 lt : k < (chainV l i).length
set_option maxRecDepth 20000 in
set_option maxHeartbeats 2000000 in
theorem Tree_spec (l : List Commit) (id : Int) (hl : HistB l) : SpecT Tryz.prog 61 [.sl 5 false (cmsHV l), i64 id] [.sl 2 false (filesHV (treeV l id).1), i64 (treeV l id).2] := by
 have hl64 := rightC_len hl.1
 refine SpecT.of_HT Tryz.func61 rfl (by rw [Tryz.ntmps61]; simp) (rs := [.tmp 4, .tmp 5]) rfl (by decide) ?_
 rw [Tryz.ntmps61]
 refine HT.seq ?_;refine HT.region ?_;simp (disch := first|omega|(simp<;>omega)|fail) [wr3]
 refine HT.seq ?_;refine HT.seq ?_;refine HT.region ?_;simp (disch := first|omega|(simp<;>omega)|fail) [wr3]
 refine HT.cond' ?_;simp (disch := first|omega|(simp<;>omega)|fail) [wr3]
 refine ⟨fun h15 => ?_, fun h15 => ?_⟩
 ·refine HT.seq ?_;refine HT.region ?_;simp (disch := first|omega|(simp<;>omega)|fail) [wr3]
  refine HT.weaken (HS.le_wk 4 (.sl 2 false []) (by decide) rfl rfl (HLe.nilf 0 2 true)) ?_
  refine HT.ret ?_;simp (disch := first|omega|(simp<;>omega)|fail) [wr3, h15, treeV_zero]
 ·have h0 : ¬ id = 0 := by simpa using h15
  refine HT.skip ?_;simp (disch := first|omega|(simp<;>omega)|fail) [wr3]
  refine HT.seq ?_
  by_cases q : idxC l id = none
  ·have hgv := getHV_none q
   have his : (idxC l id).isSome = false := by rw [q]; rfl
   refine HT.region ?_;simp (disch := first|omega|(simp<;>omega)|fail) [wr3, hgv, his]
   refine stepK.mk (.callTf _ _ _ _ _ rfl Ty.hb80 rfl rfl (GetC_spec l id (by omega)) rfl) ?_
   simp (disch := first|omega|(simp<;>omega)|fail) [wr3, hgv, his]
   refine HT.seq ?_;refine HT.seq ?_;refine HT.region ?_;simp (disch := first|omega|(simp<;>omega)|fail) [wr3]
   refine HT.cond' ?_;simp (disch := first|omega|(simp<;>omega)|fail) [wr3]
   refine HT.seq ?_;refine HT.region ?_;simp (disch := first|omega|(simp<;>omega)|fail) [wr3]
   refine HT.weaken (HS.le_wk 4 (.sl 2 false []) (by decide) rfl rfl (HLe.nilf 0 2 true)) ?_
   refine HT.ret ?_;simp (disch := first|omega|(simp<;>omega)|fail) [wr3, treeV_miss h0 q]
  obtain ⟨i, hi⟩ := Option.ne_none_iff_exists'.1 q
  have hil := idxC_lt hi
  have hgv := getHV_some hi
  have his : (idxC l id).isSome = true := by rw [hi]; rfl
  have hcl := chain_length (l := l) i
  have hch := chain_step hl.1 i hil
  have hx := treeV_some h0 hi
  have hz := chain_zero hil
  refine HT.region ?_;simp (disch := first|omega|(simp<;>omega)|fail) [wr3, hgv, his]
  refine stepK.mk (.callTf _ _ _ _ _ rfl Ty.hb80 rfl rfl (GetC_spec l id (by omega)) rfl) ?_
  simp (disch := first|omega|(simp<;>omega)|fail) [wr3, hgv, his]
  refine HT.seq ?_;refine HT.seq ?_;refine HT.region ?_;simp (disch := first|omega|(simp<;>omega)|fail) [wr3]
  refine HT.cond' ?_;simp (disch := first|omega|(simp<;>omega)|fail) [wr3]
  refine HT.skip ?_;simp (disch := first|omega|(simp<;>omega)|fail) [wr3]
  refine HT.seq ?_;refine HT.region ?_;simp (disch := first|omega|(simp<;>omega)|fail) [wr3]
  refine HT.weaken (HS.le_own (t := 8) 200 80 5 _ (by decide) rfl (by decide)) ?_
  refine HT.seq ?_;refine HT.seq ?_;refine HT.region ?_;simp (disch := first|omega|(simp<;>omega)|fail) [wr3]
  refine HT.block ?_;refine HT.loopK (fun k : {k : Nat // k < (chainV l i).length} => [.s 9 (i64 ((l.length : Int) - k)), .s 7 (bo true), .o 6 (.box ((chainV l i)[k.1]'k.2).enc), .s 8 (.ref 200), .o 200 (.row 80 5 (cmsHV ((chainV l i).take k)))]) [0, 6] [] (fun k => (chainV l i).length - k) (⟨0, chain_pos hil⟩) ?_ ?_
  ·simp (disch := first|omega|(simp<;>omega)|fail) [wr3, hz]
  rintro ⟨k, hk⟩
  simp (disch := first|omega|(simp<;>omega)|fail) [wr3]
  refine HT.seq ?_;refine HT.seq ?_;refine HT.region ?_;simp (disch := first|omega|(simp<;>omega)|fail) [wr3]
  refine HT.cond' ?_;simp (disch := first|omega|(simp<;>omega)|fail) [wr3]
  refine HT.skip ?_;simp (disch := first|omega|(simp<;>omega)|fail) [wr3]
  refine HT.seq ?_;refine HT.block ?_;refine HT.seq ?_
  have htl : ((chainV l i).take k).length = k := by rw [List.length_take]; omega
  have hst : (chainV l i).take k ++ [⟨(chainV l i)[k].id, (chainV l i)[k].parents, (chainV l i)[k].changes, (chainV l i)[k].time, (chainV l i)[k].author⟩] = (chainV l i).take (k + 1) := cms_step hk
  refine HT.region ?_;simp (disch := first|omega|(simp<;>omega)|fail) [wr3, hst]
  refine HT.seq ?_;refine HT.seq ?_;refine HT.region ?_;simp (disch := first|omega|(simp<;>omega)|fail) [wr3]
  refine HT.cond' ?_;simp (disch := first|omega|(simp<;>omega)|fail) [wr3]
  refine ⟨fun h40 => ?_, fun h40 => ?_⟩
  ·have hke : k + 1 = (chainV l i).length := (hch k hk).1 (by simpa using h40)
   have hful : (chainV l i).take (k + 1) = chainV l i := by rw [hke]; exact List.take_length
   refine HT.exit ?_
   simp (disch := first|omega|(simp<;>omega)|fail) [wr3]
   simp only [hful]
   refine HT.weaken (HS.le_frzref (id := 200) (xr := .sl 5 false (cmsHV (chainV l i))) (xm := .any) (by simp)) ?_
   refine HT.seq ?_;refine HT.region ?_;simp (disch := first|omega|(simp<;>omega)|fail) [wr3]
   refine HT.weaken (HS.le_wk 10 (.sl 2 false []) (by decide) rfl rfl (HLe.nilf 0 2 true)) ?_
   refine HT.seq ?_;refine HT.seq ?_;refine HT.region ?_;simp (disch := first|omega|(simp<;>omega)|fail) [wr3]
   refine HT.block ?_;refine HT.loopK (fun m : {m : Nat // m ≤ (chainV l i).length} => [.s 11 (i64 ((m : Int) - 1)), .s 10 (.sl 2 false (filesHV (filesOf ((chainV l i).drop m))))]) [8] [] (fun m => m) (⟨(chainV l i).length, Nat.le_refl _⟩) ?_ ?_
   ·simp (disch := first|omega|(simp<;>omega)|fail) [wr3, List.drop_length, filesOf]
   rintro ⟨m, hm⟩
   simp (disch := first|omega|(simp<;>omega)|fail) [wr3]
   refine HT.seq ?_;refine HT.seq ?_;refine HT.region ?_;simp (disch := first|omega|(simp<;>omega)|fail) [wr3]
   refine HT.cond' ?_;simp (disch := first|omega|(simp<;>omega)|fail) [wr3]
   refine ⟨fun h54 => ?_, fun h54 => ?_⟩
   ·obtain ⟨m', rfl⟩ : ∃ m', m = m' + 1 := ⟨m - 1, by omega⟩
    have hm' : m' < (chainV l i).length := by omega
    have hok := chain_ok hl.1 i hil m' hm'
    refine HT.skip ?_;simp (disch := first|omega|(simp<;>omega)|fail) [wr3]
    refine HT.seq ?_;refine HT.block ?_;refine HT.seq ?_;refine HT.region ?_;simp (disch := first|omega|(simp<;>omega)|fail) [wr3, hok]
    refine stepK.mk (.callTf _ _ _ _ _ rfl Ty.hb81 rfl rfl (TApply_spec (filesOf ((chainV l i).drop (m' + 1))) (chainV l i)[m'].changes (rightB (filesOf_right _)) (chain_changes hl hil hm') (applyT_fin hok)) rfl) ?_
    simp (disch := first|omega|(simp<;>omega)|fail) [wr3, hok]
    refine HT.seq ?_;refine HT.seq ?_;refine HT.region ?_;simp (disch := first|omega|(simp<;>omega)|fail) [wr3]
    refine HT.cond' ?_;simp (disch := first|omega|(simp<;>omega)|fail) [wr3]
    refine HT.skip ?_;simp (disch := first|omega|(simp<;>omega)|fail) [wr3]
    refine HT.region ?_;simp (disch := first|omega|(simp<;>omega)|fail) [wr3]
    refine HT.region ?_;simp (disch := first|omega|(simp<;>omega)|fail) [wr3]
    refine Round.mk' (⟨m', by omega⟩) (by dsimp only; omega) rfl ?_
    simp (disch := first|omega|(simp<;>omega)|fail) [wr3]
   ·obtain rfl : m = 0 := by omega
    refine HT.exit ?_
    simp (disch := first|omega|(simp<;>omega)|fail) [wr3]
    refine HT.seq ?_;refine HT.region ?_;simp (disch := first|omega|(simp<;>omega)|fail) [wr3]
    refine HT.ret ?_;simp (disch := first|omega|(simp<;>omega)|fail) [wr3, hx]
  ·obtain ⟨p, q2, hpq⟩ : ∃ p q2, (chainV l i)[k].parents = p :: q2 := List.exists_cons_of_ne_nil (by simpa using h40)
   obtain ⟨j, hj, hix, hk2, hnx⟩ := (hch k hk).2 p q2 hpq
   have hgv2 : getHV l p = ((chainV l i)[k + 1]).enc := by rw [getHV_some hix, hnx]
   have his2 : (idxC l p).isSome = true := by rw [hix]; rfl
   refine HT.skip ?_;simp (disch := first|omega|(simp<;>omega)|fail) [wr3]
   refine HT.region ?_;simp (disch := first|omega|(simp<;>omega)|fail) [wr3, hpq, hgv2, his2]
   refine stepK.mk (.callTf _ _ _ _ _ rfl Ty.hb80 rfl rfl (GetC_spec l p (by omega)) rfl) ?_
   simp (disch := first|omega|(simp<;>omega)|fail) [wr3, hpq, hgv2, his2]
   refine HT.region ?_;simp (disch := first|omega|(simp<;>omega)|fail) [wr3]
   refine Round.mk' (⟨k + 1, hk2⟩) (by dsimp only; omega) rfl ?_
   simp (disch := first|omega|(simp<;>omega)|fail) [wr3, hst]
   omega
end Go.Hv
set_option linter.unusedVariables false
set_option linter.unusedSimpArgs false
/- Stores and repositories (layers 24 and 27). -/
namespace Go.Hv
open Go Go.Hv Go.Proofs Go.RowKit
open Go.Proofs.YtcmomegkhoggpaaGreatDoor
theorem getB_hit {l : List Blob} {id : Int} {k : Nat} (hk : k < l.length) (hg : UpTo (fun b => !decide (b.id = id)) l k) (h : l[k].id = id) : getB l id = some l[k].text := by
 unfold getB
 have : l.find? (fun b => decide (b.id = id)) = some l[k] := by
  rw [List.find?_eq_some_iff_getElem]
  refine ⟨by simpa using h, k, hk, rfl, fun j hj => ?_⟩
  exact hg j _ hj (List.getElem?_eq_getElem (by omega))
 rw [this]; rfl
theorem getB_miss {l : List Blob} {id : Int} (hg : UpTo (fun b => !decide (b.id = id)) l l.length) : getB l id = none := by
 unfold getB
 rw [List.find?_eq_none.2]
 ·rfl
 ·intro x hx
  obtain ⟨i, hi⟩ := List.mem_iff_getElem?.1 hx
  have := hg i x (getElem?_lt hi) hi
  simpa using this
set_option maxRecDepth 20000 in
theorem GetB_spec (s : Store) (id : Int) (hn : s.blobs.length ≤ 140737488355328) : SpecT Tryz.prog 48 [.agg s.enc, i64 id] [.str ((getB s.blobs id).getD []), bo (getB s.blobs id).isSome] := by
 refine SpecT.of_HT Tryz.func48 rfl (by rw [Tryz.ntmps48]; simp) (rs := [.tmp 4, .tmp 5]) rfl (by decide) ?_
 rw [Tryz.ntmps48]
 refine HT.seq ?_;refine HT.region ?_;simp (disch := first|omega|(simp<;>omega)|fail) [wr3]
 refine HT.seq ?_;refine HT.seq ?_;refine HT.region ?_;simp (disch := first|omega|(simp<;>omega)|fail) [wr3]
 refine HT.block ?_;refine HT.loopK (fun k : {k : Nat // k ≤ s.blobs.length ∧ UpTo (fun b => !decide (b.id = id)) s.blobs k} => [.s 11 (i64 k)]) [1, 9, 10] [] (fun k => s.blobs.length - k) (⟨0, by omega, UpTo.zero _ _⟩) ?_ ?_
 ·simp (disch := first|omega|(simp<;>omega)|fail) [wr3]
 rintro ⟨k, hk, hg⟩
 simp (disch := first|omega|(simp<;>omega)|fail) [wr3]
 refine HT.seq ?_;refine HT.region ?_;simp (disch := first|omega|(simp<;>omega)|fail) [wr3]
 refine HT.seq ?_;refine HT.cond' ?_;simp (disch := first|omega|(simp<;>omega)|fail) [wr3]
 refine ⟨fun h12 => ?_, fun h12 => ?_⟩
 ·have hk' : k < s.blobs.length := by omega
  refine HT.skip ?_;simp (disch := first|omega|(simp<;>omega)|fail) [wr3]
  refine HT.seq ?_;refine HT.block ?_;refine HT.seq ?_;refine HT.region ?_;simp (disch := first|omega|(simp<;>omega)|fail) [wr3]
  refine HT.seq ?_;refine HT.region ?_;simp (disch := first|omega|(simp<;>omega)|fail) [wr3]
  refine HT.cond' ?_;simp (disch := first|omega|(simp<;>omega)|fail) [wr3]
  refine ⟨fun h18 => ?_, fun h18 => ?_⟩
  ·have hx := getB_hit hk' hg (by simpa using h18)
   refine HT.seq ?_;refine HT.region ?_;simp (disch := first|omega|(simp<;>omega)|fail) [wr3]
   refine HT.ret ?_;simp (disch := first|omega|(simp<;>omega)|fail) [wr3, hx]
  ·refine HT.skip ?_;simp (disch := first|omega|(simp<;>omega)|fail) [wr3]
   refine HT.region ?_;simp (disch := first|omega|(simp<;>omega)|fail) [wr3]
   refine Round.mk' (⟨k + 1, by omega, hg.succ hk' (by simpa using h18)⟩) (by dsimp only; omega) rfl ?_
   simp (disch := first|omega|(simp<;>omega)|fail) [wr3]
 ·obtain rfl : k = s.blobs.length := by omega
  have hx := getB_miss hg
  refine HT.exit ?_
  simp (disch := first|omega|(simp<;>omega)|fail) [wr3]
  refine HT.seq ?_;refine HT.region ?_;simp (disch := first|omega|(simp<;>omega)|fail) [wr3]
  refine HT.ret ?_;simp (disch := first|omega|(simp<;>omega)|fail) [wr3, hx]
section
variable {s : Store} {k : Nat}
end
theorem idxB_hit {l : List Brch} {n : List UInt8} {k : Nat} (hk : k < l.length) (hg : UpTo (fun b => !decide (b.name = n)) l k) (h : l[k].name = n) : idxB l n = some k := by
 refine List.findIdx?_eq_some_iff_getElem.2 ⟨hk, by simpa using h, fun j hj => ?_⟩
 have := hg j _ hj (List.getElem?_eq_getElem (by omega))
 simpa using this
theorem idxB_miss {l : List Brch} {n : List UInt8} (hg : UpTo (fun b => !decide (b.name = n)) l l.length) : idxB l n = none := by
 refine List.findIdx?_eq_none_iff.2 fun x hx => ?_
 obtain ⟨i, hi⟩ := List.mem_iff_getElem?.1 hx
 have := hg i x (getElem?_lt hi) hi
 simpa using this
theorem idxB_lt {l : List Brch} {n : List UInt8} {k : Nat} (h : idxB l n = some k) : k < l.length := (List.findIdx?_eq_some_iff_getElem.1 h).1
theorem headV_none {r : Repo} {n : List UInt8} (h : idxB r.brs n = none) : headV r n = (0, false) := by unfold headV; rw [h]
theorem headV_some {r : Repo} {n : List UInt8} {k : Nat} (h : idxB r.brs n = some k) : headV r n = ((r.brs[k]'(idxB_lt h)).head, true) := by
 unfold headV; rw [h]; simp only [List.getElem?_eq_getElem (idxB_lt h), Option.getD_some]
theorem filesV_none {r : Repo} {n : List UInt8} (h : idxB r.brs n = none) : filesV r n = ([], 8) := by unfold filesV; rw [h]
theorem filesV_some {r : Repo} {n : List UInt8} {k : Nat} (h : idxB r.brs n = some k) : filesV r n = treeV r.commits (r.brs[k]'(idxB_lt h)).head := by
 unfold filesV; rw [h]; simp only [List.getElem?_eq_getElem (idxB_lt h), Option.getD_some]
def idxBI (l : List Brch) (n : List UInt8) : Int := match idxB l n with
 | some i => (i : Int)
 | none => -1
theorem idxBI_some {l : List Brch} {n : List UInt8} {k : Nat} (h : idxB l n = some k) : idxBI l n = k := by unfold idxBI; rw [h]
theorem idxBI_none {l : List Brch} {n : List UInt8} (h : idxB l n = none) : idxBI l n = -1 := by unfold idxBI; rw [h]
theorem indexC_spec (b : Brch) (n : List UInt8) : Spec1 Tryz.prog 118 [.agg b.enc, .cptr [.str n]] (bo (decide (b.name = n))) := by
 refine Spec1.of_HT Tryz.func118 rfl (by rw [Tryz.ntmps118]; simp) rfl ?_
 rw [Tryz.ntmps118]
 refine HT.seq ?_;refine HT.region ?_;simp (disch := first|omega|(simp<;>omega)|fail) [wr3]
 refine HT.seq ?_;refine HT.region ?_;simp (disch := first|omega|(simp<;>omega)|fail) [wr3]
 refine HT.ret ?_;simp (disch := first|omega|(simp<;>omega)|fail) [wr3]
set_option maxRecDepth 20000 in
theorem IndexB_spec (l : List Brch) (n : List UInt8) (hl : l.length ≤ 1000000) : Spec1 Tryz.prog 117 [.sl 2 false (brsHV l), .fn (.func 118) [.cptr [.str n]]] (i64 (idxBI l n)) := by
 refine Spec1.of_HT Tryz.func117 rfl (by rw [Tryz.ntmps117]; simp) rfl ?_
 rw [Tryz.ntmps117]
 refine HT.seq ?_;refine HT.region ?_;simp (disch := first|omega|(simp<;>omega)|fail) [wr3]
 refine HT.seq ?_;refine HT.seq ?_;refine HT.region ?_;simp (disch := first|omega|(simp<;>omega)|fail) [wr3]
 refine HT.block ?_;refine HT.loopK (fun k : {k : Nat // k ≤ l.length ∧ UpTo (fun b => !decide (b.name = n)) l k} => [.s 8 (i64 k)]) [0, 1, 7] [] (fun k => l.length - k) (⟨0, by omega, UpTo.zero _ _⟩) ?_ ?_
 ·simp (disch := first|omega|(simp<;>omega)|fail) [wr3]
 rintro ⟨k, hk, hg⟩
 simp (disch := first|omega|(simp<;>omega)|fail) [wr3]
 refine HT.seq ?_;refine HT.region ?_;simp (disch := first|omega|(simp<;>omega)|fail) [wr3]
 refine HT.seq ?_;refine HT.cond' ?_;simp (disch := first|omega|(simp<;>omega)|fail) [wr3]
 refine ⟨fun h9 => ?_, fun h9 => ?_⟩
 ·have hk' : k < l.length := by omega
  refine HT.skip ?_;simp (disch := first|omega|(simp<;>omega)|fail) [wr3]
  refine HT.seq ?_;refine HT.block ?_;refine HT.seq ?_;refine HT.region ?_;simp (disch := first|omega|(simp<;>omega)|fail) [wr3]
  refine HT.seq ?_;refine HT.region ?_;simp (disch := first|omega|(simp<;>omega)|fail) [wr3]
  refine stepK.mk (.call1 _ _ _ _ rfl Ty.hb118 rfl (indexC_spec l[k] n) rfl rfl) ?_
  simp (disch := first|omega|(simp<;>omega)|fail) [wr3]
  refine HT.cond' ?_;simp (disch := first|omega|(simp<;>omega)|fail) [wr3]
  refine ⟨fun h16 => ?_, fun h16 => ?_⟩
  ·have hx := idxBI_some (idxB_hit hk' hg (by simpa using h16))
   refine HT.seq ?_;refine HT.region ?_;simp (disch := first|omega|(simp<;>omega)|fail) [wr3]
   refine HT.ret ?_;simp (disch := first|omega|(simp<;>omega)|fail) [wr3, hx]
  ·refine HT.skip ?_;simp (disch := first|omega|(simp<;>omega)|fail) [wr3]
   refine HT.region ?_;simp (disch := first|omega|(simp<;>omega)|fail) [wr3]
   refine Round.mk' (⟨k + 1, by omega, hg.succ hk' (by simpa using h16)⟩) (by dsimp only; omega) rfl ?_
   simp (disch := first|omega|(simp<;>omega)|fail) [wr3]
 ·obtain rfl : k = l.length := by omega
  have hx := idxBI_none (idxB_miss hg)
  refine HT.exit ?_
  simp (disch := first|omega|(simp<;>omega)|fail) [wr3]
  refine HT.seq ?_;refine HT.region ?_;simp (disch := first|omega|(simp<;>omega)|fail) [wr3]
  refine HT.ret ?_;simp (disch := first|omega|(simp<;>omega)|fail) [wr3, hx]
theorem index_spec (r : Repo) (n : List UInt8) (hl : r.brs.length ≤ 1000000) : Spec1 Tryz.prog 79 [.agg r.enc, .str n] (i64 (idxBI r.brs n)) := by
 refine Spec1.of_HT Tryz.func79 rfl (by rw [Tryz.ntmps79]; simp) rfl ?_
 rw [Tryz.ntmps79]
 refine HT.seq ?_;refine HT.region ?_;simp (disch := first|omega|(simp<;>omega)|fail) [wr3]
 refine HT.weaken (HS.le_frzbox 3 3 (by decide) rfl rfl (by simp [isIL, isI])) ?_
 refine HT.seq ?_;refine HT.region ?_;simp (disch := first|omega|(simp<;>omega)|fail) [wr3]
 refine stepK.mk (.call1f _ _ _ _ _ rfl Ty.hb117 rfl rfl (IndexB_spec r.brs n hl) rfl) ?_
 simp (disch := first|omega|(simp<;>omega)|fail) [wr3]
 refine HT.ret ?_;simp (disch := first|omega|(simp<;>omega)|fail) [wr3]
set_option maxRecDepth 20000 in
theorem Head_spec (r : Repo) (n : List UInt8) (hl : r.brs.length ≤ 1000000) : SpecT Tryz.prog 60 [.agg r.enc, .str n] [i64 (headV r n).1, bo (headV r n).2] := by
 refine SpecT.of_HT Tryz.func60 rfl (by rw [Tryz.ntmps60]; simp) (rs := [.tmp 4, .tmp 5]) rfl (by decide) ?_
 rw [Tryz.ntmps60]
 refine HT.seq ?_;refine HT.region ?_;simp (disch := first|omega|(simp<;>omega)|fail) [wr3]
 refine HT.seq ?_
 by_cases q : idxB r.brs n = none
 ·have hh := headV_none q
  have hx := idxBI_none q
  refine HT.region ?_;simp (disch := first|omega|(simp<;>omega)|fail) [wr3, hx]
  refine stepK.mk (.call1 _ _ _ _ rfl Ty.hb79 rfl (index_spec r n hl) rfl rfl) ?_
  simp (disch := first|omega|(simp<;>omega)|fail) [wr3, hx]
  refine HT.seq ?_;refine HT.seq ?_;refine HT.region ?_;simp (disch := first|omega|(simp<;>omega)|fail) [wr3]
  refine HT.cond' ?_;simp (disch := first|omega|(simp<;>omega)|fail) [wr3]
  refine HT.seq ?_;refine HT.region ?_;simp (disch := first|omega|(simp<;>omega)|fail) [wr3]
  refine HT.ret ?_;simp (disch := first|omega|(simp<;>omega)|fail) [wr3, hh]
 obtain ⟨i, hi⟩ := Option.ne_none_iff_exists'.1 q
 have hil := idxB_lt hi
 have hh := headV_some hi
 have hx := idxBI_some hi
 refine HT.region ?_;simp (disch := first|omega|(simp<;>omega)|fail) [wr3, hx]
 refine stepK.mk (.call1 _ _ _ _ rfl Ty.hb79 rfl (index_spec r n hl) rfl rfl) ?_
 simp (disch := first|omega|(simp<;>omega)|fail) [wr3, hx]
 refine HT.seq ?_;refine HT.seq ?_;refine HT.region ?_;simp (disch := first|omega|(simp<;>omega)|fail) [wr3]
 refine HT.cond' ?_;simp (disch := first|omega|(simp<;>omega)|fail) [wr3]
 refine HT.skip ?_;simp (disch := first|omega|(simp<;>omega)|fail) [wr3]
 refine HT.seq ?_;refine HT.region ?_;simp (disch := first|omega|(simp<;>omega)|fail) [wr3]
 refine HT.ret ?_;simp (disch := first|omega|(simp<;>omega)|fail) [wr3, hh]
set_option maxRecDepth 20000 in
theorem Files_spec (r : Repo) (n : List UInt8) (hn : r.brs.length ≤ 1000000) (hc : HistB r.commits) : SpecT Tryz.prog 36 [.agg r.enc, .str n] [.sl 2 false (filesHV (filesV r n).1), i64 (filesV r n).2] := by
 refine SpecT.of_HT Tryz.func36 rfl (by rw [Tryz.ntmps36]; simp) (rs := [.tmp 4, .tmp 5]) rfl (by decide) ?_
 rw [Tryz.ntmps36]
 refine HT.seq ?_;refine HT.region ?_;simp (disch := first|omega|(simp<;>omega)|fail) [wr3]
 refine HT.seq ?_
 by_cases q : idxB r.brs n = none
 ·have hh := headV_none q
  have hx := filesV_none q
  refine HT.region ?_;simp (disch := first|omega|(simp<;>omega)|fail) [wr3, hh]
  refine stepK.mk (.callTf _ _ _ _ _ rfl Ty.hb60 rfl rfl (Head_spec r n hn) rfl) ?_
  simp (disch := first|omega|(simp<;>omega)|fail) [wr3, hh]
  refine HT.seq ?_;refine HT.seq ?_;refine HT.region ?_;simp (disch := first|omega|(simp<;>omega)|fail) [wr3]
  refine HT.cond' ?_;simp (disch := first|omega|(simp<;>omega)|fail) [wr3]
  refine HT.seq ?_;refine HT.region ?_;simp (disch := first|omega|(simp<;>omega)|fail) [wr3]
  refine HT.weaken (HS.le_wk 4 (.sl 2 false []) (by decide) rfl rfl (HLe.nilf 0 2 true)) ?_
  refine HT.ret ?_;simp (disch := first|omega|(simp<;>omega)|fail) [wr3, hx]
 obtain ⟨i, hi⟩ := Option.ne_none_iff_exists'.1 q
 have hh := headV_some hi
 have hx := filesV_some hi
 refine HT.region ?_;simp (disch := first|omega|(simp<;>omega)|fail) [wr3, hh]
 refine stepK.mk (.callTf _ _ _ _ _ rfl Ty.hb60 rfl rfl (Head_spec r n hn) rfl) ?_
 simp (disch := first|omega|(simp<;>omega)|fail) [wr3, hh]
 refine HT.seq ?_;refine HT.seq ?_;refine HT.region ?_;simp (disch := first|omega|(simp<;>omega)|fail) [wr3]
 refine HT.cond' ?_;simp (disch := first|omega|(simp<;>omega)|fail) [wr3]
 refine HT.skip ?_;simp (disch := first|omega|(simp<;>omega)|fail) [wr3]
 refine HT.seq ?_;refine HT.region ?_;simp (disch := first|omega|(simp<;>omega)|fail) [wr3]
 refine stepK.mk (.callTf _ _ _ _ _ rfl Ty.hb61 rfl rfl (Tree_spec r.commits _ hc) rfl) ?_
 simp (disch := first|omega|(simp<;>omega)|fail) [wr3]
 refine HT.ret ?_;simp (disch := first|omega|(simp<;>omega)|fail) [wr3, hx]
section
variable {r : Repo} {k : Nat}
end
end Go.Hv
set_option linter.unusedVariables false
set_option linter.unusedSimpArgs false
/- Get, On, Keys and their like (layer 28). -/
namespace Go.Hv
open Go Go.Hv Go.Proofs Go.RowKit
open Go.Proofs.YtcmomegkhoggpaaGreatDoor
def zeroD : Doc := ⟨0, [], [], [], []⟩
def getDV (l : List Doc) (id : Int) : Doc := (getD' l id).getD zeroD
theorem getD_hit {l : List Doc} {id : Int} {k : Nat} (hk : k < l.length) (hg : UpTo (fun d => !decide (d.id = id)) l k) (h : l[k].id = id) : getD' l id = some l[k] := by
 unfold getD'
 rw [List.find?_eq_some_iff_getElem]
 refine ⟨by simpa using h, k, hk, rfl, fun j hj => ?_⟩
 exact hg j _ hj (List.getElem?_eq_getElem (by omega))
theorem getD_miss {l : List Doc} {id : Int} (hg : UpTo (fun d => !decide (d.id = id)) l l.length) : getD' l id = none := by
 unfold getD'
 rw [List.find?_eq_none]
 intro x hx
 obtain ⟨i, hi⟩ := List.mem_iff_getElem?.1 hx
 have := hg i x (getElem?_lt hi) hi
 simpa using this
theorem getDV_hit {l : List Doc} {id : Int} {d : Doc} (h : getD' l id = some d) : getDV l id = d := by unfold getDV; rw [h]; rfl
theorem getDV_miss {l : List Doc} {id : Int} (h : getD' l id = none) : getDV l id = zeroD := by unfold getDV; rw [h]; rfl
set_option maxRecDepth 20000 in
theorem dGet_spec (l : List Doc) (id : Int) (hn : l.length ≤ 1000000) : SpecT Tryz.prog 23 [.sl 5 false (docsHV l), i64 id] [.agg (getDV l id).enc, bo (getD' l id).isSome] := by
 refine SpecT.of_HT Tryz.func23 rfl (by rw [Tryz.ntmps23]; simp) (rs := [.cell 4 50, .tmp 5]) rfl (by decide) ?_
 rw [Tryz.ntmps23]
 refine HT.seq ?_;refine HT.region ?_;simp (disch := first|omega|(simp<;>omega)|fail) [wr3]
 refine HT.seq ?_;refine HT.seq ?_;refine HT.region ?_;simp (disch := first|omega|(simp<;>omega)|fail) [wr3]
 refine HT.block ?_;refine HT.loopK (fun k : {k : Nat // k ≤ l.length ∧ UpTo (fun d => !decide (d.id = id)) l k} => [.s 10 (i64 k)]) [1, 4, 8, 9] [4] (fun k => l.length - k) (⟨0, by omega, UpTo.zero _ _⟩) ?_ ?_
 ·simp (disch := first|omega|(simp<;>omega)|fail) [wr3]
 rintro ⟨k, hk, hg⟩
 simp (disch := first|omega|(simp<;>omega)|fail) [wr3]
 refine HT.seq ?_;refine HT.region ?_;simp (disch := first|omega|(simp<;>omega)|fail) [wr3]
 refine HT.seq ?_;refine HT.cond' ?_;simp (disch := first|omega|(simp<;>omega)|fail) [wr3]
 refine ⟨fun h11 => ?_, fun h11 => ?_⟩
 ·have hk' : k < l.length := by omega
  refine HT.skip ?_;simp (disch := first|omega|(simp<;>omega)|fail) [wr3]
  refine HT.seq ?_;refine HT.block ?_;refine HT.seq ?_;refine HT.region ?_;simp (disch := first|omega|(simp<;>omega)|fail) [wr3]
  refine HT.seq ?_;refine HT.region ?_;simp (disch := first|omega|(simp<;>omega)|fail) [wr3]
  refine HT.cond' ?_;simp (disch := first|omega|(simp<;>omega)|fail) [wr3]
  refine ⟨fun h17 => ?_, fun h17 => ?_⟩
  ·have hx := getD_hit hk' hg (by simpa using h17)
   refine HT.seq ?_;refine HT.region ?_;simp (disch := first|omega|(simp<;>omega)|fail) [wr3]
   refine HT.ret ?_;simp (disch := first|omega|(simp<;>omega)|fail) [wr3, getDV_hit hx, hx]
  ·refine HT.skip ?_;simp (disch := first|omega|(simp<;>omega)|fail) [wr3]
   refine HT.region ?_;simp (disch := first|omega|(simp<;>omega)|fail) [wr3]
   refine Round.mk' (⟨k + 1, by omega, hg.succ hk' (by simpa using h17)⟩) (by dsimp only; omega) rfl ?_
   simp (disch := first|omega|(simp<;>omega)|fail) [wr3]
 ·obtain rfl : k = l.length := by omega
  have hx := getD_miss hg
  refine HT.exit ?_
  simp (disch := first|omega|(simp<;>omega)|fail) [wr3]
  refine HT.seq ?_;refine HT.region ?_;simp (disch := first|omega|(simp<;>omega)|fail) [wr3]
  refine HT.weaken (HS.le_boxown 4 4 200 9 1 0 (by rfl) (by rfl) (by decide) (by decide)) ?_
  refine HT.weaken (HS.le_frzref (id := 200) (xr := .sl 1 false []) (xm := .any) (by simp)) ?_
  refine HT.ret ?_;simp (disch := first|omega|(simp<;>omega)|fail) [wr3, getDV_miss hx, hx, zeroD]
set_option maxRecDepth 20000 in
theorem refGet_spec (l : List Doc) (id : Int) (hn : l.length ≤ 1000000) : SpecT Tryz.prog 24 [.sl 5 false (docsHV l), i64 id] [.agg (getDV l id).enc, bo (getD' l id).isSome] := by
 refine SpecT.of_HT Tryz.func24 rfl (by rw [Tryz.ntmps24]; simp) (rs := [.cell 4 50, .tmp 5]) rfl (by decide) ?_
 rw [Tryz.ntmps24]
 refine HT.seq ?_;refine HT.region ?_;simp (disch := first|omega|(simp<;>omega)|fail) [wr3]
 refine HT.seq ?_;refine HT.seq ?_;refine HT.region ?_;simp (disch := first|omega|(simp<;>omega)|fail) [wr3]
 refine HT.block ?_;refine HT.loopK (fun k : {k : Nat // k ≤ l.length ∧ UpTo (fun d => !decide (d.id = id)) l k} => [.s 6 (i64 k)]) [0, 1, 4] [4] (fun k => l.length - k) (⟨0, by omega, UpTo.zero _ _⟩) ?_ ?_
 ·simp (disch := first|omega|(simp<;>omega)|fail) [wr3]
 rintro ⟨k, hk, hg⟩
 simp (disch := first|omega|(simp<;>omega)|fail) [wr3]
 refine HT.seq ?_;refine HT.seq ?_;refine HT.region ?_;simp (disch := first|omega|(simp<;>omega)|fail) [wr3]
 refine HT.cond' ?_;simp (disch := first|omega|(simp<;>omega)|fail) [wr3]
 refine ⟨fun h10 => ?_, fun h10 => ?_⟩
 ·have hk' : k < l.length := by omega
  refine HT.skip ?_;simp (disch := first|omega|(simp<;>omega)|fail) [wr3]
  refine HT.seq ?_;refine HT.block ?_;refine HT.seq ?_;refine HT.region ?_;simp (disch := first|omega|(simp<;>omega)|fail) [wr3]
  refine HT.cond' ?_;simp (disch := first|omega|(simp<;>omega)|fail) [wr3]
  refine ⟨fun h19 => ?_, fun h19 => ?_⟩
  ·have hx := getD_hit hk' hg (by simpa using h19)
   refine HT.seq ?_;refine HT.region ?_;simp (disch := first|omega|(simp<;>omega)|fail) [wr3]
   refine HT.ret ?_;simp (disch := first|omega|(simp<;>omega)|fail) [wr3, getDV_hit hx, hx]
  ·refine HT.skip ?_;simp (disch := first|omega|(simp<;>omega)|fail) [wr3]
   refine HT.region ?_;simp (disch := first|omega|(simp<;>omega)|fail) [wr3]
   refine Round.mk' (⟨k + 1, by omega, hg.succ hk' (by simpa using h19)⟩) (by dsimp only; omega) rfl ?_
   simp (disch := first|omega|(simp<;>omega)|fail) [wr3]
 ·obtain rfl : k = l.length := by omega
  have hx := getD_miss hg
  refine HT.exit ?_
  simp (disch := first|omega|(simp<;>omega)|fail) [wr3]
  refine HT.seq ?_;refine HT.region ?_;simp (disch := first|omega|(simp<;>omega)|fail) [wr3]
  refine HT.weaken (HS.le_boxown 4 4 200 9 1 0 (by rfl) (by rfl) (by decide) (by decide)) ?_
  refine HT.weaken (HS.le_frzref (id := 200) (xr := .sl 1 false []) (xm := .any) (by simp)) ?_
  refine HT.ret ?_;simp (disch := first|omega|(simp<;>omega)|fail) [wr3, getDV_miss hx, hx, zeroD]
def sIdxV (l : List (List UInt8)) (c : List UInt8) : Int := match l.findIdx? (fun x => decide (x = c)) with
 | some i => (i : Int)
 | none => -1
theorem sIdxV_hit {l : List (List UInt8)} {c : List UInt8} {k : Nat} (hk : k < l.length) (hg : UpTo (fun x => !decide (x = c)) l k) (h : l[k] = c) : sIdxV l c = k := by
 unfold sIdxV
 rw [List.findIdx?_eq_some_iff_getElem.2 ⟨hk, by simpa using h, fun j hj => ?_⟩]
 have := hg j _ hj (List.getElem?_eq_getElem (by omega))
 simpa using this
theorem sIdxV_miss {l : List (List UInt8)} {c : List UInt8} (hg : UpTo (fun x => !decide (x = c)) l l.length) : sIdxV l c = -1 := by
 unfold sIdxV
 rw [List.findIdx?_eq_none_iff.2 fun x hx => ?_]
 obtain ⟨i, hi⟩ := List.mem_iff_getElem?.1 hx
 have := hg i x (getElem?_lt hi) hi
 simpa using this
theorem sIdxV_in (l : List (List UInt8)) (c : List UInt8) : decide (0 ≤ sIdxV l c) = decide (c ∈ l) := by
 rw [decide_eq_decide]
 unfold sIdxV
 cases h : l.findIdx? (fun x => decide (x = c)) with
 | none =>
  rw [List.findIdx?_eq_none_iff] at h
  simp only
  constructor
  ·intro h; omega
  ·intro hm; have := h c hm; simp at this
 | some i =>
  obtain ⟨h1, h2, _⟩ := List.findIdx?_eq_some_iff_getElem.1 h
  simp only
  constructor
  ·intro _; have : l[i] = c := by simpa using h2
   exact this ▸ List.getElem_mem h1
  ·intro _; omega
theorem IndexSt_spec (l : List (List UInt8)) (c : List UInt8) (hl : l.length ≤ 140737488355328) : Spec1 Tryz.prog 78 [.sl 1 false (strsHV l), .str c] (i64 (sIdxV l c)) := by
 refine Spec1.of_HT Tryz.func78 rfl (by rw [Tryz.ntmps78]; simp) rfl ?_
 rw [Tryz.ntmps78]
 refine HT.seq ?_;refine HT.region ?_;simp (disch := first|omega|(simp<;>omega)|fail) [wr3]
 refine HT.seq ?_;refine HT.seq ?_;refine HT.region ?_;simp (disch := first|omega|(simp<;>omega)|fail) [wr3]
 refine HT.block ?_;refine HT.loopK (fun k : {k : Nat // k ≤ l.length ∧ UpTo (fun x => !decide (x = c)) l k} => [.s 8 (i64 k)]) [0, 1, 7] [] (fun k => l.length - k) (⟨0, by omega, UpTo.zero _ _⟩) ?_ ?_
 ·simp (disch := first|omega|(simp<;>omega)|fail) [wr3]
 rintro ⟨k, hk, hg⟩
 simp (disch := first|omega|(simp<;>omega)|fail) [wr3]
 refine HT.seq ?_;refine HT.region ?_;simp (disch := first|omega|(simp<;>omega)|fail) [wr3]
 refine HT.seq ?_;refine HT.cond' ?_;simp (disch := first|omega|(simp<;>omega)|fail) [wr3]
 refine ⟨fun h9 => ?_, fun h9 => ?_⟩
 ·have hk' : k < l.length := by omega
  refine HT.skip ?_;simp (disch := first|omega|(simp<;>omega)|fail) [wr3]
  refine HT.seq ?_;refine HT.block ?_;refine HT.seq ?_;refine HT.region ?_;simp (disch := first|omega|(simp<;>omega)|fail) [wr3]
  refine HT.seq ?_;refine HT.region ?_;simp (disch := first|omega|(simp<;>omega)|fail) [wr3]
  refine HT.cond' ?_;simp (disch := first|omega|(simp<;>omega)|fail) [wr3]
  refine ⟨fun h16 => ?_, fun h16 => ?_⟩
  ·refine HT.seq ?_;refine HT.region ?_;simp (disch := first|omega|(simp<;>omega)|fail) [wr3]
   refine HT.ret ?_;simp (disch := first|omega|(simp<;>omega)|fail) [wr3, sIdxV_hit hk' hg (by simpa using h16.symm)]
  ·refine HT.skip ?_;simp (disch := first|omega|(simp<;>omega)|fail) [wr3]
   refine HT.region ?_;simp (disch := first|omega|(simp<;>omega)|fail) [wr3]
   refine Round.mk' (⟨k + 1, by omega, hg.succ hk' (by simpa using fun e : l[k] = c => h16 e.symm)⟩) (by dsimp only; omega) rfl ?_
   simp (disch := first|omega|(simp<;>omega)|fail) [wr3]
 ·obtain rfl : k = l.length := by omega
  refine HT.exit ?_
  simp (disch := first|omega|(simp<;>omega)|fail) [wr3]
  refine HT.seq ?_;refine HT.region ?_;simp (disch := first|omega|(simp<;>omega)|fail) [wr3]
  refine HT.ret ?_;simp (disch := first|omega|(simp<;>omega)|fail) [wr3, sIdxV_miss hg]
set_option maxRecDepth 20000 in
theorem ContainsSt_spec (l : List (List UInt8)) (c : List UInt8) (hl : l.length ≤ 140737488355328) : Spec1 Tryz.prog 59 [.sl 1 false (strsHV l), .str c] (bo (decide (c ∈ l))) := by
 refine Spec1.of_HT Tryz.func59 rfl (by rw [Tryz.ntmps59]; simp) rfl ?_
 rw [Tryz.ntmps59]
 refine HT.seq ?_;refine HT.region ?_;simp (disch := first|omega|(simp<;>omega)|fail) [wr3]
 refine HT.seq ?_;refine HT.region ?_;simp (disch := first|omega|(simp<;>omega)|fail) [wr3]
 refine stepK.mk (.call1 _ _ _ _ rfl Ty.hb78 rfl (IndexSt_spec l c hl) rfl rfl) ?_
 simp (disch := first|omega|(simp<;>omega)|fail) [wr3]
 refine HT.ret ?_
 have h := decide_eq_decide.1 (sIdxV_in l c)
 simp (disch := first|omega|(simp<;>omega)|fail) [wr3, h]
theorem onB_step (l : List Doc) (n b : List UInt8) {k : Nat} (hk : k < l.length) : onB (l.take (k + 1)) n b = onB (l.take k) n b ++ (if (decide (l[k].repo = n) && decide (b ∈ l[k].on)) = true then [l[k]] else []) := by
 unfold onB
 rw [List.take_succ_eq_append_getElem hk, List.filter_append]
 congr 1
 cases h : (decide (l[k].repo = n) && decide (b ∈ l[k].on)) <;> simp [List.filter_cons, h]
theorem onB_len (l : List Doc) (n b : List UInt8) (k : Nat) : (onB (l.take k) n b).length ≤ k := by
 unfold onB
 have := List.length_filter_le (fun d : Doc => decide (d.repo = n) && decide (b ∈ d.on)) (l.take k)
 rw [List.length_take] at this
 omega
theorem inTake {l : List (List UInt8)} {b : List UInt8} {j : Nat} (hj : j < l.length) : (decide (b ∈ l.take j) || decide (l[j] = b)) = decide (b ∈ l.take (j + 1)) := by
 rw [List.take_succ_eq_append_getElem hj, ← Bool.decide_or, decide_eq_decide, List.mem_append, List.mem_singleton]
 exact ⟨fun h => h.imp id Eq.symm, fun h => h.imp id Eq.symm⟩
set_option maxRecDepth 20000 in
theorem dOn_spec (l : List Doc) (n b : List UInt8) (hn : l.length ≤ 1000000) (hl : ∀ d ∈ l, DocQ d) : Spec1 Tryz.prog 26 [.sl 5 false (docsHV l), .str n, .str b] (.sl 5 false (docsHV (onB l n b))) := by
 refine Spec1.of_HT Tryz.func26 rfl (by rw [Tryz.ntmps26]; simp) rfl ?_
 rw [Tryz.ntmps26]
 refine HT.seq ?_;refine HT.region ?_;simp (disch := first|omega|(simp<;>omega)|fail) [wr3]
 refine HT.seq ?_;refine HT.region ?_;simp (disch := first|omega|(simp<;>omega)|fail) [wr3]
 refine HT.weaken (HS.le_own (t := 7) 200 50 5 _ (by decide) rfl (by decide)) ?_
 refine HT.seq ?_;refine HT.seq ?_;refine HT.region ?_;simp (disch := first|omega|(simp<;>omega)|fail) [wr3]
 refine HT.block ?_;refine HT.loopK (fun k : {k : Nat // k ≤ l.length} => [.s 12 (i64 k), .s 7 (.ref 200), .o 200 (.row 50 5 (docsHV (onB (l.take k) n b)))]) [1, 2, 10, 11] [] (fun k => l.length - k) (⟨0, by omega⟩) ?_ ?_
 ·simp (disch := first|omega|(simp<;>omega)|fail) [wr3, onB]
 rintro ⟨k, hk⟩
 simp (disch := first|omega|(simp<;>omega)|fail) [wr3]
 refine HT.seq ?_;refine HT.region ?_;simp (disch := first|omega|(simp<;>omega)|fail) [wr3]
 refine HT.seq ?_;refine HT.cond' ?_;simp (disch := first|omega|(simp<;>omega)|fail) [wr3]
 refine ⟨fun h13 => ?_, fun h13 => ?_⟩
 ·have hk' : k < l.length := by omega
  have hq := hl _ (List.getElem_mem hk')
  have hol := onB_len l n b k
  have hst := onB_step l n b hk'
  refine HT.skip ?_;simp (disch := first|omega|(simp<;>omega)|fail) [wr3]
  refine HT.seq ?_;refine HT.block ?_;refine HT.seq ?_;refine HT.region ?_;simp (disch := first|omega|(simp<;>omega)|fail) [wr3]
  refine HT.seq ?_
  by_cases c1 : ¬ l[k].repo = n
  ·have c2 := c1
   refine HT.region ?_;simp (disch := first|omega|(simp<;>omega)|fail) [wr3, c1]
   refine HT.cond' ?_;simp (disch := first|omega|(simp<;>omega)|fail) [wr3]
   refine HT.skip ?_;simp (disch := first|omega|(simp<;>omega)|fail) [wr3]
   refine HT.region ?_;simp (disch := first|omega|(simp<;>omega)|fail) [wr3]
   refine Round.mk' (⟨k + 1, by omega⟩) (by dsimp only; omega) rfl ?_
   simp (disch := first|omega|(simp<;>omega)|fail) [wr3, hst, c1, c2]
  rw [Classical.not_not] at c1
  obtain rfl := c1
  have c1 : True := trivial
  by_cases c2 : ¬ b ∈ l[k].on
  ·refine HT.region ?_;simp (disch := first|omega|(simp<;>omega)|fail) [wr3, c1, c2]
   refine stepK.mk (.call1 _ _ _ _ rfl Ty.hb59 rfl (ContainsSt_spec l[k].on b hq.2.2.2.1) rfl rfl) ?_
   simp (disch := first|omega|(simp<;>omega)|fail) [wr3, c1, c2]
   refine HT.cond' ?_;simp (disch := first|omega|(simp<;>omega)|fail) [wr3]
   refine HT.skip ?_;simp (disch := first|omega|(simp<;>omega)|fail) [wr3]
   refine HT.region ?_;simp (disch := first|omega|(simp<;>omega)|fail) [wr3]
   refine Round.mk' (⟨k + 1, by omega⟩) (by dsimp only; omega) rfl ?_
   simp (disch := first|omega|(simp<;>omega)|fail) [wr3, hst, c1, c2]
  rw [Classical.not_not] at c2
  refine HT.region ?_;simp (disch := first|omega|(simp<;>omega)|fail) [wr3, c1, c2]
  refine stepK.mk (.call1 _ _ _ _ rfl Ty.hb59 rfl (ContainsSt_spec l[k].on b hq.2.2.2.1) rfl rfl) ?_
  simp (disch := first|omega|(simp<;>omega)|fail) [wr3, c1, c2]
  refine HT.cond' ?_;simp (disch := first|omega|(simp<;>omega)|fail) [wr3]
  refine HT.region ?_;simp (disch := first|omega|(simp<;>omega)|fail) [wr3]
  refine HT.region ?_;simp (disch := first|omega|(simp<;>omega)|fail) [wr3]
  refine Round.mk' (⟨k + 1, by omega⟩) (by dsimp only; omega) rfl ?_
  simp (disch := first|omega|(simp<;>omega)|fail) [wr3, hst, c1, c2]
 ·obtain rfl : k = l.length := by omega
  refine HT.exit ?_
  simp (disch := first|omega|(simp<;>omega)|fail) [wr3]
  refine HT.seq ?_;refine HT.region ?_;simp (disch := first|omega|(simp<;>omega)|fail) [wr3]
  refine HT.ret ?_;simp (disch := first|omega|(simp<;>omega)|fail) [wr3]
set_option maxRecDepth 20000 in
set_option maxHeartbeats 2000000 in
theorem refOn_spec (l : List Doc) (n b : List UInt8) (hn : l.length ≤ 1000000) (hl : ∀ d ∈ l, DocQ d) : Spec1 Tryz.prog 27 [.sl 5 false (docsHV l), .str n, .str b] (.sl 5 false (docsHV (onB l n b))) := by
 refine Spec1.of_HT Tryz.func27 rfl (by rw [Tryz.ntmps27]; simp) rfl ?_
 rw [Tryz.ntmps27]
 refine HT.seq ?_;refine HT.region ?_;simp (disch := first|omega|(simp<;>omega)|fail) [wr3]
 refine HT.seq ?_;refine HT.region ?_;simp (disch := first|omega|(simp<;>omega)|fail) [wr3]
 refine HT.weaken (HS.le_own (t := 7) 200 50 5 _ (by decide) rfl (by decide)) ?_
 refine HT.seq ?_;refine HT.seq ?_;refine HT.region ?_;simp (disch := first|omega|(simp<;>omega)|fail) [wr3]
 refine HT.block ?_;refine HT.loopK (fun k : {k : Nat // k ≤ l.length} => [.s 8 (i64 k), .s 7 (.ref 200), .o 200 (.row 50 5 (docsHV (onB (l.take k) n b)))]) [0, 1, 2] [] (fun k => l.length - k) (⟨0, by omega⟩) ?_ ?_
 ·simp (disch := first|omega|(simp<;>omega)|fail) [wr3, onB]
 rintro ⟨k, hk⟩
 simp (disch := first|omega|(simp<;>omega)|fail) [wr3]
 refine HT.seq ?_;refine HT.seq ?_;refine HT.region ?_;simp (disch := first|omega|(simp<;>omega)|fail) [wr3]
 refine HT.cond' ?_;simp (disch := first|omega|(simp<;>omega)|fail) [wr3]
 refine ⟨fun h14 => ?_, fun h14 => ?_⟩
 ·have hk' : k < l.length := by omega
  have hq := hl _ (List.getElem_mem hk')
  have hql := hq.2.2.2.1
  have hol := onB_len l n b k
  have hst := onB_step l n b hk'
  refine HT.skip ?_;simp (disch := first|omega|(simp<;>omega)|fail) [wr3]
  refine HT.seq ?_;refine HT.block ?_;refine HT.seq ?_;refine HT.region ?_;simp (disch := first|omega|(simp<;>omega)|fail) [wr3]
  refine HT.seq ?_;refine HT.seq ?_;refine HT.region ?_;simp (disch := first|omega|(simp<;>omega)|fail) [wr3]
  refine HT.block ?_;refine HT.loopK (fun y : {y : Nat × Bool // y.1 ≤ l[k].on.length ∧ y.2 = decide (b ∈ l[k].on.take y.1)} => [.s 10 (i64 y.1.1), .s 9 (bo y.1.2), .s 7 (.ref 200), .o 200 (.row 50 5 (docsHV (onB (l.take k) n b)))]) [0, 1, 2, 8, 42, 43, 44, 45, 46, 47, 48] [] (fun y => l[k].on.length - y.1.1) (⟨⟨0, false⟩, by simp, by simp⟩) ?_ ?_
  ·simp (disch := first|omega|(simp<;>omega)|fail) [wr3]
  rintro ⟨⟨j, inn⟩, hj, hi⟩
  simp (disch := first|omega|(simp<;>omega)|fail) [wr3]
  refine HT.seq ?_;refine HT.seq ?_;refine HT.region ?_;simp (disch := first|omega|(simp<;>omega)|fail) [wr3]
  refine HT.cond' ?_;simp (disch := first|omega|(simp<;>omega)|fail) [wr3]
  refine ⟨fun h24 => ?_, fun h24 => ?_⟩
  ·dsimp only at hj hi
   have hj' : j < l[k].on.length := by omega
   have hin := inTake (b := b) hj'
   rw [← hi] at hin
   refine HT.skip ?_;simp (disch := first|omega|(simp<;>omega)|fail) [wr3]
   refine HT.seq ?_;refine HT.block ?_
   by_cases d1 : inn = true
   ·subst d1
    refine HT.region ?_;simp (disch := first|omega|(simp<;>omega)|fail) [wr3]
    refine HT.region ?_;simp (disch := first|omega|(simp<;>omega)|fail) [wr3]
    refine Round.mk' (⟨⟨j + 1, decide (b ∈ l[k].on.take (j + 1))⟩, by dsimp only; omega, rfl⟩) (by dsimp only; omega) rfl ?_
    simp (disch := first|omega|(simp<;>omega)|fail) [wr3, ← hin]
   obtain rfl : inn = false := by simpa using d1
   refine HT.region ?_;simp (disch := first|omega|(simp<;>omega)|fail) [wr3]
   refine HT.region ?_;simp (disch := first|omega|(simp<;>omega)|fail) [wr3]
   refine Round.mk' (⟨⟨j + 1, decide (b ∈ l[k].on.take (j + 1))⟩, by dsimp only; omega, rfl⟩) (by dsimp only; omega) rfl ?_
   simp (disch := first|omega|(simp<;>omega)|fail) [wr3, ← hin]
  ·dsimp only at hj hi
   obtain rfl : j = l[k].on.length := by omega
   rw [List.take_length] at hi
   refine HT.exit ?_
   simp (disch := first|omega|(simp<;>omega)|fail) [wr3]
   refine HT.seq ?_
   by_cases c2 : ¬ b ∈ l[k].on
   ·have hi2 : inn = false := by rw [hi]; exact decide_eq_false c2
    subst hi2
    have c1 : True := trivial
    refine HT.region ?_;simp (disch := first|omega|(simp<;>omega)|fail) [wr3]
    refine HT.cond' ?_;simp (disch := first|omega|(simp<;>omega)|fail) [wr3]
    refine HT.skip ?_;simp (disch := first|omega|(simp<;>omega)|fail) [wr3]
    refine HT.region ?_;simp (disch := first|omega|(simp<;>omega)|fail) [wr3]
    refine Round.mk' (⟨k + 1, by omega⟩) (by dsimp only; omega) rfl ?_
    simp (disch := first|omega|(simp<;>omega)|fail) [wr3, hst, c1, c2]
   rw [Classical.not_not] at c2
   have hi2 : inn = true := by rw [hi]; exact decide_eq_true c2
   subst hi2
   by_cases c1 : ¬ l[k].repo = n
   ·refine HT.region ?_;simp (disch := first|omega|(simp<;>omega)|fail) [wr3, c1]
    refine HT.cond' ?_;simp (disch := first|omega|(simp<;>omega)|fail) [wr3]
    refine HT.skip ?_;simp (disch := first|omega|(simp<;>omega)|fail) [wr3]
    refine HT.region ?_;simp (disch := first|omega|(simp<;>omega)|fail) [wr3]
    refine Round.mk' (⟨k + 1, by omega⟩) (by dsimp only; omega) rfl ?_
    simp (disch := first|omega|(simp<;>omega)|fail) [wr3, hst, c1, c2]
   rw [Classical.not_not] at c1
   obtain rfl := c1
   have c1 : True := trivial
   refine HT.region ?_;simp (disch := first|omega|(simp<;>omega)|fail) [wr3, c1, c2]
   refine HT.cond' ?_;simp (disch := first|omega|(simp<;>omega)|fail) [wr3]
   refine HT.region ?_;simp (disch := first|omega|(simp<;>omega)|fail) [wr3]
   refine HT.region ?_;simp (disch := first|omega|(simp<;>omega)|fail) [wr3]
   refine Round.mk' (⟨k + 1, by omega⟩) (by dsimp only; omega) rfl ?_
   simp (disch := first|omega|(simp<;>omega)|fail) [wr3, hst, c1, c2]
 ·obtain rfl : k = l.length := by omega
  refine HT.exit ?_
  simp (disch := first|omega|(simp<;>omega)|fail) [wr3]
  refine HT.seq ?_;refine HT.region ?_;simp (disch := first|omega|(simp<;>omega)|fail) [wr3]
  refine HT.ret ?_;simp (disch := first|omega|(simp<;>omega)|fail) [wr3]
end Go.Hv
set_option linter.unusedVariables false
set_option linter.unusedSimpArgs false
/- Keys, find, count, insert and their like (layer 28). -/
namespace Go.Hv
open Go Go.Hv Go.Proofs Go.RowKit
open Go.Proofs.YtcmomegkhoggpaaGreatDoor
theorem keys_step (l : List Doc) {k : Nat} (hk : k < l.length) : (l.map keyV).take k ++ [(l[k].repo, l[k].path, l[k].text)] = (l.map keyV).take (k + 1) := by
 rw [List.take_succ_eq_append_getElem (by simpa using hk), List.getElem_map]; rfl
theorem keys_take_len (l : List Doc) {k : Nat} (hk : k ≤ l.length) : ((l.map keyV).take k).length = k := by rw [List.length_take, List.length_map]; omega
set_option maxRecDepth 20000 in
theorem dKeys_spec (l : List Doc) (hn : l.length ≤ 1000000) : Spec1 Tryz.prog 29 [.sl 5 false (docsHV l)] (.sl 3 false (keysHV (l.map keyV))) := by
 refine Spec1.of_HT Tryz.func29 rfl (by rw [Tryz.ntmps29]; simp) rfl ?_
 rw [Tryz.ntmps29]
 refine HT.seq ?_;refine HT.region ?_;simp (disch := first|omega|(simp<;>omega)|fail) [wr3]
 refine HT.seq ?_;refine HT.region ?_;simp (disch := first|omega|(simp<;>omega)|fail) [wr3]
 refine HT.weaken (HS.le_own (t := 3) 200 63 3 _ (by decide) rfl (by decide)) ?_
 refine HT.seq ?_;refine HT.seq ?_;refine HT.region ?_;simp (disch := first|omega|(simp<;>omega)|fail) [wr3]
 refine HT.block ?_;refine HT.loopK (fun k : {k : Nat // k ≤ l.length} => [.s 8 (i64 k), .s 3 (.ref 200), .o 200 (.row 63 3 (keysHV ((l.map keyV).take k)))]) [6, 7] [] (fun k => l.length - k) (⟨0, by omega⟩) ?_ ?_
 ·simp (disch := first|omega|(simp<;>omega)|fail) [wr3]
 rintro ⟨k, hk⟩
 simp (disch := first|omega|(simp<;>omega)|fail) [wr3]
 refine HT.seq ?_;refine HT.region ?_;simp (disch := first|omega|(simp<;>omega)|fail) [wr3]
 refine HT.seq ?_;refine HT.cond' ?_;simp (disch := first|omega|(simp<;>omega)|fail) [wr3]
 refine ⟨fun h9 => ?_, fun h9 => ?_⟩
 ·have hk' : k < l.length := by omega
  have hol := keys_take_len l hk
  refine HT.skip ?_;simp (disch := first|omega|(simp<;>omega)|fail) [wr3]
  refine HT.seq ?_;refine HT.block ?_;refine HT.seq ?_;refine HT.region ?_;simp (disch := first|omega|(simp<;>omega)|fail) [wr3]
  refine HT.region ?_;simp (disch := first|omega|(simp<;>omega)|fail) [wr3]
  refine stepK.mk (.call1f _ _ _ _ _ rfl Ty.hb40 rfl rfl (key_spec l[k]) rfl) ?_
  simp (disch := first|omega|(simp<;>omega)|fail) [wr3]
  refine HT.region ?_;simp (disch := first|omega|(simp<;>omega)|fail) [wr3]
  refine Round.mk' (⟨k + 1, by omega⟩) (by dsimp only; omega) rfl ?_
  simp (disch := first|omega|(simp<;>omega)|fail) [wr3, keys_step l hk']
 ·obtain rfl : k = l.length := by omega
  have he : (l.map keyV).take l.length = l.map keyV := List.take_of_length_le (by simp)
  refine HT.exit ?_
  simp (disch := first|omega|(simp<;>omega)|fail) [wr3]
  refine HT.seq ?_;refine HT.region ?_;simp (disch := first|omega|(simp<;>omega)|fail) [wr3]
  refine HT.ret ?_;simp (disch := first|omega|(simp<;>omega)|fail) [wr3, he]
set_option maxRecDepth 20000 in
theorem rKeys_spec (l : List Doc) (hn : l.length ≤ 1000000) : Spec1 Tryz.prog 30 [.sl 5 false (docsHV l)] (.sl 3 false (keysHV (l.map keyV))) := by
 refine Spec1.of_HT Tryz.func30 rfl (by rw [Tryz.ntmps30]; simp) rfl ?_
 rw [Tryz.ntmps30]
 refine HT.seq ?_;refine HT.region ?_;simp (disch := first|omega|(simp<;>omega)|fail) [wr3]
 refine HT.seq ?_;refine HT.region ?_;simp (disch := first|omega|(simp<;>omega)|fail) [wr3]
 refine HT.weaken (HS.le_own (t := 3) 200 63 3 _ (by decide) rfl (by decide)) ?_
 refine HT.seq ?_;refine HT.seq ?_;refine HT.region ?_;simp (disch := first|omega|(simp<;>omega)|fail) [wr3]
 refine HT.block ?_;refine HT.loopK (fun k : {k : Nat // k ≤ l.length} => [.s 4 (i64 k), .s 3 (.ref 200), .o 200 (.row 63 3 (keysHV ((l.map keyV).take k)))]) [0] [] (fun k => l.length - k) (⟨0, by omega⟩) ?_ ?_
 ·simp (disch := first|omega|(simp<;>omega)|fail) [wr3]
 rintro ⟨k, hk⟩
 simp (disch := first|omega|(simp<;>omega)|fail) [wr3]
 refine HT.seq ?_;refine HT.seq ?_;refine HT.region ?_;simp (disch := first|omega|(simp<;>omega)|fail) [wr3]
 refine HT.cond' ?_;simp (disch := first|omega|(simp<;>omega)|fail) [wr3]
 refine ⟨fun h8 => ?_, fun h8 => ?_⟩
 ·have hk' : k < l.length := by omega
  have hol := keys_take_len l hk
  refine HT.skip ?_;simp (disch := first|omega|(simp<;>omega)|fail) [wr3]
  refine HT.seq ?_;refine HT.block ?_;refine HT.region ?_;simp (disch := first|omega|(simp<;>omega)|fail) [wr3]
  refine stepK.mk (.call1f _ _ _ _ _ rfl Ty.hb34 rfl rfl (rKey_spec l[k]) rfl) ?_
  simp (disch := first|omega|(simp<;>omega)|fail) [wr3]
  refine HT.region ?_;simp (disch := first|omega|(simp<;>omega)|fail) [wr3]
  refine Round.mk' (⟨k + 1, by omega⟩) (by dsimp only; omega) rfl ?_
  simp (disch := first|omega|(simp<;>omega)|fail) [wr3, keys_step l hk']
 ·obtain rfl : k = l.length := by omega
  have he : (l.map keyV).take l.length = l.map keyV := List.take_of_length_le (by simp)
  refine HT.exit ?_
  simp (disch := first|omega|(simp<;>omega)|fail) [wr3]
  refine HT.seq ?_;refine HT.region ?_;simp (disch := first|omega|(simp<;>omega)|fail) [wr3]
  refine HT.ret ?_;simp (disch := first|omega|(simp<;>omega)|fail) [wr3, he]
set_option maxRecDepth 20000 in
theorem SameKeys_spec (a b : List KeyT) (ha : a.length ≤ 1000000) (hb : b.length ≤ 1000000) (hA : ∀ k ∈ a, KB k) (hB : ∀ k ∈ b, KB k) : Spec1 Tryz.prog 28 [.sl 3 false (keysHV a), .sl 3 false (keysHV b)] (bo (decide (a = b))) := by
 refine Spec1.of_HT Tryz.func28 rfl (by rw [Tryz.ntmps28]; simp) rfl ?_
 rw [Tryz.ntmps28]
 refine HT.seq ?_;refine HT.region ?_;simp (disch := first|omega|(simp<;>omega)|fail) [wr3]
 refine HT.seq ?_;refine HT.seq ?_
 by_cases c1 : ¬ a.length = b.length
 ·refine HT.region ?_;simp (disch := first|omega|(simp<;>omega)|fail) [wr3]
  refine HT.cond' ?_;simp (disch := first|omega|(simp<;>omega)|fail) [wr3]
  refine HT.seq ?_;refine HT.region ?_;simp (disch := first|omega|(simp<;>omega)|fail) [wr3]
  refine HT.ret ?_;simp (disch := first|omega|(simp<;>omega)|fail) [wr3, ne_len c1]
 refine HT.region ?_;simp (disch := first|omega|(simp<;>omega)|fail) [wr3]
 refine HT.cond' ?_;simp (disch := first|omega|(simp<;>omega)|fail) [wr3]
 refine HT.skip ?_;simp (disch := first|omega|(simp<;>omega)|fail) [wr3]
 refine HT.seq ?_;refine HT.seq ?_;refine HT.region ?_;simp (disch := first|omega|(simp<;>omega)|fail) [wr3]
 refine HT.block ?_;refine HT.loopK (fun k : {k : Nat // k ≤ a.length ∧ ∀ i, i < k → a[i]? = b[i]?} => [.s 5 (i64 k)]) [0, 1] [] (fun k => a.length - k) (⟨0, by omega, by intro i hi; omega⟩) ?_ ?_
 ·simp (disch := first|omega|(simp<;>omega)|fail) [wr3]
 rintro ⟨k, hk, hg⟩
 simp (disch := first|omega|(simp<;>omega)|fail) [wr3]
 refine HT.seq ?_;refine HT.seq ?_;refine HT.region ?_;simp (disch := first|omega|(simp<;>omega)|fail) [wr3]
 refine HT.cond' ?_;simp (disch := first|omega|(simp<;>omega)|fail) [wr3]
 refine ⟨fun h14 => ?_, fun h14 => ?_⟩
 ·have hk' : k < a.length := by omega
  have hkb : k < b.length := by omega
  have hke := aggEq85 (hA _ (List.getElem_mem hk')) (hB _ (List.getElem_mem hkb))
  refine HT.skip ?_;simp (disch := first|omega|(simp<;>omega)|fail) [wr3]
  refine HT.seq ?_;refine HT.block ?_;refine HT.seq ?_
  by_cases d1 : ¬ a[k] = b[k]
  ·have hq2 := eq_false d1
   refine HT.draw [.batch [0, 1, 2, 3, 4, 5, 6, 7, 8]] (by kernel_rfl) ?_
   simp (disch := first|omega|(simp<;>omega)|fail) [wr3, hke, hq2]
   refine HT.cond' ?_;simp (disch := first|omega|(simp<;>omega)|fail) [wr3]
   refine HT.seq ?_;refine HT.region ?_;simp (disch := first|omega|(simp<;>omega)|fail) [wr3]
   refine HT.ret ?_
   have hx : ¬ a = b := fun e => d1 (by simp only [e])
   simp (disch := first|omega|(simp<;>omega)|fail) [wr3, hx]
  rw [Classical.not_not] at d1
  have hq2 := eq_true d1
  refine HT.draw [.batch [0, 1, 2, 3, 4, 5, 6, 7, 8]] (by kernel_rfl) ?_
  simp (disch := first|omega|(simp<;>omega)|fail) [wr3, hke, hq2]
  refine HT.cond' ?_;simp (disch := first|omega|(simp<;>omega)|fail) [wr3]
  refine HT.skip ?_;simp (disch := first|omega|(simp<;>omega)|fail) [wr3]
  refine HT.region ?_;simp (disch := first|omega|(simp<;>omega)|fail) [wr3]
  refine Round.mk' (⟨k + 1, by omega, agreeX hg (by rw [List.getElem?_eq_getElem hk', List.getElem?_eq_getElem hkb, d1])⟩) (by dsimp only; omega) rfl ?_
  simp (disch := first|omega|(simp<;>omega)|fail) [wr3]
 ·obtain rfl : k = a.length := by omega
  have he : a = b := extX (by omega) hg
  refine HT.exit ?_
  simp (disch := first|omega|(simp<;>omega)|fail) [wr3]
  refine HT.seq ?_;refine HT.region ?_;simp (disch := first|omega|(simp<;>omega)|fail) [wr3]
  refine HT.ret ?_;simp (disch := first|omega|(simp<;>omega)|fail) [wr3, he]
def likeI (l : List Doc) (k : KeyT) : Int := match l.findIdx? (fun d => decide (keyV d = k)) with
 | some i => (i : Int)
 | none => -1
theorem insD_gt {x d : Doc} {r : List Doc} (h : d.id < x.id) : insD (x :: r) d = d :: x :: r := by rw [insD, if_pos h]
theorem insD_le {x d : Doc} {r : List Doc} (h : ¬ d.id < x.id) : insD (x :: r) d = x :: insD r d := by rw [insD, if_neg h]
set_option maxHeartbeats 4000000 in
theorem insert28_spec (l : List Doc) (d : Doc) (hl : l.length ≤ 1000000) : Spec1 Tryz.prog 58 [.sl 5 false (docsHV l), .agg d.enc] (.sl 5 false (docsHV (insD l d))) := by
 refine Spec1.of_HT Tryz.func58 rfl (by rw [Tryz.ntmps58]; simp) rfl ?_
 rw [Tryz.ntmps58]
 refine HT.seq ?_;refine HT.region ?_;simp (disch := first|omega|(simp<;>omega)|fail) [wr3]
 refine HT.seq ?_;refine HT.region ?_;simp (disch := first|omega|(simp<;>omega)|fail) [wr3]
 refine HT.weaken (HS.le_own (t := 5) 200 50 5 _ (by decide) rfl (by decide)) ?_
 refine HT.seq ?_;refine HT.region ?_;simp (disch := first|omega|(simp<;>omega)|fail) [wr3]
 refine HT.seq ?_;refine HT.seq ?_;refine HT.region ?_;simp (disch := first|omega|(simp<;>omega)|fail) [wr3]
 refine HT.block ?_;refine HT.loopK (fun k : {k : Nat × Bool × List Doc // k.1 ≤ l.length ∧ k.2.2 ++ (if k.2.1 = true then l.drop k.1 else insD (l.drop k.1) d) = insD l d ∧ k.2.2.length ≤ k.1 + (if k.2.1 = true then 1 else 0)} => [.s 7 (i64 k.1.1), .s 6 (bo k.1.2.1), .s 5 (.ref 200), .o 200 (.row 50 5 (docsHV k.1.2.2))]) [0, 3] [3] (fun k => l.length - k.1.1) (⟨⟨0, false, []⟩, by simp⟩) ?_ ?_
 ·simp (disch := first|omega|(simp<;>omega)|fail) [wr3]
 rintro ⟨⟨k, dn, o⟩, hk, hh, hlen⟩
 simp (disch := first|omega|(simp<;>omega)|fail) [wr3]
 refine HT.seq ?_;refine HT.seq ?_;refine HT.region ?_;simp (disch := first|omega|(simp<;>omega)|fail) [wr3]
 refine HT.cond' ?_;simp (disch := first|omega|(simp<;>omega)|fail) [wr3]
 refine ⟨fun h11 => ?_, fun h11 => ?_⟩
 ·dsimp only at hk hh hlen
  have hk' : k < l.length := by omega
  have hlen2 : o.length ≤ k + 1 := by split at hlen <;> omega
  have hdr := List.drop_eq_getElem_cons hk'
  refine HT.skip ?_;simp (disch := first|omega|(simp<;>omega)|fail) [wr3]
  refine HT.seq ?_;refine HT.block ?_;refine HT.seq ?_;refine HT.seq ?_
  by_cases d1 : dn = true
  ·subst d1
   have dt := hk'
   refine HT.draw [.batch [0, 1, 2, 3, 4, 5, 6, 7, 8, 9, 10, 11]] (by kernel_rfl) ?_
   simp (disch := first|omega|(simp<;>omega)|fail) [wr3]
   refine HT.cond' ?_;simp (disch := first|omega|(simp<;>omega)|fail) [wr3]
   refine HT.skip ?_;simp (disch := first|omega|(simp<;>omega)|fail) [wr3]
   refine HT.region ?_;simp (disch := first|omega|(simp<;>omega)|fail) [wr3]
   refine HT.region ?_;simp (disch := first|omega|(simp<;>omega)|fail) [wr3]
   first | (have _t := dt; refine Round.mk' (⟨⟨k + 1, true, o ++ [l[k]]⟩, by dsimp only; omega, by dsimp only; rw [if_pos rfl, ← hh, if_pos rfl, hdr]; simp, by dsimp only; rw [List.length_append]; simp at hlen ⊢; omega⟩) (by dsimp only; omega) rfl ?_) | (have _t := cg; refine Round.mk' (⟨⟨k + 1, true, o ++ [d, l[k]]⟩, by dsimp only; omega, by dsimp only; rw [if_pos rfl, ← hh, if_neg (by simp), hdr, insD_gt cg]; simp, by dsimp only; rw [List.length_append]; simp at hlen ⊢; omega⟩) (by dsimp only; omega) rfl ?_) | (refine Round.mk' (⟨⟨k + 1, false, o ++ [l[k]]⟩, by dsimp only; omega, by dsimp only; rw [if_neg (by simp), ← hh, if_neg (by simp), hdr, insD_le c2]; simp, by dsimp only; rw [List.length_append]; simp at hlen ⊢; omega⟩) (by dsimp only; omega) rfl ?_)
   simp (disch := first|omega|(simp<;>omega)|fail) [wr3]
   try simp [docsHV]
  obtain rfl : dn = false := by simpa using d1
  by_cases c2 : d.id < l[k].id
  ·have cg := c2
   refine HT.draw [.batch [0, 1, 2, 3, 4, 5, 6, 7, 8, 9, 10, 11]] (by kernel_rfl) ?_
   simp (disch := first|omega|(simp<;>omega)|fail) [wr3]
   refine HT.cond' ?_;simp (disch := first|omega|(simp<;>omega)|fail) [wr3]
   refine HT.seq ?_;refine HT.region ?_;simp (disch := first|omega|(simp<;>omega)|fail) [wr3]
   refine HT.region ?_;simp (disch := first|omega|(simp<;>omega)|fail) [wr3]
   refine HT.region ?_;simp (disch := first|omega|(simp<;>omega)|fail) [wr3]
   refine HT.region ?_;simp (disch := first|omega|(simp<;>omega)|fail) [wr3]
   first | (have _t := dt; refine Round.mk' (⟨⟨k + 1, true, o ++ [l[k]]⟩, by dsimp only; omega, by dsimp only; rw [if_pos rfl, ← hh, if_pos rfl, hdr]; simp, by dsimp only; rw [List.length_append]; simp at hlen ⊢; omega⟩) (by dsimp only; omega) rfl ?_) | (have _t := cg; refine Round.mk' (⟨⟨k + 1, true, o ++ [d, l[k]]⟩, by dsimp only; omega, by dsimp only; rw [if_pos rfl, ← hh, if_neg (by simp), hdr, insD_gt cg]; simp, by dsimp only; rw [List.length_append]; simp at hlen ⊢; omega⟩) (by dsimp only; omega) rfl ?_) | (refine Round.mk' (⟨⟨k + 1, false, o ++ [l[k]]⟩, by dsimp only; omega, by dsimp only; rw [if_neg (by simp), ← hh, if_neg (by simp), hdr, insD_le c2]; simp, by dsimp only; rw [List.length_append]; simp at hlen ⊢; omega⟩) (by dsimp only; omega) rfl ?_)
   simp (disch := first|omega|(simp<;>omega)|fail) [wr3]
   try simp [docsHV]
  refine HT.draw [.batch [0, 1, 2, 3, 4, 5, 6, 7, 8, 9, 10, 11]] (by kernel_rfl) ?_
  simp (disch := first|omega|(simp<;>omega)|fail) [wr3]
  refine HT.cond' ?_;simp (disch := first|omega|(simp<;>omega)|fail) [wr3]
  refine HT.skip ?_;simp (disch := first|omega|(simp<;>omega)|fail) [wr3]
  refine HT.region ?_;simp (disch := first|omega|(simp<;>omega)|fail) [wr3]
  refine HT.region ?_;simp (disch := first|omega|(simp<;>omega)|fail) [wr3]
  first | (have _t := dt; refine Round.mk' (⟨⟨k + 1, true, o ++ [l[k]]⟩, by dsimp only; omega, by dsimp only; rw [if_pos rfl, ← hh, if_pos rfl, hdr]; simp, by dsimp only; rw [List.length_append]; simp at hlen ⊢; omega⟩) (by dsimp only; omega) rfl ?_) | (have _t := cg; refine Round.mk' (⟨⟨k + 1, true, o ++ [d, l[k]]⟩, by dsimp only; omega, by dsimp only; rw [if_pos rfl, ← hh, if_neg (by simp), hdr, insD_gt cg]; simp, by dsimp only; rw [List.length_append]; simp at hlen ⊢; omega⟩) (by dsimp only; omega) rfl ?_) | (refine Round.mk' (⟨⟨k + 1, false, o ++ [l[k]]⟩, by dsimp only; omega, by dsimp only; rw [if_neg (by simp), ← hh, if_neg (by simp), hdr, insD_le c2]; simp, by dsimp only; rw [List.length_append]; simp at hlen ⊢; omega⟩) (by dsimp only; omega) rfl ?_)
  simp (disch := first|omega|(simp<;>omega)|fail) [wr3]
  try simp [docsHV]
 ·dsimp only at hk hh hlen
  obtain rfl : k = l.length := by omega
  have hlen2 : o.length ≤ l.length + 1 := by split at hlen <;> omega
  rw [List.drop_length] at hh
  refine HT.exit ?_
  simp (disch := first|omega|(simp<;>omega)|fail) [wr3]
  refine HT.seq ?_;refine HT.seq ?_
  by_cases d2 : dn = true
  ·subst d2
   have hx : o = insD l d := by rw [← hh]; simp
   refine HT.region ?_;simp (disch := first|omega|(simp<;>omega)|fail) [wr3]
   refine HT.cond' ?_;simp (disch := first|omega|(simp<;>omega)|fail) [wr3]
   refine HT.skip ?_;simp (disch := first|omega|(simp<;>omega)|fail) [wr3]
   refine HT.seq ?_;refine HT.region ?_;simp (disch := first|omega|(simp<;>omega)|fail) [wr3]
   refine HT.ret ?_
   first | (rw [← hx]; simp (disch := first|omega|(simp<;>omega)|fail) [wr3, docsHV]; done) | simp (disch := first|omega|(simp<;>omega)|fail) [wr3, hx]
  obtain rfl : dn = false := by simpa using d2
  have hx : o ++ [d] = insD l d := by rw [← hh]; simp [insD]
  refine HT.region ?_;simp (disch := first|omega|(simp<;>omega)|fail) [wr3]
  refine HT.cond' ?_;simp (disch := first|omega|(simp<;>omega)|fail) [wr3]
  refine HT.region ?_;simp (disch := first|omega|(simp<;>omega)|fail) [wr3]
  refine HT.seq ?_;refine HT.region ?_;simp (disch := first|omega|(simp<;>omega)|fail) [wr3]
  refine HT.ret ?_
  first | (rw [← hx]; simp (disch := first|omega|(simp<;>omega)|fail) [wr3, docsHV]; done) | simp (disch := first|omega|(simp<;>omega)|fail) [wr3, hx]
end Go.Hv
