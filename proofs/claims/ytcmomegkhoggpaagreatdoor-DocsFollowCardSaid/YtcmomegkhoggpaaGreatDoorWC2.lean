import Derived.Test.YtcmomegkhoggpaaGreatDoorWC1
set_option linter.unusedVariables false
set_option linter.unusedSimpArgs false
namespace Go.Hv
open Go Go.Hv Go.Proofs Go.RowKit
open Go.Proofs.YtcmomegkhoggpaaGreatDoor
theorem indexByte_mem (c : UInt8) : ∀ l : List UInt8, 0 ≤ Lib.indexByte l c ↔ c ∈ l
 | [] => by simp [Lib.indexByte]
 | b :: l => by
  have ih := indexByte_mem c l
  have hge := Lib.indexByte_ge l c
  unfold Lib.indexByte
  by_cases h : (b == c) = true
  ·have : b = c := by simpa using h
   simp [h, this]
  ·have hb : b ≠ c := by simpa using h
   rw [if_neg h, List.mem_cons, ← ih]
   by_cases h2 : (Lib.indexByte l c == -1) = true
   ·have : Lib.indexByte l c = -1 := by simpa using h2
    rw [if_pos h2, this]
    constructor
    ·intro h; omega
    ·rintro (h | h)
     ·exact absurd h.symm hb
     ·omega
   ·have : Lib.indexByte l c ≠ -1 := by simpa using h2
    rw [if_neg h2]
    constructor
    ·intro _; right; omega
    ·intro _; omega
theorem ContainsS_spec (s : List UInt8) : Spec1 Tryz.prog 82 [.str s, .str [47]] (bo (decide (47 ∈ s))) := by
 intro D w vs hD hG hn hrep
 have h0 := Array.getElem?_eq_getElem (show 0 < vs.size by rw [hn]; simp)
 have h1 := Array.getElem?_eq_getElem (show 1 < vs.size by rw [hn]; simp)
 have r0 := irep_str (hrep 0 _ _ rfl h0)
 have r1 := irep_str (hrep 1 _ _ rfl h1)
 have hv : vs = #[.string ⟨s.toArray⟩, .string ⟨#[47]⟩] := by
  rw [r0] at h0; rw [r1] at h1
  apply Array.ext_getElem?
  intro i
  match i with
  | 0 => rw [h0]; rfl
  | 1 => rw [h1]; rfl
  | i + 2 => rw [Array.getElem?_eq_none (by rw [hn]; simp), Array.getElem?_eq_none (by simp)]
 subst hv
 refine (Tryz.strings_Contains_one ⟨s.toArray⟩ 47 w).mono fun e w' ⟨h1, h2⟩ => ?_
 subst h1; subst h2
 refine ⟨_, rfl, Kept.refl _ _, ?_⟩
 have : decide (0 ≤ Lib.indexByte s 47) = decide (47 ∈ s) := decide_eq_decide.2 (indexByte_mem 47 s)
 show IRep _ _ _ (.bool (decide (0 ≤ Lib.indexByte s 47)))
 rw [this]
 exact .lit _
def UpTo {α : Type} (q : α → Bool) (l : List α) (k : Nat) : Prop := ∀ i x, i < k → l[i]? = some x → q x = true
theorem UpTo.zero {α : Type} (q : α → Bool) (l : List α) : UpTo q l 0 := fun i x h => absurd h (Nat.not_lt_zero _)
theorem UpTo.succ {α : Type} {q : α → Bool} {l : List α} {k : Nat} (h : UpTo q l k) (hk : k < l.length) (hq : q l[k] = true) : UpTo q l (k + 1) := fun i x hi hx => by
 by_cases e : i = k
 ·subst e; rw [List.getElem?_eq_getElem hk] at hx; cases hx; exact hq
 ·exact h i x (by omega) hx
theorem UpTo.all {α : Type} {q : α → Bool} {l : List α} (h : UpTo q l l.length) : l.all q = true := by
 rw [List.all_eq_true]
 intro x hx
 obtain ⟨i, hi⟩ := List.mem_iff_getElem?.1 hx
 exact h i x (getElem?_lt hi) hi
theorem all_not {α : Type} {q : α → Bool} {l : List α} {k : Nat} (hk : k < l.length) (hq : q l[k] = false) : l.all q = false := by
 rw [List.all_eq_false]
 exact ⟨l[k], List.getElem_mem hk, by rw [hq]; simp⟩
theorem textV_long {s : List UInt8} (h : 2000 < s.length) : textV s = false := by unfold textV; rw [decide_eq_false (by omega)]; rfl
theorem textV_all {s : List UInt8} (h : s.length ≤ 2000) : textV s = s.all textB := by unfold textV; rw [decide_eq_true h]; simp
set_option maxRecDepth 20000 in
set_option maxHeartbeats 2000000 in
theorem Valid_spec (s : List UInt8) (hs : s.length ≤ 140737488355328) : Spec1 Tryz.prog 64 [.str s] (bo (textV s)) := by
 refine Spec1.of_HT Tryz.func64 rfl (by rw [Tryz.ntmps64]; simp) rfl ?_
 rw [Tryz.ntmps64]
 refine HT.seq ?_;refine HT.region ?_;simp (disch := first|omega|(simp<;>omega)|fail) [wr3]
 refine HT.seq ?_;refine HT.seq ?_;refine HT.region ?_;simp (disch := first|omega|(simp<;>omega)|fail) [wr3]
 refine HT.cond' ?_;simp (disch := first|omega|(simp<;>omega)|fail) [wr3]
 refine ⟨fun h6 => ?_, fun h6 => ?_⟩
 ·have hx := textV_long (show 2000 < s.length by omega)
  refine HT.seq ?_;refine HT.region ?_;simp (disch := first|omega|(simp<;>omega)|fail) [wr3]
  refine HT.ret ?_;simp (disch := first|omega|(simp<;>omega)|fail) [wr3, hx]
 ·have hl : s.length ≤ 2000 := by omega
  have hx := textV_all hl
  refine HT.skip ?_;simp (disch := first|omega|(simp<;>omega)|fail) [wr3]
  refine HT.seq ?_;refine HT.seq ?_;refine HT.region ?_;simp (disch := first|omega|(simp<;>omega)|fail) [wr3]
  refine HT.block ?_;refine HT.loopK (fun k : {k : Nat // k ≤ s.length ∧ UpTo textB s k} => [.s 9 (i64 k)]) [0, 8] [] (fun k => s.length - k) (⟨0, by omega, UpTo.zero _ _⟩) ?_ ?_
  ·simp (disch := first|omega|(simp<;>omega)|fail) [wr3]
  rintro ⟨k, hk, hg⟩
  simp (disch := first|omega|(simp<;>omega)|fail) [wr3]
  refine HT.seq ?_;refine HT.region ?_;simp (disch := first|omega|(simp<;>omega)|fail) [wr3]
  refine HT.seq ?_;refine HT.cond' ?_;simp (disch := first|omega|(simp<;>omega)|fail) [wr3]
  refine ⟨fun h10 => ?_, fun h10 => ?_⟩
  ·have hk' : k < s.length := by omega
   refine HT.skip ?_;simp (disch := first|omega|(simp<;>omega)|fail) [wr3]
   refine HT.seq ?_;refine HT.block ?_;refine HT.seq ?_;refine HT.region ?_;simp (disch := first|omega|(simp<;>omega)|fail) [wr3]
   refine HT.seq ?_
   by_cases a1 : (s[k].toNat : Int) = 9
   ·refine HT.region ?_;simp (disch := first|omega|(simp<;>omega)|fail) [wr3]
    refine HT.cond' ?_;simp (disch := first|omega|(simp<;>omega)|fail) [wr3]
    refine HT.skip ?_;simp (disch := first|omega|(simp<;>omega)|fail) [wr3]
    refine HT.region ?_;simp (disch := first|omega|(simp<;>omega)|fail) [wr3]
    refine Round.mk' (⟨k + 1, by omega, hg.succ hk' (by rw [textB_eq]; exact decide_eq_true (by omega))⟩) (by dsimp only; omega) rfl ?_
    simp (disch := first|omega|(simp<;>omega)|fail) [wr3]
   by_cases a2 : (s[k].toNat : Int) = 10
   ·refine HT.region ?_;simp (disch := first|omega|(simp<;>omega)|fail) [wr3]
    refine HT.cond' ?_;simp (disch := first|omega|(simp<;>omega)|fail) [wr3]
    refine HT.skip ?_;simp (disch := first|omega|(simp<;>omega)|fail) [wr3]
    refine HT.region ?_;simp (disch := first|omega|(simp<;>omega)|fail) [wr3]
    refine Round.mk' (⟨k + 1, by omega, hg.succ hk' (by rw [textB_eq]; exact decide_eq_true (by omega))⟩) (by dsimp only; omega) rfl ?_
    simp (disch := first|omega|(simp<;>omega)|fail) [wr3]
   by_cases a3 : (s[k].toNat : Int) < 32
   ·refine HT.region ?_;simp (disch := first|omega|(simp<;>omega)|fail) [wr3]
    refine HT.cond' ?_;simp (disch := first|omega|(simp<;>omega)|fail) [wr3]
    refine HT.seq ?_;refine HT.region ?_;simp (disch := first|omega|(simp<;>omega)|fail) [wr3]
    refine HT.ret ?_
    have hx2 := all_not (q := textB) hk' (by rw [textB_eq]; exact decide_eq_false (by omega))
    simp (disch := first|omega|(simp<;>omega)|fail) [wr3, hx, hx2]
   by_cases a4 : 126 < (s[k].toNat : Int)
   ·refine HT.region ?_;simp (disch := first|omega|(simp<;>omega)|fail) [wr3]
    refine HT.cond' ?_;simp (disch := first|omega|(simp<;>omega)|fail) [wr3]
    refine HT.seq ?_;refine HT.region ?_;simp (disch := first|omega|(simp<;>omega)|fail) [wr3]
    refine HT.ret ?_
    have hx2 := all_not (q := textB) hk' (by rw [textB_eq]; exact decide_eq_false (by omega))
    simp (disch := first|omega|(simp<;>omega)|fail) [wr3, hx, hx2]
   refine HT.region ?_;simp (disch := first|omega|(simp<;>omega)|fail) [wr3]
   refine HT.cond' ?_;simp (disch := first|omega|(simp<;>omega)|fail) [wr3]
   refine HT.skip ?_;simp (disch := first|omega|(simp<;>omega)|fail) [wr3]
   refine HT.region ?_;simp (disch := first|omega|(simp<;>omega)|fail) [wr3]
   refine Round.mk' (⟨k + 1, by omega, hg.succ hk' (by rw [textB_eq]; exact decide_eq_true (by omega))⟩) (by dsimp only; omega) rfl ?_
   simp (disch := first|omega|(simp<;>omega)|fail) [wr3]
  ·obtain rfl : k = s.length := by omega
   have hx2 := hg.all
   refine HT.exit ?_
   simp (disch := first|omega|(simp<;>omega)|fail) [wr3]
   refine HT.seq ?_;refine HT.region ?_;simp (disch := first|omega|(simp<;>omega)|fail) [wr3]
   refine HT.ret ?_;simp (disch := first|omega|(simp<;>omega)|fail) [wr3, hx, hx2]
set_option maxRecDepth 20000 in
set_option maxHeartbeats 2000000 in
theorem refValid_spec (s : List UInt8) (hs : s.length ≤ 140737488355328) : Spec1 Tryz.prog 67 [.str s] (bo (textV s)) := by
 refine Spec1.of_HT Tryz.func67 rfl (by rw [Tryz.ntmps67]; simp) rfl ?_
 rw [Tryz.ntmps67]
 refine HT.seq ?_;refine HT.region ?_;simp (disch := first|omega|(simp<;>omega)|fail) [wr3]
 refine HT.seq ?_;refine HT.seq ?_;refine HT.region ?_;simp (disch := first|omega|(simp<;>omega)|fail) [wr3]
 refine HT.cond' ?_;simp (disch := first|omega|(simp<;>omega)|fail) [wr3]
 refine ⟨fun h6 => ?_, fun h6 => ?_⟩
 ·have hx := textV_long (show 2000 < s.length by omega)
  refine HT.seq ?_;refine HT.region ?_;simp (disch := first|omega|(simp<;>omega)|fail) [wr3]
  refine HT.ret ?_;simp (disch := first|omega|(simp<;>omega)|fail) [wr3, hx]
 ·have hl : s.length ≤ 2000 := by omega
  have hx := textV_all hl
  refine HT.skip ?_;simp (disch := first|omega|(simp<;>omega)|fail) [wr3]
  refine HT.seq ?_;refine HT.seq ?_;refine HT.region ?_;simp (disch := first|omega|(simp<;>omega)|fail) [wr3]
  refine HT.block ?_;refine HT.loopK (fun k : {k : Nat // k ≤ s.length ∧ UpTo textB s k} => [.s 3 (i64 k)]) [0] [] (fun k => s.length - k) (⟨0, by omega, UpTo.zero _ _⟩) ?_ ?_
  ·simp (disch := first|omega|(simp<;>omega)|fail) [wr3]
  rintro ⟨k, hk, hg⟩
  simp (disch := first|omega|(simp<;>omega)|fail) [wr3]
  refine HT.seq ?_;refine HT.seq ?_;refine HT.region ?_;simp (disch := first|omega|(simp<;>omega)|fail) [wr3]
  refine HT.cond' ?_;simp (disch := first|omega|(simp<;>omega)|fail) [wr3]
  refine ⟨fun h10 => ?_, fun h10 => ?_⟩
  ·have hk' : k < s.length := by omega
   refine HT.skip ?_;simp (disch := first|omega|(simp<;>omega)|fail) [wr3]
   refine HT.seq ?_;refine HT.block ?_;refine HT.seq ?_
   by_cases a1 : (s[k].toNat : Int) = 9
   ·refine HT.region ?_;simp (disch := first|omega|(simp<;>omega)|fail) [wr3]
    refine HT.cond' ?_;simp (disch := first|omega|(simp<;>omega)|fail) [wr3]
    refine HT.skip ?_;simp (disch := first|omega|(simp<;>omega)|fail) [wr3]
    refine HT.region ?_;simp (disch := first|omega|(simp<;>omega)|fail) [wr3]
    refine Round.mk' (⟨k + 1, by omega, hg.succ hk' (by rw [textB_eq]; exact decide_eq_true (by omega))⟩) (by dsimp only; omega) rfl ?_
    simp (disch := first|omega|(simp<;>omega)|fail) [wr3]
   by_cases a2 : (s[k].toNat : Int) = 10
   ·refine HT.region ?_;simp (disch := first|omega|(simp<;>omega)|fail) [wr3]
    refine HT.cond' ?_;simp (disch := first|omega|(simp<;>omega)|fail) [wr3]
    refine HT.skip ?_;simp (disch := first|omega|(simp<;>omega)|fail) [wr3]
    refine HT.region ?_;simp (disch := first|omega|(simp<;>omega)|fail) [wr3]
    refine Round.mk' (⟨k + 1, by omega, hg.succ hk' (by rw [textB_eq]; exact decide_eq_true (by omega))⟩) (by dsimp only; omega) rfl ?_
    simp (disch := first|omega|(simp<;>omega)|fail) [wr3]
   by_cases a3 : (s[k].toNat : Int) < 32
   ·refine HT.region ?_;simp (disch := first|omega|(simp<;>omega)|fail) [wr3]
    refine HT.cond' ?_;simp (disch := first|omega|(simp<;>omega)|fail) [wr3]
    refine HT.seq ?_;refine HT.region ?_;simp (disch := first|omega|(simp<;>omega)|fail) [wr3]
    refine HT.ret ?_
    have hx2 := all_not (q := textB) hk' (by rw [textB_eq]; exact decide_eq_false (by omega))
    simp (disch := first|omega|(simp<;>omega)|fail) [wr3, hx, hx2]
   by_cases a4 : 126 < (s[k].toNat : Int)
   ·refine HT.region ?_;simp (disch := first|omega|(simp<;>omega)|fail) [wr3]
    refine HT.cond' ?_;simp (disch := first|omega|(simp<;>omega)|fail) [wr3]
    refine HT.seq ?_;refine HT.region ?_;simp (disch := first|omega|(simp<;>omega)|fail) [wr3]
    refine HT.ret ?_
    have hx2 := all_not (q := textB) hk' (by rw [textB_eq]; exact decide_eq_false (by omega))
    simp (disch := first|omega|(simp<;>omega)|fail) [wr3, hx, hx2]
   refine HT.region ?_;simp (disch := first|omega|(simp<;>omega)|fail) [wr3]
   refine HT.cond' ?_;simp (disch := first|omega|(simp<;>omega)|fail) [wr3]
   refine HT.skip ?_;simp (disch := first|omega|(simp<;>omega)|fail) [wr3]
   refine HT.region ?_;simp (disch := first|omega|(simp<;>omega)|fail) [wr3]
   refine Round.mk' (⟨k + 1, by omega, hg.succ hk' (by rw [textB_eq]; exact decide_eq_true (by omega))⟩) (by dsimp only; omega) rfl ?_
   simp (disch := first|omega|(simp<;>omega)|fail) [wr3]
  ·obtain rfl : k = s.length := by omega
   have hx2 := hg.all
   refine HT.exit ?_
   simp (disch := first|omega|(simp<;>omega)|fail) [wr3]
   refine HT.seq ?_;refine HT.region ?_;simp (disch := first|omega|(simp<;>omega)|fail) [wr3]
   refine HT.ret ?_;simp (disch := first|omega|(simp<;>omega)|fail) [wr3, hx, hx2]
def isLetV (c : UInt8) : Bool := decide (65 ≤ (c.toNat : Int) ∧ (c.toNat : Int) ≤ 90 ∨ 97 ≤ (c.toNat : Int) ∧ (c.toNat : Int) ≤ 122)
def isDigV (c : UInt8) : Bool := decide (48 ≤ (c.toNat : Int) ∧ (c.toNat : Int) ≤ 57)
set_option maxRecDepth 20000 in
theorem Letter_spec (c : UInt8) : Spec1 Tryz.prog 124 [u8 c] (bo (isLetV c)) := by
 refine Spec1.of_HT Tryz.func124 rfl (by rw [Tryz.ntmps124]; simp) rfl ?_
 rw [Tryz.ntmps124]
 refine HT.seq ?_;refine HT.region ?_;simp (disch := first|omega|(simp<;>omega)|fail) [wr3]
 refine HT.seq ?_
 by_cases a1 : 122 < (c.toNat : Int)
 ·refine HT.region ?_;simp (disch := first|omega|(simp<;>omega)|fail) [wr3]
  refine HT.ret ?_
  first | (have hx : isLetV c = true := decide_eq_true (by omega); simp (disch := first|omega|(simp<;>omega)|fail) [wr3, hx]; done) | (have hx : isLetV c = false := decide_eq_false (by omega); simp (disch := first|omega|(simp<;>omega)|fail) [wr3, hx]; done)
 by_cases a2 : 97 ≤ (c.toNat : Int)
 ·refine HT.region ?_;simp (disch := first|omega|(simp<;>omega)|fail) [wr3]
  refine HT.ret ?_
  first | (have hx : isLetV c = true := decide_eq_true (by omega); simp (disch := first|omega|(simp<;>omega)|fail) [wr3, hx]; done) | (have hx : isLetV c = false := decide_eq_false (by omega); simp (disch := first|omega|(simp<;>omega)|fail) [wr3, hx]; done)
 by_cases a3 : 90 < (c.toNat : Int)
 ·refine HT.region ?_;simp (disch := first|omega|(simp<;>omega)|fail) [wr3]
  refine HT.ret ?_
  first | (have hx : isLetV c = true := decide_eq_true (by omega); simp (disch := first|omega|(simp<;>omega)|fail) [wr3, hx]; done) | (have hx : isLetV c = false := decide_eq_false (by omega); simp (disch := first|omega|(simp<;>omega)|fail) [wr3, hx]; done)
 by_cases a4 : 65 ≤ (c.toNat : Int)
 ·refine HT.region ?_;simp (disch := first|omega|(simp<;>omega)|fail) [wr3]
  refine HT.ret ?_
  first | (have hx : isLetV c = true := decide_eq_true (by omega); simp (disch := first|omega|(simp<;>omega)|fail) [wr3, hx]; done) | (have hx : isLetV c = false := decide_eq_false (by omega); simp (disch := first|omega|(simp<;>omega)|fail) [wr3, hx]; done)
 refine HT.region ?_;simp (disch := first|omega|(simp<;>omega)|fail) [wr3]
 refine HT.ret ?_
 first | (have hx : isLetV c = true := decide_eq_true (by omega); simp (disch := first|omega|(simp<;>omega)|fail) [wr3, hx]; done) | (have hx : isLetV c = false := decide_eq_false (by omega); simp (disch := first|omega|(simp<;>omega)|fail) [wr3, hx]; done)
theorem Digit_spec (c : UInt8) : Spec1 Tryz.prog 125 [u8 c] (bo (isDigV c)) := by
 refine Spec1.of_HT Tryz.func125 rfl (by rw [Tryz.ntmps125]; simp) rfl ?_
 rw [Tryz.ntmps125]
 refine HT.seq ?_;refine HT.region ?_;simp (disch := first|omega|(simp<;>omega)|fail) [wr3]
 refine HT.seq ?_
 by_cases a1 : 57 < (c.toNat : Int)
 ·refine HT.region ?_;simp (disch := first|omega|(simp<;>omega)|fail) [wr3]
  refine HT.ret ?_
  first | (have hx : isDigV c = true := decide_eq_true (by omega); simp (disch := first|omega|(simp<;>omega)|fail) [wr3, hx]; done) | (have hx : isDigV c = false := decide_eq_false (by omega); simp (disch := first|omega|(simp<;>omega)|fail) [wr3, hx]; done)
 by_cases a2 : 48 ≤ (c.toNat : Int)
 ·refine HT.region ?_;simp (disch := first|omega|(simp<;>omega)|fail) [wr3]
  refine HT.ret ?_
  first | (have hx : isDigV c = true := decide_eq_true (by omega); simp (disch := first|omega|(simp<;>omega)|fail) [wr3, hx]; done) | (have hx : isDigV c = false := decide_eq_false (by omega); simp (disch := first|omega|(simp<;>omega)|fail) [wr3, hx]; done)
 refine HT.region ?_;simp (disch := first|omega|(simp<;>omega)|fail) [wr3]
 refine HT.ret ?_
 first | (have hx : isDigV c = true := decide_eq_true (by omega); simp (disch := first|omega|(simp<;>omega)|fail) [wr3, hx]; done) | (have hx : isDigV c = false := decide_eq_false (by omega); simp (disch := first|omega|(simp<;>omega)|fail) [wr3, hx]; done)
end Go.Hv
set_option linter.unusedVariables false
set_option linter.unusedSimpArgs false
namespace Go.Hv
open Go Go.Hv Go.Proofs Go.RowKit
open Go.Proofs.YtcmomegkhoggpaaGreatDoor
theorem letter_split (c : UInt8) : letterV c = true ↔ isLetV c = true ∨ isDigV c = true ∨ (c.toNat : Int) = 46 ∨ (c.toNat : Int) = 95 ∨ (c.toNat : Int) = 45 := by
 rw [letterV_eq]; unfold isLetV isDigV; simp only [decide_eq_true_eq]; omega
theorem letter_no {c : UInt8} (h : ¬ (isLetV c = true ∨ isDigV c = true ∨ (c.toNat : Int) = 46 ∨ (c.toNat : Int) = 95 ∨ (c.toNat : Int) = 45)) : letterV c = false := by
 cases hc : letterV c with
 | false => rfl
 | true => exact absurd ((letter_split c).1 hc) h
theorem nameOK_no {s : List UInt8} (h : s.length < 1 ∨ 24 < s.length ∨ s = [46] ∨ s = [46, 46]) : nameOK s = false := by
 unfold nameOK
 rw [decide_eq_false (by rintro ⟨h1, h2, h3, h4⟩; rcases h with h | h | h | h; omega; omega; exact h3 h; exact h4 h)]; rfl
theorem nameOK_all {s : List UInt8} (h1 : ¬ s.length < 1) (h2 : ¬ 24 < s.length) (h3 : ¬ s = [46]) (h4 : ¬ s = [46, 46]) : nameOK s = s.all letterV := by
 unfold nameOK
 rw [decide_eq_true ⟨by omega, by omega, h3, h4⟩]; simp
set_option maxRecDepth 20000 in
set_option maxHeartbeats 2000000 in
theorem refName_spec (s : List UInt8) (hs : s.length ≤ 140737488355328) : Spec1 Tryz.prog 85 [.str s] (bo (nameOK s)) := by
 refine Spec1.of_HT Tryz.func85 rfl (by rw [Tryz.ntmps85]; simp) rfl ?_
 rw [Tryz.ntmps85]
 refine HT.seq ?_;refine HT.region ?_;simp (disch := first|omega|(simp<;>omega)|fail) [wr3]
 refine HT.seq ?_;refine HT.seq ?_
 by_cases c1 : s.length < 1
 ·refine HT.region ?_;simp (disch := first|omega|(simp<;>omega)|fail) [wr3]
  refine HT.cond' ?_;simp (disch := first|omega|(simp<;>omega)|fail) [wr3]
  refine HT.seq ?_;refine HT.region ?_;simp (disch := first|omega|(simp<;>omega)|fail) [wr3]
  refine HT.ret ?_
  have hx : nameOK s = false := nameOK_no (by first | exact .inl c1 | exact .inr (.inl c2) | exact .inr (.inr (.inl c3)) | exact .inr (.inr (.inr c4)))
  simp (disch := first|omega|(simp<;>omega)|fail) [wr3, hx]
 by_cases c2 : 24 < s.length
 ·refine HT.region ?_;simp (disch := first|omega|(simp<;>omega)|fail) [wr3]
  refine HT.cond' ?_;simp (disch := first|omega|(simp<;>omega)|fail) [wr3]
  refine HT.seq ?_;refine HT.region ?_;simp (disch := first|omega|(simp<;>omega)|fail) [wr3]
  refine HT.ret ?_
  have hx : nameOK s = false := nameOK_no (by first | exact .inl c1 | exact .inr (.inl c2) | exact .inr (.inr (.inl c3)) | exact .inr (.inr (.inr c4)))
  simp (disch := first|omega|(simp<;>omega)|fail) [wr3, hx]
 by_cases c3 : s = [46]
 ·refine HT.region ?_;simp (disch := first|omega|(simp<;>omega)|fail) [wr3, c3]
  refine HT.cond' ?_;simp (disch := first|omega|(simp<;>omega)|fail) [wr3]
  refine HT.seq ?_;refine HT.region ?_;simp (disch := first|omega|(simp<;>omega)|fail) [wr3]
  refine HT.ret ?_
  have hx : nameOK s = false := nameOK_no (by first | exact .inl c1 | exact .inr (.inl c2) | exact .inr (.inr (.inl c3)) | exact .inr (.inr (.inr c4)))
  simp (disch := first|omega|(simp<;>omega)|fail) [wr3, hx]
 by_cases c4 : s = [46, 46]
 ·refine HT.region ?_;simp (disch := first|omega|(simp<;>omega)|fail) [wr3, c3, c4]
  refine HT.cond' ?_;simp (disch := first|omega|(simp<;>omega)|fail) [wr3]
  refine HT.seq ?_;refine HT.region ?_;simp (disch := first|omega|(simp<;>omega)|fail) [wr3]
  refine HT.ret ?_
  have hx : nameOK s = false := nameOK_no (by first | exact .inl c1 | exact .inr (.inl c2) | exact .inr (.inr (.inl c3)) | exact .inr (.inr (.inr c4)))
  simp (disch := first|omega|(simp<;>omega)|fail) [wr3, hx]
 refine HT.region ?_;simp (disch := first|omega|(simp<;>omega)|fail) [wr3, c3, c4]
 refine HT.cond' ?_;simp (disch := first|omega|(simp<;>omega)|fail) [wr3]
 refine HT.skip ?_;simp (disch := first|omega|(simp<;>omega)|fail) [wr3]
 refine HT.seq ?_;refine HT.seq ?_;refine HT.region ?_;simp (disch := first|omega|(simp<;>omega)|fail) [wr3]
 refine HT.block ?_;refine HT.loopK (fun k : {k : Nat // k ≤ s.length ∧ UpTo letterV s k} => [.s 3 (i64 k)]) [0] [] (fun k => s.length - k) (⟨0, by omega, UpTo.zero _ _⟩) ?_ ?_
 ·simp (disch := first|omega|(simp<;>omega)|fail) [wr3]
 rintro ⟨k, hk, hg⟩
 simp (disch := first|omega|(simp<;>omega)|fail) [wr3]
 refine HT.seq ?_;refine HT.seq ?_;refine HT.region ?_;simp (disch := first|omega|(simp<;>omega)|fail) [wr3]
 refine HT.cond' ?_;simp (disch := first|omega|(simp<;>omega)|fail) [wr3]
 refine ⟨fun h23 => ?_, fun h23 => ?_⟩
 ·have hk' : k < s.length := by omega
  refine HT.skip ?_;simp (disch := first|omega|(simp<;>omega)|fail) [wr3]
  refine HT.seq ?_;refine HT.block ?_;refine HT.seq ?_
  by_cases a1 : isLetV s[k] = true
  ·refine HT.region ?_;simp (disch := first|omega|(simp<;>omega)|fail) [wr3, a1]
   refine stepK.mk (.call1 _ _ _ _ rfl Ty.hb124 rfl (Letter_spec s[k]) rfl rfl) ?_
   simp (disch := first|omega|(simp<;>omega)|fail) [wr3, a1]
   refine HT.cond' ?_;simp (disch := first|omega|(simp<;>omega)|fail) [wr3]
   refine HT.skip ?_;simp (disch := first|omega|(simp<;>omega)|fail) [wr3]
   refine HT.region ?_;simp (disch := first|omega|(simp<;>omega)|fail) [wr3]
   refine Round.mk' (⟨k + 1, by omega, hg.succ hk' ((letter_split _).2 (by first | exact .inl a1 | exact .inr (.inl a2) | exact .inr (.inr (by omega))))⟩) (by dsimp only; omega) rfl ?_
   simp (disch := first|omega|(simp<;>omega)|fail) [wr3]
  by_cases a2 : isDigV s[k] = true
  ·refine HT.region ?_;simp (disch := first|omega|(simp<;>omega)|fail) [wr3, a1, a2]
   refine stepK.mk (.call1 _ _ _ _ rfl Ty.hb124 rfl (Letter_spec s[k]) rfl rfl) ?_
   simp (disch := first|omega|(simp<;>omega)|fail) [wr3, a1, a2]
   refine stepK.mk (.call1 _ _ _ _ rfl Ty.hb125 rfl (Digit_spec s[k]) rfl rfl) ?_
   simp (disch := first|omega|(simp<;>omega)|fail) [wr3, a1, a2]
   refine HT.cond' ?_;simp (disch := first|omega|(simp<;>omega)|fail) [wr3]
   refine HT.skip ?_;simp (disch := first|omega|(simp<;>omega)|fail) [wr3]
   refine HT.region ?_;simp (disch := first|omega|(simp<;>omega)|fail) [wr3]
   refine Round.mk' (⟨k + 1, by omega, hg.succ hk' ((letter_split _).2 (by first | exact .inl a1 | exact .inr (.inl a2) | exact .inr (.inr (by omega))))⟩) (by dsimp only; omega) rfl ?_
   simp (disch := first|omega|(simp<;>omega)|fail) [wr3]
  by_cases a3 : (s[k].toNat : Int) = 46
  ·refine HT.region ?_;simp (disch := first|omega|(simp<;>omega)|fail) [wr3, a1, a2]
   refine stepK.mk (.call1 _ _ _ _ rfl Ty.hb124 rfl (Letter_spec s[k]) rfl rfl) ?_
   simp (disch := first|omega|(simp<;>omega)|fail) [wr3, a1, a2]
   refine stepK.mk (.call1 _ _ _ _ rfl Ty.hb125 rfl (Digit_spec s[k]) rfl rfl) ?_
   simp (disch := first|omega|(simp<;>omega)|fail) [wr3, a1, a2]
   refine HT.cond' ?_;simp (disch := first|omega|(simp<;>omega)|fail) [wr3]
   refine HT.skip ?_;simp (disch := first|omega|(simp<;>omega)|fail) [wr3]
   refine HT.region ?_;simp (disch := first|omega|(simp<;>omega)|fail) [wr3]
   refine Round.mk' (⟨k + 1, by omega, hg.succ hk' ((letter_split _).2 (by first | exact .inl a1 | exact .inr (.inl a2) | exact .inr (.inr (by omega))))⟩) (by dsimp only; omega) rfl ?_
   simp (disch := first|omega|(simp<;>omega)|fail) [wr3]
  by_cases a4 : (s[k].toNat : Int) = 95
  ·refine HT.region ?_;simp (disch := first|omega|(simp<;>omega)|fail) [wr3, a1, a2]
   refine stepK.mk (.call1 _ _ _ _ rfl Ty.hb124 rfl (Letter_spec s[k]) rfl rfl) ?_
   simp (disch := first|omega|(simp<;>omega)|fail) [wr3, a1, a2]
   refine stepK.mk (.call1 _ _ _ _ rfl Ty.hb125 rfl (Digit_spec s[k]) rfl rfl) ?_
   simp (disch := first|omega|(simp<;>omega)|fail) [wr3, a1, a2]
   refine HT.cond' ?_;simp (disch := first|omega|(simp<;>omega)|fail) [wr3]
   refine HT.skip ?_;simp (disch := first|omega|(simp<;>omega)|fail) [wr3]
   refine HT.region ?_;simp (disch := first|omega|(simp<;>omega)|fail) [wr3]
   refine Round.mk' (⟨k + 1, by omega, hg.succ hk' ((letter_split _).2 (by first | exact .inl a1 | exact .inr (.inl a2) | exact .inr (.inr (by omega))))⟩) (by dsimp only; omega) rfl ?_
   simp (disch := first|omega|(simp<;>omega)|fail) [wr3]
  by_cases a5 : (s[k].toNat : Int) = 45
  ·refine HT.region ?_;simp (disch := first|omega|(simp<;>omega)|fail) [wr3, a1, a2]
   refine stepK.mk (.call1 _ _ _ _ rfl Ty.hb124 rfl (Letter_spec s[k]) rfl rfl) ?_
   simp (disch := first|omega|(simp<;>omega)|fail) [wr3, a1, a2]
   refine stepK.mk (.call1 _ _ _ _ rfl Ty.hb125 rfl (Digit_spec s[k]) rfl rfl) ?_
   simp (disch := first|omega|(simp<;>omega)|fail) [wr3, a1, a2]
   refine HT.cond' ?_;simp (disch := first|omega|(simp<;>omega)|fail) [wr3]
   refine HT.skip ?_;simp (disch := first|omega|(simp<;>omega)|fail) [wr3]
   refine HT.region ?_;simp (disch := first|omega|(simp<;>omega)|fail) [wr3]
   refine Round.mk' (⟨k + 1, by omega, hg.succ hk' ((letter_split _).2 (by first | exact .inl a1 | exact .inr (.inl a2) | exact .inr (.inr (by omega))))⟩) (by dsimp only; omega) rfl ?_
   simp (disch := first|omega|(simp<;>omega)|fail) [wr3]
  refine HT.region ?_;simp (disch := first|omega|(simp<;>omega)|fail) [wr3, a1, a2]
  refine stepK.mk (.call1 _ _ _ _ rfl Ty.hb124 rfl (Letter_spec s[k]) rfl rfl) ?_
  simp (disch := first|omega|(simp<;>omega)|fail) [wr3, a1, a2]
  refine stepK.mk (.call1 _ _ _ _ rfl Ty.hb125 rfl (Digit_spec s[k]) rfl rfl) ?_
  simp (disch := first|omega|(simp<;>omega)|fail) [wr3, a1, a2]
  refine HT.cond' ?_;simp (disch := first|omega|(simp<;>omega)|fail) [wr3]
  refine HT.seq ?_;refine HT.region ?_;simp (disch := first|omega|(simp<;>omega)|fail) [wr3]
  refine HT.ret ?_
  have hx2 := all_not (q := letterV) hk' (letter_no (by rintro (h | h | h | h | h); exact a1 h; exact a2 h; exact a3 h; exact a4 h; exact a5 h))
  have hx := nameOK_all c1 c2 c3 c4
  simp (disch := first|omega|(simp<;>omega)|fail) [wr3, hx, hx2]
 ·obtain rfl : k = s.length := by omega
  have hx2 := hg.all
  refine HT.exit ?_
  simp (disch := first|omega|(simp<;>omega)|fail) [wr3]
  refine HT.seq ?_;refine HT.region ?_;simp (disch := first|omega|(simp<;>omega)|fail) [wr3]
  refine HT.ret ?_
  have hx := nameOK_all c1 c2 c3 c4
  simp (disch := first|omega|(simp<;>omega)|fail) [wr3, hx, hx2]
theorem pathV_long {s : List UInt8} (h : 60 < s.length) : pathV s = false := by unfold pathV; rw [decide_eq_false (by omega)]; rfl
theorem pathV_all {s : List UInt8} (h : s.length ≤ 60) : pathV s = (partsV s).all nameOK := by unfold pathV; rw [decide_eq_true h]; simp
theorem partsV_part : ∀ (s : List UInt8), ∀ p ∈ partsV s, p.length ≤ s.length
 | [], p, h => by simp [partsV] at h; subst h; simp
 | c :: s, p, h => by
  have ih := partsV_part s
  unfold partsV at h
  split at h
  ·rcases List.mem_cons.1 h with rfl | h
   ·simp
   ·have := ih p h; simp; omega
  ·split at h
   ·simp at h; subst h; simp
   ·next q r e =>
    rw [e] at ih
    rcases List.mem_cons.1 h with rfl | h
    ·have := ih q (by simp); simp; omega
    ·have := ih p (by simp [h]); simp; omega
theorem partsV_count : ∀ (s : List UInt8), (partsV s).length ≤ s.length + 1
 | [] => by simp [partsV]
 | c :: s => by
  have ih := partsV_count s
  unfold partsV
  split
  ·simp; omega
  ·split
   ·simp
   ·next q r e => rw [e] at ih; simp at ih ⊢; omega
set_option maxRecDepth 20000 in
set_option maxHeartbeats 4000000 in
theorem Path_spec (s : List UInt8) (hs : s.length ≤ 140737488355328) : Spec1 Tryz.prog 63 [.str s] (bo (pathV s)) := by
 refine Spec1.of_HT Tryz.func63 rfl (by rw [Tryz.ntmps63]; simp) rfl ?_
 rw [Tryz.ntmps63]
 refine HT.seq ?_;refine HT.region ?_;simp (disch := first|omega|(simp<;>omega)|fail) [wr3]
 refine HT.scope ?_
 refine HT.seq ?_;refine HT.seq ?_;refine HT.region ?_;simp (disch := first|omega|(simp<;>omega)|fail) [wr3]
 refine HT.cond' ?_;simp (disch := first|omega|(simp<;>omega)|fail) [wr3]
 refine ⟨fun h8 => ?_, fun h8 => ?_⟩
 ·have hx := pathV_long (show 60 < s.length by omega)
  refine HT.seq ?_;refine HT.region ?_;simp (disch := first|omega|(simp<;>omega)|fail) [wr3]
  refine HT.ret ?_;simp (disch := first|omega|(simp<;>omega)|fail) [wr3, hx]
 ·have hl : s.length ≤ 60 := by omega
  have hx := pathV_all hl
  have hpc := partsV_count s
  refine HT.skip ?_;simp (disch := first|omega|(simp<;>omega)|fail) [wr3]
  refine HT.seq ?_;refine HT.label ?_
  simp (disch := first|omega|(simp<;>omega)|fail) [wr3]
  refine HT.seq ?_;refine HT.seq ?_;refine HT.region ?_;simp (disch := first|omega|(simp<;>omega)|fail) [wr3]
  refine stepK.mk (.call1f _ _ _ _ _ rfl Ty.hb83 rfl rfl (Split_spec s (by omega)) rfl) ?_
  simp (disch := first|omega|(simp<;>omega)|fail) [wr3]
  refine HT.block ?_;refine HT.loopK (fun k : {k : Nat // k ≤ (partsV s).length ∧ UpTo nameOK (partsV s) k} => [.s 12 (i64 k)]) [10, 11] [] (fun k => (partsV s).length - k) (⟨0, by omega, UpTo.zero _ _⟩) ?_ ?_
  ·simp (disch := first|omega|(simp<;>omega)|fail) [wr3]
  rintro ⟨k, hk, hg⟩
  simp (disch := first|omega|(simp<;>omega)|fail) [wr3]
  refine HT.seq ?_;refine HT.region ?_;simp (disch := first|omega|(simp<;>omega)|fail) [wr3]
  refine HT.seq ?_;refine HT.cond' ?_;simp (disch := first|omega|(simp<;>omega)|fail) [wr3]
  refine ⟨fun h13 => ?_, fun h13 => ?_⟩
  ·have hk' : k < (partsV s).length := by omega
   have hpp := partsV_part s _ (List.getElem_mem hk')
   refine HT.skip ?_;simp (disch := first|omega|(simp<;>omega)|fail) [wr3]
   refine HT.seq ?_;refine HT.block ?_;refine HT.seq ?_;refine HT.region ?_;simp (disch := first|omega|(simp<;>omega)|fail) [wr3]
   refine HT.seq ?_;refine HT.seq ?_
   by_cases c1 : (partsV s)[k] = [46]
   ·refine HT.region ?_;simp (disch := first|omega|(simp<;>omega)|fail) [wr3, c1]
    refine HT.cond' ?_;simp (disch := first|omega|(simp<;>omega)|fail) [wr3]
    refine HT.seq ?_;refine HT.region ?_;simp (disch := first|omega|(simp<;>omega)|fail) [wr3]
    refine HT.ret ?_
    have hx2 := all_not (q := nameOK) hk' (nameOK_no (by first | exact .inl c3 | exact .inr (.inl c4) | exact .inr (.inr (.inl c1)) | exact .inr (.inr (.inr c2))))
    simp (disch := first|omega|(simp<;>omega)|fail) [wr3, hx, hx2]
   by_cases c2 : (partsV s)[k] = [46, 46]
   ·refine HT.region ?_;simp (disch := first|omega|(simp<;>omega)|fail) [wr3, c1, c2]
    refine HT.cond' ?_;simp (disch := first|omega|(simp<;>omega)|fail) [wr3]
    refine HT.seq ?_;refine HT.region ?_;simp (disch := first|omega|(simp<;>omega)|fail) [wr3]
    refine HT.ret ?_
    have hx2 := all_not (q := nameOK) hk' (nameOK_no (by first | exact .inl c3 | exact .inr (.inl c4) | exact .inr (.inr (.inl c1)) | exact .inr (.inr (.inr c2))))
    simp (disch := first|omega|(simp<;>omega)|fail) [wr3, hx, hx2]
   by_cases c3 : (partsV s)[k].length < 1
   ·refine HT.region ?_;simp (disch := first|omega|(simp<;>omega)|fail) [wr3, c1, c2]
    refine HT.cond' ?_;simp (disch := first|omega|(simp<;>omega)|fail) [wr3]
    refine HT.seq ?_;refine HT.region ?_;simp (disch := first|omega|(simp<;>omega)|fail) [wr3]
    refine HT.ret ?_
    have hx2 := all_not (q := nameOK) hk' (nameOK_no (by first | exact .inl c3 | exact .inr (.inl c4) | exact .inr (.inr (.inl c1)) | exact .inr (.inr (.inr c2))))
    simp (disch := first|omega|(simp<;>omega)|fail) [wr3, hx, hx2]
   by_cases c4 : 24 < (partsV s)[k].length
   ·refine HT.region ?_;simp (disch := first|omega|(simp<;>omega)|fail) [wr3, c1, c2]
    refine HT.cond' ?_;simp (disch := first|omega|(simp<;>omega)|fail) [wr3]
    refine HT.seq ?_;refine HT.region ?_;simp (disch := first|omega|(simp<;>omega)|fail) [wr3]
    refine HT.ret ?_
    have hx2 := all_not (q := nameOK) hk' (nameOK_no (by first | exact .inl c3 | exact .inr (.inl c4) | exact .inr (.inr (.inl c1)) | exact .inr (.inr (.inr c2))))
    simp (disch := first|omega|(simp<;>omega)|fail) [wr3, hx, hx2]
   refine HT.region ?_;simp (disch := first|omega|(simp<;>omega)|fail) [wr3, c1, c2]
   refine HT.cond' ?_;simp (disch := first|omega|(simp<;>omega)|fail) [wr3]
   refine HT.skip ?_;simp (disch := first|omega|(simp<;>omega)|fail) [wr3]
   refine HT.seq ?_;refine HT.region ?_;simp (disch := first|omega|(simp<;>omega)|fail) [wr3]
   refine HT.block ?_;refine HT.loopK (fun j : {j : Nat // j ≤ (partsV s)[k].length ∧ UpTo letterV (partsV s)[k] j} => [.s 5 (i64 j)]) [4, 10, 11, 12, 19, 20, 23, 24, 25, 28, 29, 30] [] (fun j => (partsV s)[k].length - j) (⟨0, by omega, UpTo.zero _ _⟩) ?_ ?_
   ·simp (disch := first|omega|(simp<;>omega)|fail) [wr3]
   rintro ⟨j, hj, hgj⟩
   simp (disch := first|omega|(simp<;>omega)|fail) [wr3]
   refine HT.seq ?_;refine HT.block ?_;refine HT.seq ?_;refine HT.seq ?_;refine HT.region ?_;simp (disch := first|omega|(simp<;>omega)|fail) [wr3]
   refine HT.cond' ?_;simp (disch := first|omega|(simp<;>omega)|fail) [wr3]
   refine ⟨fun h37 => ?_, fun h37 => ?_⟩
   ·have hnm : nameOK (partsV s)[k] = true := by
     rw [nameOK_all c3 c4 c1 c2]
     obtain rfl : j = (partsV s)[k].length := by omega
     exact hgj.all
    refine HT.exit ?_
    simp (disch := first|omega|(simp<;>omega)|fail) [wr3]
    refine HT.region ?_;simp (disch := first|omega|(simp<;>omega)|fail) [wr3]
    refine Round.mk' (⟨k + 1, by omega, hg.succ hk' hnm⟩) (by dsimp only; omega) rfl ?_
    simp (disch := first|omega|(simp<;>omega)|fail) [wr3]
   ·have hj' : j < (partsV s)[k].length := by omega
    refine HT.skip ?_;simp (disch := first|omega|(simp<;>omega)|fail) [wr3]
    refine HT.seq ?_;refine HT.region ?_;simp (disch := first|omega|(simp<;>omega)|fail) [wr3]
    refine stepK.mk (.call1 _ _ _ _ rfl Ty.hb84 rfl (letter_spec (partsV s)[k][j]) rfl rfl) ?_
    simp (disch := first|omega|(simp<;>omega)|fail) [wr3]
    refine HT.cond' ?_;simp (disch := first|omega|(simp<;>omega)|fail) [wr3]
    refine ⟨fun h42 => ?_, fun h42 => ?_⟩
    ·refine HT.seq ?_;refine HT.region ?_;simp (disch := first|omega|(simp<;>omega)|fail) [wr3]
     refine HT.ret ?_
     have hx2 := all_not (q := nameOK) hk' (by rw [nameOK_all c3 c4 c1 c2]; exact all_not hj' (by simpa using h42))
     simp (disch := first|omega|(simp<;>omega)|fail) [wr3, hx, hx2]
    ·refine HT.skip ?_;simp (disch := first|omega|(simp<;>omega)|fail) [wr3]
     refine HT.region ?_;simp (disch := first|omega|(simp<;>omega)|fail) [wr3]
     refine Round.mk' (⟨j + 1, by omega, hgj.succ hj' h42⟩) (by dsimp only; omega) rfl ?_
     simp (disch := first|omega|(simp<;>omega)|fail) [wr3]
  ·obtain rfl : k = (partsV s).length := by omega
   have hx2 := hg.all
   refine HT.exit ?_
   simp (disch := first|omega|(simp<;>omega)|fail) [wr3]
   refine HT.seq ?_;refine HT.region ?_;simp (disch := first|omega|(simp<;>omega)|fail) [wr3]
   refine HT.ret ?_;simp (disch := first|omega|(simp<;>omega)|fail) [wr3, hx, hx2]
end Go.Hv
set_option linter.unusedVariables false
set_option linter.unusedSimpArgs false
namespace Go.Hv
open Go Go.Hv Go.Proofs Go.RowKit
open Go.Proofs.YtcmomegkhoggpaaGreatDoor
theorem parts_one : ∀ {w : List UInt8}, 47 ∉ w → partsV w = [w]
 | [], _ => by simp [partsV]
 | c :: w, h => by
  have hc : ¬ c = 47 := fun e => h (by simp [e])
  rw [partsV, if_neg hc, parts_one (w := w) (fun h2 => h (by simp [h2]))]
theorem parts_app : ∀ {w : List UInt8} (r : List UInt8), 47 ∉ w → partsV (w ++ 47 :: r) = w :: partsV r
 | [], r, _ => by simp [partsV]
 | c :: w, r, h => by
  have hc : ¬ c = 47 := fun e => h (by simp [e])
  rw [List.cons_append, partsV, if_neg hc, parts_app (w := w) r (fun h2 => h (by simp [h2]))]
def allP (s : List UInt8) (b : Nat) : Bool := if b ≤ s.length then (partsV (s.drop b)).all nameOK else true
theorem allP_step {s : List UInt8} {b i : Nat} (hb : b ≤ i) (hi : i ≤ s.length) (hns : ∀ j, b ≤ j → j < i → s[j]? ≠ some 47) (hc : i = s.length ∨ s[i]? = some 47) :
  allP s b = (nameOK ((s.take i).drop b) && allP s (i + 1)) := by
 have hw : 47 ∉ (s.take i).drop b := fun h => by
  obtain ⟨j, hj⟩ := List.mem_iff_getElem?.1 h
  rw [List.getElem?_drop] at hj
  have hl := getElem?_lt hj
  rw [List.length_take] at hl
  rw [List.getElem?_take_of_lt (by omega)] at hj
  exact hns (b + j) (by omega) (by omega) hj
 unfold allP
 rw [if_pos (by omega)]
 rcases hc with rfl | hc
 ·rw [if_neg (by omega), List.take_length] at *
  rw [parts_one hw]; simp
 ·have hl := getElem?_lt hc
  rw [if_pos (by omega)]
  have e : s.drop b = (s.take i).drop b ++ 47 :: s.drop (i + 1) := by
   rw [List.getElem?_eq_getElem hl] at hc
   have h2 : s.drop i = 47 :: s.drop (i + 1) := by rw [List.drop_eq_getElem_cons hl, Option.some.inj hc]
   rw [← h2, ← List.drop_append_of_le_length (by rw [List.length_take]; omega), List.take_append_drop]
  rw [e, parts_app _ hw]; simp
theorem u8_47 {c : UInt8} (h : (c.toNat : Int) = 47) : c = 47 := UInt8.toNat_inj.1 (by simp; omega)
set_option maxRecDepth 20000 in
set_option maxHeartbeats 4000000 in
theorem refPath_spec (s : List UInt8) (hs : s.length ≤ 140737488355328) : Spec1 Tryz.prog 66 [.str s] (bo (pathV s)) := by
 refine Spec1.of_HT Tryz.func66 rfl (by rw [Tryz.ntmps66]; simp) rfl ?_
 rw [Tryz.ntmps66]
 refine HT.seq ?_;refine HT.region ?_;simp (disch := first|omega|(simp<;>omega)|fail) [wr3]
 refine HT.seq ?_;refine HT.seq ?_;refine HT.region ?_;simp (disch := first|omega|(simp<;>omega)|fail) [wr3]
 refine HT.cond' ?_;simp (disch := first|omega|(simp<;>omega)|fail) [wr3]
 refine ⟨fun h7 => ?_, fun h7 => ?_⟩
 ·have hx := pathV_long (show 60 < s.length by omega)
  refine HT.seq ?_;refine HT.region ?_;simp (disch := first|omega|(simp<;>omega)|fail) [wr3]
  refine HT.ret ?_;simp (disch := first|omega|(simp<;>omega)|fail) [wr3, hx]
 ·have hl : s.length ≤ 60 := by omega
  have hx := pathV_all hl
  refine HT.skip ?_;simp (disch := first|omega|(simp<;>omega)|fail) [wr3]
  refine HT.seq ?_;refine HT.region ?_;simp (disch := first|omega|(simp<;>omega)|fail) [wr3]
  refine HT.seq ?_;refine HT.seq ?_;refine HT.region ?_;simp (disch := first|omega|(simp<;>omega)|fail) [wr3]
  refine HT.block ?_;refine HT.loopK (fun k : {k : Nat × Nat // k.1 ≤ k.2 ∧ k.2 ≤ s.length + 1 ∧ (∀ j, k.1 ≤ j → j < k.2 → s[j]? ≠ some 47) ∧ allP s k.1 = (partsV s).all nameOK ∧ (k.2 = s.length + 1 → k.1 = s.length + 1)} => [.s 3 (i64 k.1.1), .s 4 (i64 k.1.2)]) [0] [] (fun k => s.length + 1 - k.1.2) (⟨⟨0, 0⟩, Nat.le_refl _, by simp, fun j h1 h2 => by simp at h2, by simp [allP], fun h => by simp at h⟩) ?_ ?_
  ·simp (disch := first|omega|(simp<;>omega)|fail) [wr3]
  rintro ⟨⟨b, i⟩, hbi, hi, hns, hg, hend⟩
  simp (disch := first|omega|(simp<;>omega)|fail) [wr3]
  refine HT.seq ?_;refine HT.seq ?_;refine HT.region ?_;simp (disch := first|omega|(simp<;>omega)|fail) [wr3]
  refine HT.cond' ?_;simp (disch := first|omega|(simp<;>omega)|fail) [wr3]
  refine ⟨fun h11 => ?_, fun h11 => ?_⟩
  ·dsimp only at hbi hi hns hg hend
   have hil : i ≤ s.length := by omega
   refine HT.skip ?_;simp (disch := first|omega|(simp<;>omega)|fail) [wr3]
   refine HT.seq ?_;refine HT.block ?_;refine HT.seq ?_
   by_cases c1 : i = s.length
   ·have hsl := c1
    have hstep := allP_step hbi hil hns (.inl c1)
    refine HT.region ?_;simp (disch := first|omega|(simp<;>omega)|fail) [wr3]
    refine HT.cond' ?_;simp (disch := first|omega|(simp<;>omega)|fail) [wr3]
    refine HT.seq ?_;refine HT.seq ?_;refine HT.region ?_;simp (disch := first|omega|(simp<;>omega)|fail) [wr3]
    refine stepK.mk (.call1 _ _ _ _ rfl Ty.hb85 rfl (refName_spec ((s.take i).drop b) (by simp; omega)) rfl rfl) ?_
    simp (disch := first|omega|(simp<;>omega)|fail) [wr3]
    refine HT.cond' ?_;simp (disch := first|omega|(simp<;>omega)|fail) [wr3]
    refine ⟨fun h29 => ?_, fun h29 => ?_⟩
    ·refine HT.seq ?_;refine HT.region ?_;simp (disch := first|omega|(simp<;>omega)|fail) [wr3]
     refine HT.ret ?_
     have hx2 : (partsV s).all nameOK = false := by rw [← hg, hstep, show nameOK ((s.take i).drop b) = false by simpa using h29]; rfl
     simp (disch := first|omega|(simp<;>omega)|fail) [wr3, hx, hx2]
    ·have hgood : nameOK ((s.take i).drop b) = true := by simpa using h29
     refine HT.skip ?_;simp (disch := first|omega|(simp<;>omega)|fail) [wr3]
     refine HT.region ?_;simp (disch := first|omega|(simp<;>omega)|fail) [wr3]
     refine HT.region ?_;simp (disch := first|omega|(simp<;>omega)|fail) [wr3]
     first | (have _t := hsl; refine Round.mk' (⟨⟨i + 1, i + 1⟩, by simp, by dsimp only; omega, fun j h1 h2 => by dsimp only at h1 h2; omega, by dsimp only; rw [← hg, hstep, hgood]; simp, fun h => h⟩) (by dsimp only; omega) rfl ?_) | (refine Round.mk' (⟨⟨b, i + 1⟩, by dsimp only; omega, by dsimp only; omega, fun j h1 h2 => by dsimp only at h1 h2; by_cases e : j = i; subst e; rw [List.getElem?_eq_getElem hi']; exact fun h => c2 (by rw [Option.some.inj h]; rfl); exact hns j h1 (by omega), hg, fun h => by dsimp only at h; omega⟩) (by dsimp only; omega) rfl ?_)
     simp (disch := first|omega|(simp<;>omega)|fail) [wr3]
   have hi' : i < s.length := by omega
   by_cases c2 : (s[i].toNat : Int) = 47
   ·have hsl := c2
    have hstep := allP_step hbi hil hns (.inr (by rw [List.getElem?_eq_getElem hi', u8_47 c2]))
    refine HT.region ?_;simp (disch := first|omega|(simp<;>omega)|fail) [wr3]
    refine HT.cond' ?_;simp (disch := first|omega|(simp<;>omega)|fail) [wr3]
    refine HT.seq ?_;refine HT.seq ?_;refine HT.region ?_;simp (disch := first|omega|(simp<;>omega)|fail) [wr3]
    refine stepK.mk (.call1 _ _ _ _ rfl Ty.hb85 rfl (refName_spec ((s.take i).drop b) (by simp; omega)) rfl rfl) ?_
    simp (disch := first|omega|(simp<;>omega)|fail) [wr3]
    refine HT.cond' ?_;simp (disch := first|omega|(simp<;>omega)|fail) [wr3]
    refine ⟨fun h29 => ?_, fun h29 => ?_⟩
    ·refine HT.seq ?_;refine HT.region ?_;simp (disch := first|omega|(simp<;>omega)|fail) [wr3]
     refine HT.ret ?_
     have hx2 : (partsV s).all nameOK = false := by rw [← hg, hstep, show nameOK ((s.take i).drop b) = false by simpa using h29]; rfl
     simp (disch := first|omega|(simp<;>omega)|fail) [wr3, hx, hx2]
    ·have hgood : nameOK ((s.take i).drop b) = true := by simpa using h29
     refine HT.skip ?_;simp (disch := first|omega|(simp<;>omega)|fail) [wr3]
     refine HT.region ?_;simp (disch := first|omega|(simp<;>omega)|fail) [wr3]
     refine HT.region ?_;simp (disch := first|omega|(simp<;>omega)|fail) [wr3]
     first | (have _t := hsl; refine Round.mk' (⟨⟨i + 1, i + 1⟩, by simp, by dsimp only; omega, fun j h1 h2 => by dsimp only at h1 h2; omega, by dsimp only; rw [← hg, hstep, hgood]; simp, fun h => h⟩) (by dsimp only; omega) rfl ?_) | (refine Round.mk' (⟨⟨b, i + 1⟩, by dsimp only; omega, by dsimp only; omega, fun j h1 h2 => by dsimp only at h1 h2; by_cases e : j = i; subst e; rw [List.getElem?_eq_getElem hi']; exact fun h => c2 (by rw [Option.some.inj h]; rfl); exact hns j h1 (by omega), hg, fun h => by dsimp only at h; omega⟩) (by dsimp only; omega) rfl ?_)
     simp (disch := first|omega|(simp<;>omega)|fail) [wr3]
   refine HT.region ?_;simp (disch := first|omega|(simp<;>omega)|fail) [wr3]
   refine HT.cond' ?_;simp (disch := first|omega|(simp<;>omega)|fail) [wr3]
   refine HT.skip ?_;simp (disch := first|omega|(simp<;>omega)|fail) [wr3]
   refine HT.region ?_;simp (disch := first|omega|(simp<;>omega)|fail) [wr3]
   first | (have _t := hsl; refine Round.mk' (⟨⟨i + 1, i + 1⟩, by simp, by dsimp only; omega, fun j h1 h2 => by dsimp only at h1 h2; omega, by dsimp only; rw [← hg, hstep, hgood]; simp, fun h => h⟩) (by dsimp only; omega) rfl ?_) | (refine Round.mk' (⟨⟨b, i + 1⟩, by dsimp only; omega, by dsimp only; omega, fun j h1 h2 => by dsimp only at h1 h2; by_cases e : j = i; subst e; rw [List.getElem?_eq_getElem hi']; exact fun h => c2 (by rw [Option.some.inj h]; rfl); exact hns j h1 (by omega), hg, fun h => by dsimp only at h; omega⟩) (by dsimp only; omega) rfl ?_)
   simp (disch := first|omega|(simp<;>omega)|fail) [wr3]
  ·dsimp only at hbi hi hns hg hend
   have hbe := hend (by omega)
   have hx2 : (partsV s).all nameOK = true := by rw [← hg, hbe]; unfold allP; rw [if_neg (by omega)]
   refine HT.exit ?_
   simp (disch := first|omega|(simp<;>omega)|fail) [wr3]
   refine HT.seq ?_;refine HT.region ?_;simp (disch := first|omega|(simp<;>omega)|fail) [wr3]
   refine HT.ret ?_;simp (disch := first|omega|(simp<;>omega)|fail) [wr3, hx, hx2]
set_option maxRecDepth 20000 in
theorem rName_spec (s : List UInt8) (hs : s.length ≤ 140737488355328) : Spec1 Tryz.prog 65 [.str s] (bo (nameV s)) := by
 refine Spec1.of_HT Tryz.func65 rfl (by rw [Tryz.ntmps65]; simp) rfl ?_
 rw [Tryz.ntmps65]
 refine HT.seq ?_;refine HT.region ?_;simp (disch := first|omega|(simp<;>omega)|fail) [wr3]
 refine HT.seq ?_;refine HT.seq ?_;refine HT.region ?_;simp (disch := first|omega|(simp<;>omega)|fail) [wr3]
 refine HT.block ?_;refine HT.loopK (fun k : {k : Nat // k ≤ s.length ∧ UpTo (fun c => decide (c ≠ 47)) s k} => [.s 3 (i64 k)]) [0] [] (fun k => s.length - k) (⟨0, by omega, UpTo.zero _ _⟩) ?_ ?_
 ·simp (disch := first|omega|(simp<;>omega)|fail) [wr3]
 rintro ⟨k, hk, hg⟩
 simp (disch := first|omega|(simp<;>omega)|fail) [wr3]
 refine HT.seq ?_;refine HT.seq ?_;refine HT.region ?_;simp (disch := first|omega|(simp<;>omega)|fail) [wr3]
 refine HT.cond' ?_;simp (disch := first|omega|(simp<;>omega)|fail) [wr3]
 refine ⟨fun h7 => ?_, fun h7 => ?_⟩
 ·have hk' : k < s.length := by omega
  refine HT.skip ?_;simp (disch := first|omega|(simp<;>omega)|fail) [wr3]
  refine HT.seq ?_;refine HT.block ?_;refine HT.seq ?_;refine HT.region ?_;simp (disch := first|omega|(simp<;>omega)|fail) [wr3]
  refine HT.cond' ?_;simp (disch := first|omega|(simp<;>omega)|fail) [wr3]
  refine ⟨fun h13 => ?_, fun h13 => ?_⟩
  ·refine HT.seq ?_;refine HT.region ?_;simp (disch := first|omega|(simp<;>omega)|fail) [wr3]
   refine HT.ret ?_
   have hx : 47 ∈ s := by rw [← u8_47 h13]; exact List.getElem_mem hk'
   simp (disch := first|omega|(simp<;>omega)|fail) [wr3, nameV, hx]
  ·refine HT.skip ?_;simp (disch := first|omega|(simp<;>omega)|fail) [wr3]
   refine HT.region ?_;simp (disch := first|omega|(simp<;>omega)|fail) [wr3]
   refine Round.mk' (⟨k + 1, by omega, hg.succ hk' (decide_eq_true (fun e => h13 (by rw [e]; rfl)))⟩) (by dsimp only; omega) rfl ?_
   simp (disch := first|omega|(simp<;>omega)|fail) [wr3]
 ·obtain rfl : k = s.length := by omega
  have hx : 47 ∉ s := fun h => by have := List.all_eq_true.1 hg.all 47 h; simp at this
  refine HT.exit ?_
  simp (disch := first|omega|(simp<;>omega)|fail) [wr3]
  refine HT.seq ?_;refine HT.region ?_;simp (disch := first|omega|(simp<;>omega)|fail) [wr3]
  refine stepK.mk (.call1 _ _ _ _ rfl Ty.hb66 rfl (refPath_spec s hs) rfl rfl) ?_
  simp (disch := first|omega|(simp<;>omega)|fail) [wr3]
  refine HT.ret ?_;simp (disch := first|omega|(simp<;>omega)|fail) [wr3, nameV, hx]
set_option maxRecDepth 20000 in
theorem dName_spec (s : List UInt8) (hs : s.length ≤ 140737488355328) : Spec1 Tryz.prog 62 [.str s] (bo (nameV s)) := by
 refine Spec1.of_HT Tryz.func62 rfl (by rw [Tryz.ntmps62]; simp) rfl ?_
 rw [Tryz.ntmps62]
 refine HT.seq ?_;refine HT.region ?_;simp (disch := first|omega|(simp<;>omega)|fail) [wr3]
 refine HT.seq ?_
 by_cases c1 : pathV s = false
 ·refine HT.region ?_;simp (disch := first|omega|(simp<;>omega)|fail) [wr3, c1]
  refine stepK.mk (.call1 _ _ _ _ rfl Ty.hb63 rfl (Path_spec s hs) rfl rfl) ?_
  simp (disch := first|omega|(simp<;>omega)|fail) [wr3, c1]
  refine HT.ret ?_;simp (disch := first|omega|(simp<;>omega)|fail) [wr3, nameV, c1]
 refine HT.region ?_;simp (disch := first|omega|(simp<;>omega)|fail) [wr3, c1]
 refine stepK.mk (.call1 _ _ _ _ rfl Ty.hb63 rfl (Path_spec s hs) rfl rfl) ?_
 simp (disch := first|omega|(simp<;>omega)|fail) [wr3, c1]
 refine stepK.mk (.call1 _ _ _ _ rfl Ty.hb82 rfl (ContainsS_spec s) rfl rfl) ?_
 simp (disch := first|omega|(simp<;>omega)|fail) [wr3, c1]
 refine HT.ret ?_;simp (disch := first|omega|(simp<;>omega)|fail) [wr3, nameV, c1]
theorem key_spec (d : Doc) : Spec1 Tryz.prog 40 [.agg d.enc] (.agg [.str d.repo, .str d.path, .str d.text]) := by
 refine Spec1.of_HT Tryz.func40 rfl (by rw [Tryz.ntmps40]; simp) rfl ?_
 rw [Tryz.ntmps40]
 refine HT.seq ?_;refine HT.region ?_;simp (disch := first|omega|(simp<;>omega)|fail) [wr3]
 refine HT.seq ?_;refine HT.region ?_;simp (disch := first|omega|(simp<;>omega)|fail) [wr3]
 refine HT.ret ?_;simp (disch := first|omega|(simp<;>omega)|fail) [wr3]
theorem rKey_spec (d : Doc) : Spec1 Tryz.prog 34 [.agg d.enc] (.agg [.str d.repo, .str d.path, .str d.text]) := by
 refine Spec1.of_HT Tryz.func34 rfl (by rw [Tryz.ntmps34]; simp) rfl ?_
 rw [Tryz.ntmps34]
 refine HT.seq ?_;refine HT.region ?_;simp (disch := first|omega|(simp<;>omega)|fail) [wr3]
 refine HT.seq ?_;refine HT.region ?_;simp (disch := first|omega|(simp<;>omega)|fail) [wr3]
 refine HT.ret ?_;simp (disch := first|omega|(simp<;>omega)|fail) [wr3]
end Go.Hv
set_option linter.unusedVariables false
set_option linter.unusedSimpArgs false
namespace Go.Hv
open Go Go.Hv Go.Proofs Go.RowKit
open Go.Proofs.YtcmomegkhoggpaaGreatDoor
def DocB (B : Nat) (d : Doc) : Prop := d.repo.length ≤ B ∧ d.path.length ≤ B ∧ d.text.length ≤ B ∧ d.on.length ≤ B ∧ ∀ s ∈ d.on, s.length ≤ B
def stepS (a b : List UInt8) : Bool := !(Go.Op.bytesLess b a || decide (b = a))
theorem step_yes {a b : List UInt8} (h : stepS a b = true) : (Go.Op.bytesLess b a || decide (b = a)) = false := by unfold stepS at h; rwa [Bool.not_eq_true'] at h
theorem step_no {a b : List UInt8} (h : ¬ stepS a b = true) : (Go.Op.bytesLess b a || decide (b = a)) = true := by
 cases hb : (Go.Op.bytesLess b a || decide (b = a)) with
 | false => exact absurd (by unfold stepS; rw [hb]; rfl) h
 | true => rfl
theorem incS_cons (a b : List UInt8) (r : List (List UInt8)) : incS (a :: b :: r) = (stepS a b && incS (b :: r)) := rfl
theorem incS_all : ∀ (l : List (List UInt8)), incS l = true ↔ ∀ i (h : i + 1 < l.length), stepS l[i] l[i + 1] = true
 | [] => by simp [incS]
 | [a] => by simp [incS]
 | a :: b :: r => by
  rw [incS_cons, Bool.and_eq_true, incS_all (b :: r)]
  constructor
  ·rintro ⟨h1, h2⟩ i h
   match i with
   | 0 => exact h1
   | i + 1 => exact h2 i (by simpa using h)
  ·intro h
   exact ⟨h 0 (by simp), fun i hi => h (i + 1) (by simpa using hi)⟩
theorem incS_no {l : List (List UInt8)} {i : Nat} (h : i + 1 < l.length) (hs : ¬ stepS l[i] l[i + 1] = true) : incS l = false := by
 cases hc : incS l with
 | false => rfl
 | true => exact absurd ((incS_all l).1 hc i h) hs
def StepTo (l : List (List UInt8)) (k : Nat) : Prop := ∀ i (h : i + 1 < l.length), i < k → stepS l[i] l[i + 1] = true
theorem StepTo.succ {l : List (List UInt8)} {k : Nat} (h : StepTo l k) (hk : k + 1 < l.length) (hs : stepS l[k] l[k + 1] = true) : StepTo l (k + 1) := fun i hi hik => by
 by_cases e : i = k
 ·subst e; exact hs
 ·exact h i hi (by omega)
theorem check3 {d : Doc} (h : nameV d.repo = false ∨ pathV d.path = false ∨ textV d.text = false ∨ d.on.all nameV = false) : checkV d = 3 := by
 unfold checkV
 by_cases hc : (nameV d.repo && pathV d.path && textV d.text) = false
 ·rw [if_pos hc]
 ·rw [if_neg hc]
  have h4 : d.on.all nameV = false := by
   rcases h with h | h | h | h
   ·exact absurd (by rw [h]; rfl) hc
   ·exact absurd (by rw [h]; simp) hc
   ·exact absurd (by rw [h]; simp) hc
   ·exact h
  rw [if_pos h4]
theorem check_rest {d : Doc} (h1 : nameV d.repo = true) (h2 : pathV d.path = true) (h3 : textV d.text = true) (h4 : d.on.all nameV = true) : checkV d = if d.on = [] then 1 else if incS d.on = false then 1 else 0 := by
 unfold checkV
 rw [h1, h2, h3, h4]; rfl
theorem on_cons {d : Doc} (h : ¬ d.on.length = 0) : ¬ d.on = [] := fun e => h (by rw [e]; rfl)
set_option maxRecDepth 20000 in
set_option maxHeartbeats 4000000 in
theorem check_spec (d : Doc) (hd : DocB 140737488355328 d) : Spec1 Tryz.prog 39 [.agg d.enc] (i64 (checkV d)) := by
 have hon := hd.2.2.2.1
 refine Spec1.of_HT Tryz.func39 rfl (by rw [Tryz.ntmps39]; simp) rfl ?_
 rw [Tryz.ntmps39]
 refine HT.seq ?_;refine HT.region ?_;simp (disch := first|omega|(simp<;>omega)|fail) [wr3]
 refine HT.seq ?_;refine HT.seq ?_
 by_cases c1 : nameV d.repo = false
 ·refine HT.region ?_;simp (disch := first|omega|(simp<;>omega)|fail) [wr3, c1]
  refine stepK.mk (.call1 _ _ _ _ rfl Ty.hb62 rfl (dName_spec d.repo hd.1) rfl rfl) ?_
  simp (disch := first|omega|(simp<;>omega)|fail) [wr3, c1]
  refine HT.cond' ?_;simp (disch := first|omega|(simp<;>omega)|fail) [wr3]
  refine HT.seq ?_;refine HT.region ?_;simp (disch := first|omega|(simp<;>omega)|fail) [wr3]
  refine HT.ret ?_
  have hx : checkV d = 3 := check3 (by first | exact .inl c1 | exact .inr (.inl c2) | exact .inr (.inr (.inl c3)))
  simp (disch := first|omega|(simp<;>omega)|fail) [wr3, hx]
 by_cases c2 : pathV d.path = false
 ·refine HT.region ?_;simp (disch := first|omega|(simp<;>omega)|fail) [wr3, c1, c2]
  refine stepK.mk (.call1 _ _ _ _ rfl Ty.hb62 rfl (dName_spec d.repo hd.1) rfl rfl) ?_
  simp (disch := first|omega|(simp<;>omega)|fail) [wr3, c1, c2]
  refine stepK.mk (.call1 _ _ _ _ rfl Ty.hb63 rfl (Path_spec d.path hd.2.1) rfl rfl) ?_
  simp (disch := first|omega|(simp<;>omega)|fail) [wr3, c1, c2]
  refine HT.cond' ?_;simp (disch := first|omega|(simp<;>omega)|fail) [wr3]
  refine HT.seq ?_;refine HT.region ?_;simp (disch := first|omega|(simp<;>omega)|fail) [wr3]
  refine HT.ret ?_
  have hx : checkV d = 3 := check3 (by first | exact .inl c1 | exact .inr (.inl c2) | exact .inr (.inr (.inl c3)))
  simp (disch := first|omega|(simp<;>omega)|fail) [wr3, hx]
 by_cases c3 : textV d.text = false
 ·refine HT.region ?_;simp (disch := first|omega|(simp<;>omega)|fail) [wr3, c1, c2, c3]
  refine stepK.mk (.call1 _ _ _ _ rfl Ty.hb62 rfl (dName_spec d.repo hd.1) rfl rfl) ?_
  simp (disch := first|omega|(simp<;>omega)|fail) [wr3, c1, c2, c3]
  refine stepK.mk (.call1 _ _ _ _ rfl Ty.hb63 rfl (Path_spec d.path hd.2.1) rfl rfl) ?_
  simp (disch := first|omega|(simp<;>omega)|fail) [wr3, c1, c2, c3]
  refine stepK.mk (.call1 _ _ _ _ rfl Ty.hb64 rfl (Valid_spec d.text hd.2.2.1) rfl rfl) ?_
  simp (disch := first|omega|(simp<;>omega)|fail) [wr3, c1, c2, c3]
  refine HT.cond' ?_;simp (disch := first|omega|(simp<;>omega)|fail) [wr3]
  refine HT.seq ?_;refine HT.region ?_;simp (disch := first|omega|(simp<;>omega)|fail) [wr3]
  refine HT.ret ?_
  have hx : checkV d = 3 := check3 (by first | exact .inl c1 | exact .inr (.inl c2) | exact .inr (.inr (.inl c3)))
  simp (disch := first|omega|(simp<;>omega)|fail) [wr3, hx]
 simp only [Bool.not_eq_false] at c1 c2 c3
 refine HT.region ?_;simp (disch := first|omega|(simp<;>omega)|fail) [wr3, c1, c2, c3]
 refine stepK.mk (.call1 _ _ _ _ rfl Ty.hb62 rfl (dName_spec d.repo hd.1) rfl rfl) ?_
 simp (disch := first|omega|(simp<;>omega)|fail) [wr3, c1, c2, c3]
 refine stepK.mk (.call1 _ _ _ _ rfl Ty.hb63 rfl (Path_spec d.path hd.2.1) rfl rfl) ?_
 simp (disch := first|omega|(simp<;>omega)|fail) [wr3, c1, c2, c3]
 refine stepK.mk (.call1 _ _ _ _ rfl Ty.hb64 rfl (Valid_spec d.text hd.2.2.1) rfl rfl) ?_
 simp (disch := first|omega|(simp<;>omega)|fail) [wr3, c1, c2, c3]
 refine HT.cond' ?_;simp (disch := first|omega|(simp<;>omega)|fail) [wr3]
 refine HT.skip ?_;simp (disch := first|omega|(simp<;>omega)|fail) [wr3]
 refine HT.seq ?_;refine HT.seq ?_;refine HT.region ?_;simp (disch := first|omega|(simp<;>omega)|fail) [wr3]
 refine HT.block ?_;refine HT.loopK (fun k : {k : Nat // k ≤ d.on.length ∧ UpTo nameV d.on k} => [.s 25 (i64 k)]) [1, 23, 24] [1] (fun k => d.on.length - k) (⟨0, by omega, UpTo.zero _ _⟩) ?_ ?_
 ·simp (disch := first|omega|(simp<;>omega)|fail) [wr3]
 rintro ⟨k, hk, hg⟩
 simp (disch := first|omega|(simp<;>omega)|fail) [wr3]
 refine HT.seq ?_;refine HT.region ?_;simp (disch := first|omega|(simp<;>omega)|fail) [wr3]
 refine HT.seq ?_;refine HT.cond' ?_;simp (disch := first|omega|(simp<;>omega)|fail) [wr3]
 refine ⟨fun h26 => ?_, fun h26 => ?_⟩
 ·have hk' : k < d.on.length := by omega
  refine HT.skip ?_;simp (disch := first|omega|(simp<;>omega)|fail) [wr3]
  refine HT.seq ?_;refine HT.block ?_;refine HT.seq ?_;refine HT.region ?_;simp (disch := first|omega|(simp<;>omega)|fail) [wr3]
  refine HT.seq ?_;refine HT.region ?_;simp (disch := first|omega|(simp<;>omega)|fail) [wr3]
  refine stepK.mk (.call1 _ _ _ _ rfl Ty.hb62 rfl (dName_spec d.on[k] (hd.2.2.2.2 _ (List.getElem_mem hk'))) rfl rfl) ?_
  simp (disch := first|omega|(simp<;>omega)|fail) [wr3]
  refine HT.cond' ?_;simp (disch := first|omega|(simp<;>omega)|fail) [wr3]
  refine ⟨fun h31 => ?_, fun h31 => ?_⟩
  ·refine HT.seq ?_;refine HT.region ?_;simp (disch := first|omega|(simp<;>omega)|fail) [wr3]
   refine HT.ret ?_
   have hx : checkV d = 3 := check3 (.inr (.inr (.inr (all_not hk' (by simpa using h31)))))
   simp (disch := first|omega|(simp<;>omega)|fail) [wr3, hx]
  ·refine HT.skip ?_;simp (disch := first|omega|(simp<;>omega)|fail) [wr3]
   refine HT.region ?_;simp (disch := first|omega|(simp<;>omega)|fail) [wr3]
   refine Round.mk' (⟨k + 1, by omega, hg.succ hk' (by simpa using h31)⟩) (by dsimp only; omega) rfl ?_
   simp (disch := first|omega|(simp<;>omega)|fail) [wr3]
 ·obtain rfl : k = d.on.length := by omega
  have hx2 := check_rest c1 c2 c3 hg.all
  refine HT.exit ?_
  simp (disch := first|omega|(simp<;>omega)|fail) [wr3]
  refine HT.seq ?_;refine HT.seq ?_;refine HT.region ?_;simp (disch := first|omega|(simp<;>omega)|fail) [wr3]
  refine HT.cond' ?_;simp (disch := first|omega|(simp<;>omega)|fail) [wr3]
  refine ⟨fun h36 => ?_, fun h36 => ?_⟩
  ·refine HT.seq ?_;refine HT.region ?_;simp (disch := first|omega|(simp<;>omega)|fail) [wr3]
   refine HT.ret ?_;simp (disch := first|omega|(simp<;>omega)|fail) [wr3, hx2, h36]
  ·have e1 : ¬ d.on.length = 0 := fun e => h36 (List.eq_nil_of_length_eq_zero e)
   refine HT.skip ?_;simp (disch := first|omega|(simp<;>omega)|fail) [wr3]
   refine HT.seq ?_;refine HT.seq ?_;refine HT.region ?_;simp (disch := first|omega|(simp<;>omega)|fail) [wr3]
   refine HT.block ?_;refine HT.loopK (fun k : {k : Nat // k + 1 ≤ d.on.length ∧ StepTo d.on k} => [.s 5 (i64 ((k : Int) + 1))]) [1] [1] (fun k => d.on.length - k) (⟨0, by omega, fun i h hi => absurd hi (Nat.not_lt_zero _)⟩) ?_ ?_
   ·simp (disch := first|omega|(simp<;>omega)|fail) [wr3]
   rintro ⟨k, hk, hst⟩
   simp (disch := first|omega|(simp<;>omega)|fail) [wr3]
   refine HT.seq ?_;refine HT.seq ?_;refine HT.region ?_;simp (disch := first|omega|(simp<;>omega)|fail) [wr3]
   refine HT.cond' ?_;simp (disch := first|omega|(simp<;>omega)|fail) [wr3]
   refine ⟨fun h41 => ?_, fun h41 => ?_⟩
   ·have hk2 : k + 1 < d.on.length := by omega
    refine HT.skip ?_;simp (disch := first|omega|(simp<;>omega)|fail) [wr3]
    refine HT.seq ?_;refine HT.block ?_;refine HT.seq ?_
    by_cases s1 : stepS d.on[k] d.on[k + 1] = true
    ·have hq := step_yes s1
     refine HT.draw [.batch [0, 1, 2, 3, 4, 5, 6, 7, 8, 9, 10, 11]] (by kernel_rfl) ?_
     simp (disch := first|omega|(simp<;>omega)|fail) [wr3, hq]
     refine HT.cond' ?_;simp (disch := first|omega|(simp<;>omega)|fail) [wr3]
     refine HT.skip ?_;simp (disch := first|omega|(simp<;>omega)|fail) [wr3]
     refine HT.region ?_;simp (disch := first|omega|(simp<;>omega)|fail) [wr3]
     refine Round.mk' (⟨k + 1, by omega, hst.succ hk2 s1⟩) (by dsimp only; omega) rfl ?_
     simp (disch := first|omega|(simp<;>omega)|fail) [wr3]
    have hq := step_no s1
    refine HT.draw [.batch [0, 1, 2, 3, 4, 5, 6, 7, 8, 9, 10, 11]] (by kernel_rfl) ?_
    simp (disch := first|omega|(simp<;>omega)|fail) [wr3, hq]
    refine HT.cond' ?_;simp (disch := first|omega|(simp<;>omega)|fail) [wr3]
    refine HT.seq ?_;refine HT.region ?_;simp (disch := first|omega|(simp<;>omega)|fail) [wr3]
    refine HT.ret ?_
    have hx4 : incS d.on = false := incS_no hk2 s1
    simp (disch := first|omega|(simp<;>omega)|fail) [wr3, hx2, on_cons e1, hx4]
   ·have hx3 : incS d.on = true := (incS_all _).2 fun i h => hst i h (by omega)
    refine HT.exit ?_
    simp (disch := first|omega|(simp<;>omega)|fail) [wr3]
    refine HT.seq ?_;refine HT.region ?_;simp (disch := first|omega|(simp<;>omega)|fail) [wr3]
    refine HT.ret ?_;simp (disch := first|omega|(simp<;>omega)|fail) [wr3, hx2, on_cons e1, hx3]
set_option maxRecDepth 20000 in
set_option maxHeartbeats 4000000 in
theorem fields_spec (d : Doc) (hd : DocB 140737488355328 d) : Spec1 Tryz.prog 41 [.agg d.enc] (i64 (checkV d)) := by
 have hon := hd.2.2.2.1
 refine Spec1.of_HT Tryz.func41 rfl (by rw [Tryz.ntmps41]; simp) rfl ?_
 rw [Tryz.ntmps41]
 refine HT.seq ?_;refine HT.region ?_;simp (disch := first|omega|(simp<;>omega)|fail) [wr3]
 refine HT.seq ?_;refine HT.seq ?_;refine HT.region ?_;simp (disch := first|omega|(simp<;>omega)|fail) [wr3]
 refine stepK.mk (.call1 _ _ _ _ rfl Ty.hb65 rfl (rName_spec d.repo hd.1) rfl rfl) ?_
 simp (disch := first|omega|(simp<;>omega)|fail) [wr3]
 refine HT.cond' ?_;simp (disch := first|omega|(simp<;>omega)|fail) [wr3]
 refine ⟨fun h8 => ?_, fun h8 => ?_⟩
 ·refine HT.seq ?_;refine HT.region ?_;simp (disch := first|omega|(simp<;>omega)|fail) [wr3]
  refine HT.ret ?_
  have hx : checkV d = 3 := check3 (.inl (by simpa using h8))
  simp (disch := first|omega|(simp<;>omega)|fail) [wr3, hx]
 ·have c1 : nameV d.repo = true := by simpa using h8
  refine HT.skip ?_;simp (disch := first|omega|(simp<;>omega)|fail) [wr3]
  refine HT.seq ?_;refine HT.seq ?_;refine HT.region ?_;simp (disch := first|omega|(simp<;>omega)|fail) [wr3]
  refine HT.block ?_;refine HT.loopK (fun k : {k : Nat // k ≤ d.on.length ∧ UpTo nameV d.on k} => [.s 3 (i64 k)]) [1, 28, 29, 30, 31] [1] (fun k => d.on.length - k) (⟨0, by omega, UpTo.zero _ _⟩) ?_ ?_
  ·simp (disch := first|omega|(simp<;>omega)|fail) [wr3]
  rintro ⟨k, hk, hg⟩
  simp (disch := first|omega|(simp<;>omega)|fail) [wr3]
  refine HT.seq ?_;refine HT.seq ?_;refine HT.region ?_;simp (disch := first|omega|(simp<;>omega)|fail) [wr3]
  refine HT.cond' ?_;simp (disch := first|omega|(simp<;>omega)|fail) [wr3]
  refine ⟨fun h13 => ?_, fun h13 => ?_⟩
  ·have hk' : k < d.on.length := by omega
   refine HT.skip ?_;simp (disch := first|omega|(simp<;>omega)|fail) [wr3]
   refine HT.seq ?_;refine HT.block ?_;refine HT.seq ?_;refine HT.region ?_;simp (disch := first|omega|(simp<;>omega)|fail) [wr3]
   refine stepK.mk (.call1 _ _ _ _ rfl Ty.hb65 rfl (rName_spec d.on[k] (hd.2.2.2.2 _ (List.getElem_mem hk'))) rfl rfl) ?_
   simp (disch := first|omega|(simp<;>omega)|fail) [wr3]
   refine HT.cond' ?_;simp (disch := first|omega|(simp<;>omega)|fail) [wr3]
   refine ⟨fun h22 => ?_, fun h22 => ?_⟩
   ·refine HT.seq ?_;refine HT.region ?_;simp (disch := first|omega|(simp<;>omega)|fail) [wr3]
    refine HT.ret ?_
    have hx : checkV d = 3 := check3 (.inr (.inr (.inr (all_not hk' (by simpa using h22)))))
    simp (disch := first|omega|(simp<;>omega)|fail) [wr3, hx]
   ·refine HT.skip ?_;simp (disch := first|omega|(simp<;>omega)|fail) [wr3]
    refine HT.region ?_;simp (disch := first|omega|(simp<;>omega)|fail) [wr3]
    refine Round.mk' (⟨k + 1, by omega, hg.succ hk' (by simpa using h22)⟩) (by dsimp only; omega) rfl ?_
    simp (disch := first|omega|(simp<;>omega)|fail) [wr3]
  ·obtain rfl : k = d.on.length := by omega
   refine HT.exit ?_
   simp (disch := first|omega|(simp<;>omega)|fail) [wr3]
   refine HT.seq ?_;refine HT.seq ?_
   by_cases c2 : pathV d.path = false
   ·refine HT.region ?_;simp (disch := first|omega|(simp<;>omega)|fail) [wr3, c2]
    refine stepK.mk (.call1 _ _ _ _ rfl Ty.hb66 rfl (refPath_spec d.path hd.2.1) rfl rfl) ?_
    simp (disch := first|omega|(simp<;>omega)|fail) [wr3, c2]
    refine HT.cond' ?_;simp (disch := first|omega|(simp<;>omega)|fail) [wr3]
    refine HT.seq ?_;refine HT.region ?_;simp (disch := first|omega|(simp<;>omega)|fail) [wr3]
    refine HT.ret ?_
    have hx : checkV d = 3 := check3 (by first | exact .inr (.inl c2) | exact .inr (.inr (.inl c3)))
    simp (disch := first|omega|(simp<;>omega)|fail) [wr3, hx]
   by_cases c3 : textV d.text = false
   ·refine HT.region ?_;simp (disch := first|omega|(simp<;>omega)|fail) [wr3, c2, c3]
    refine stepK.mk (.call1 _ _ _ _ rfl Ty.hb66 rfl (refPath_spec d.path hd.2.1) rfl rfl) ?_
    simp (disch := first|omega|(simp<;>omega)|fail) [wr3, c2, c3]
    refine stepK.mk (.call1 _ _ _ _ rfl Ty.hb67 rfl (refValid_spec d.text hd.2.2.1) rfl rfl) ?_
    simp (disch := first|omega|(simp<;>omega)|fail) [wr3, c2, c3]
    refine HT.cond' ?_;simp (disch := first|omega|(simp<;>omega)|fail) [wr3]
    refine HT.seq ?_;refine HT.region ?_;simp (disch := first|omega|(simp<;>omega)|fail) [wr3]
    refine HT.ret ?_
    have hx : checkV d = 3 := check3 (by first | exact .inr (.inl c2) | exact .inr (.inr (.inl c3)))
    simp (disch := first|omega|(simp<;>omega)|fail) [wr3, hx]
   simp only [Bool.not_eq_false] at c2 c3
   have hx2 := check_rest c1 c2 c3 hg.all
   refine HT.region ?_;simp (disch := first|omega|(simp<;>omega)|fail) [wr3, c2, c3]
   refine stepK.mk (.call1 _ _ _ _ rfl Ty.hb66 rfl (refPath_spec d.path hd.2.1) rfl rfl) ?_
   simp (disch := first|omega|(simp<;>omega)|fail) [wr3, c2, c3]
   refine stepK.mk (.call1 _ _ _ _ rfl Ty.hb67 rfl (refValid_spec d.text hd.2.2.1) rfl rfl) ?_
   simp (disch := first|omega|(simp<;>omega)|fail) [wr3, c2, c3]
   refine HT.cond' ?_;simp (disch := first|omega|(simp<;>omega)|fail) [wr3]
   refine HT.skip ?_;simp (disch := first|omega|(simp<;>omega)|fail) [wr3]
   refine HT.seq ?_;refine HT.seq ?_;refine HT.region ?_;simp (disch := first|omega|(simp<;>omega)|fail) [wr3]
   refine HT.block ?_;refine HT.loopK (fun k : {k : Nat // (k + 1 ≤ d.on.length ∨ k = 0) ∧ StepTo d.on k} => [.s 4 (i64 ((k : Int) + 1))]) [1] [1] (fun k => d.on.length - k) (⟨0, .inr rfl, fun i h hi => absurd hi (Nat.not_lt_zero _)⟩) ?_ ?_
   ·simp (disch := first|omega|(simp<;>omega)|fail) [wr3]
   rintro ⟨k, hk, hst⟩
   simp (disch := first|omega|(simp<;>omega)|fail) [wr3]
   refine HT.seq ?_;refine HT.seq ?_;refine HT.region ?_;simp (disch := first|omega|(simp<;>omega)|fail) [wr3]
   refine HT.cond' ?_;simp (disch := first|omega|(simp<;>omega)|fail) [wr3]
   refine ⟨fun h37 => ?_, fun h37 => ?_⟩
   ·have hk2 : k + 1 < d.on.length := by omega
    refine HT.skip ?_;simp (disch := first|omega|(simp<;>omega)|fail) [wr3]
    refine HT.seq ?_;refine HT.block ?_;refine HT.seq ?_
    by_cases s1 : stepS d.on[k] d.on[k + 1] = true
    ·have hq := step_yes s1
     refine HT.draw [.batch [0, 1, 2, 3, 4, 5, 6, 7, 8, 9, 10, 11]] (by kernel_rfl) ?_
     simp (disch := first|omega|(simp<;>omega)|fail) [wr3, hq]
     refine HT.cond' ?_;simp (disch := first|omega|(simp<;>omega)|fail) [wr3]
     refine HT.skip ?_;simp (disch := first|omega|(simp<;>omega)|fail) [wr3]
     refine HT.region ?_;simp (disch := first|omega|(simp<;>omega)|fail) [wr3]
     refine Round.mk' (⟨k + 1, .inl (by omega), hst.succ hk2 s1⟩) (by dsimp only; omega) rfl ?_
     simp (disch := first|omega|(simp<;>omega)|fail) [wr3]
    have hq := step_no s1
    refine HT.draw [.batch [0, 1, 2, 3, 4, 5, 6, 7, 8, 9, 10, 11]] (by kernel_rfl) ?_
    simp (disch := first|omega|(simp<;>omega)|fail) [wr3, hq]
    refine HT.cond' ?_;simp (disch := first|omega|(simp<;>omega)|fail) [wr3]
    refine HT.seq ?_;refine HT.region ?_;simp (disch := first|omega|(simp<;>omega)|fail) [wr3]
    refine HT.ret ?_
    have hx4 : incS d.on = false := incS_no hk2 s1
    have e1 : ¬ d.on = [] := fun e => by rw [e] at hk2; simp at hk2
    simp (disch := first|omega|(simp<;>omega)|fail) [wr3, hx2, e1, hx4]
   ·have hx3 : incS d.on = true := (incS_all _).2 fun i h => hst i h (by omega)
    refine HT.exit ?_
    simp (disch := first|omega|(simp<;>omega)|fail) [wr3]
    refine HT.seq ?_;refine HT.seq ?_;refine HT.region ?_;simp (disch := first|omega|(simp<;>omega)|fail) [wr3]
    refine HT.cond' ?_;simp (disch := first|omega|(simp<;>omega)|fail) [wr3]
    refine ⟨fun h55 => ?_, fun h55 => ?_⟩
    ·refine HT.seq ?_;refine HT.region ?_;simp (disch := first|omega|(simp<;>omega)|fail) [wr3]
     refine HT.ret ?_;simp (disch := first|omega|(simp<;>omega)|fail) [wr3, hx2, h55]
    ·refine HT.skip ?_;simp (disch := first|omega|(simp<;>omega)|fail) [wr3]
     refine HT.seq ?_;refine HT.region ?_;simp (disch := first|omega|(simp<;>omega)|fail) [wr3]
     refine HT.ret ?_;simp (disch := first|omega|(simp<;>omega)|fail) [wr3, hx2, h55, hx3]
end Go.Hv
set_option linter.unusedVariables false
set_option linter.unusedSimpArgs false
namespace Go.Hv
open Go Go.Hv Go.Proofs Go.RowKit
open Go.Proofs.YtcmomegkhoggpaaGreatDoor
@[simp] theorem ak85 : aggKey Tryz.prog 63 = true := by kernel_rfl
theorem cells9x : Tryz.prog.cellsOf 9 = 1 := by kernel_rfl
theorem cells85 : Tryz.prog.cellsOf 63 = 3 := by kernel_rfl
abbrev Key3 := List UInt8 × List UInt8 × List UInt8
def kk (k : Key3) : HV := .agg [.str k.1, .str k.2.1, .str k.2.2]
def KB (k : Key3) : Prop := k.1.length ≤ 140737488355328 ∧ k.2.1.length ≤ 140737488355328 ∧ k.2.2.length ≤ 140737488355328
theorem key85 {k : Key3} (h : KB k) : keyH Tryz.prog 10 63 [.str k.1, .str k.2.1, .str k.2.2] = some [.string k.1, .string k.2.1, .string k.2.2] := by
 have hh : ∀ x : List UInt8, x.length ≤ 140737488355328 → x.length ≤ maxLen := fun x hx => by unfold maxLen; omega
 simp [keyH, Tryz.underlying63, Tryz.underlying9, cells9x, cells85, hh _ h.1, hh _ h.2.1, hh _ h.2.2, List.mapM_cons]
theorem aggEq85 {a b : Key3} (ha : KB a) (hb : KB b) : aggEq Tryz.prog 63 [.str a.1, .str a.2.1, .str a.2.2] [.str b.1, .str b.2.1, .str b.2.2] = some (decide (a = b)) := by
 unfold aggEq
 rw [if_pos ak85, key85 ha, key85 hb]
 obtain ⟨a1, a2, a3⟩ := a; obtain ⟨b1, b2, b3⟩ := b
 simp
theorem keyEq85 {a b : Key3} (ha : KB a) (hb : KB b) : keyEq Tryz.prog 63 (kk a) (kk b) = some (decide (a = b)) := by rw [kk, kk, keyEq]; exact aggEq85 ha hb
theorem keyOK85 {a : Key3} (ha : KB a) : keyOK Tryz.prog 63 (.agg [.str a.1, .str a.2.1, .str a.2.2]) = true := by
 simp [keyOK, key85 ha]
def seenE (ks : List Key3) : List (HV × HV) := ks.map fun k => (kk k, bo true)
theorem find_seen {c : Key3} (hc : KB c) : ∀ (ks : List Key3) (i : Nat), (∀ k ∈ ks, KB k) → findHV Tryz.prog 63 (kk c) (seenE ks) i = some (if c ∈ ks then some (i + ks.idxOf c, bo true) else none)
 | [], i, _ => by simp [seenE, findHV]
 | k :: ks, i, h => by
  have ih := find_seen hc ks (i + 1) (fun x hx => h x (by simp [hx]))
  unfold seenE at ih ⊢
  rw [List.map_cons, findHV, keyEq85 hc (h k (by simp))]
  by_cases e : c = k
  ·subst e; simp
  ·simp only [e, decide_false, ih, List.mem_cons, false_or]
   have e2 : (k == c) = false := by simpa using fun x : k = c => e x.symm
   split
   ·rw [List.idxOf_cons, e2]; simp only [cond_false]; rw [show i + 1 + ks.idxOf c = i + (ks.idxOf c + 1) by omega]
   ·rfl
@[simp] theorem subM_seenE (id : Nat) (x y : HV) (ks : List Key3) : subM id x y (seenE ks) = seenE ks := by
 unfold subM seenE
 rw [List.map_map]
 exact List.map_congr_left fun k _ => by simp [kk, HV.sub]
theorem seenE_length (ks : List Key3) : (seenE ks).length = ks.length := by simp [seenE]
theorem seenE_snoc (ks : List Key3) (c : Key3) : seenE ks ++ [(.agg [.str c.1, .str c.2.1, .str c.2.2], .lit (.bool true))] = seenE (ks ++ [c]) := by simp [seenE, kk]
theorem seenE_get {ks : List Key3} {c : Key3} (h : c ∈ ks) : (seenE ks)[ks.idxOf c]? = some (.agg [.str c.1, .str c.2.1, .str c.2.2], .lit (.bool true)) := by
 have hlt := List.idxOf_lt_length_iff.2 h
 unfold seenE
 rw [List.getElem?_map, List.getElem?_eq_getElem hlt, List.getElem_idxOf hlt]; rfl
theorem seenE_set {ks : List Key3} {c : Key3} (h : c ∈ ks) : (seenE ks).set (ks.idxOf c) (.agg [.str c.1, .str c.2.1, .str c.2.2], .lit (.bool true)) = seenE ks := by
 apply List.ext_getElem?
 intro i
 rw [List.getElem?_set]
 split
 ·next e =>
  subst e
  rw [if_pos (by rw [seenE_length]; exact List.idxOf_lt_length_iff.2 h), seenE_get h]
 ·rfl
def addA (l : List Key3) (c : Key3) : List Key3 := if c ∈ l then l else l ++ [c]
theorem addA_mem (l : List Key3) (c x : Key3) : x ∈ addA l c ↔ x ∈ l ∨ x = c := by
  unfold addA
  split
  · next h => constructor
              · exact .inl
              · rintro (h' | rfl); exact h'; exact h
  · simp
theorem addA_fold : ∀ (xs acc : List Key3), (xs.foldl addA acc).length ≤ acc.length + xs.length ∧ ((xs.foldl addA acc).length = acc.length + xs.length ↔ xs.Nodup ∧ ∀ x ∈ xs, x ∉ acc)
 | [], acc => by simp
 | x :: xs, acc => by
  obtain ⟨h1, h2⟩ := addA_fold xs (addA acc x)
  rw [List.foldl_cons]
  by_cases hx : x ∈ acc
  ·have e : addA acc x = acc := by unfold addA; rw [if_pos hx]
   rw [e] at h1 h2 ⊢
   refine ⟨by simp; omega, ?_⟩
   constructor
   ·intro h; simp at h; omega
   ·rintro ⟨_, h⟩; exact absurd hx (h x (by simp))
  ·have e : addA acc x = acc ++ [x] := by unfold addA; rw [if_neg hx]
   rw [e] at h1 h2 ⊢
   have hl : (acc ++ [x]).length + xs.length = acc.length + (x :: xs).length := by simp; omega
   rw [hl] at h1 h2
   refine ⟨h1, h2.trans ?_⟩
   rw [List.nodup_cons]
   constructor
   ·rintro ⟨a, b⟩
    refine ⟨⟨fun h => (b x h) (by simp), a⟩, fun y hy => ?_⟩
    rcases List.mem_cons.1 hy with rfl | hy
    ·exact hx
    ·exact fun h => b y hy (by simp [h])
   ·rintro ⟨⟨a, b⟩, c⟩
    refine ⟨b, fun y hy h => ?_⟩
    rcases List.mem_append.1 h with h | h
    ·exact c y (by simp [hy]) h
    ·simp at h; subst h; exact a hy
def keysK (l : List Doc) (k : Nat) : List Key3 := ((l.take k).map keyV).foldl addA []
theorem keysK_succ {l : List Doc} {k : Nat} (hk : k < l.length) : keysK l (k + 1) = addA (keysK l k) (keyV l[k]) := by
 unfold keysK; rw [List.take_succ_eq_append_getElem hk, List.map_append, List.foldl_append]; rfl
theorem keysK_len (l : List Doc) : (keysK l l.length).length < l.length ↔ ¬ (l.map keyV).Nodup := by
 obtain ⟨h1, h2⟩ := addA_fold (l.map keyV) []
 unfold keysK
 rw [List.take_length]
 simp only [List.length_nil, Nat.zero_add, List.length_map, List.not_mem_nil, not_false_eq_true, implies_true, and_true] at h1 h2
 rw [← h2]; omega
theorem check0_KB {d : Doc} (h : checkV d = 0) : KB (keyV d) := by
 have h1 : nameV d.repo = true := by cases e : nameV d.repo with
  | true => rfl
  | false => rw [check3 (.inl e)] at h; cases h
 have h2 : pathV d.path = true := by cases e : pathV d.path with
  | true => rfl
  | false => rw [check3 (.inr (.inl e))] at h; cases h
 have h3 : textV d.text = true := by cases e : textV d.text with
  | true => rfl
  | false => rw [check3 (.inr (.inr (.inl e)))] at h; cases h
 unfold nameV at h1
 rw [Bool.and_eq_true] at h1
 unfold pathV at h1 h2
 unfold textV at h3
 simp only [Bool.and_eq_true] at h1 h2 h3
 exact ⟨Nat.le_trans (of_decide_eq_true h1.1.1) (by decide), Nat.le_trans (of_decide_eq_true h2.1) (by decide), Nat.le_trans (of_decide_eq_true h3.1) (by decide)⟩
theorem scan_two {last : Int} {l : List Doc} {k : Nat} (hk : k < l.length) (h : l[k].id ≤ last ∨ 9999 < l[k].id) : scanV last (l.drop k) = 2 := by
 rw [List.drop_eq_getElem_cons hk, scanV, if_pos h]
theorem scan_chk {last : Int} {l : List Doc} {k : Nat} (hk : k < l.length) (h : ¬ (l[k].id ≤ last ∨ 9999 < l[k].id)) (h2 : ¬ checkV l[k] = 0) : scanV last (l.drop k) = checkV l[k] := by
 rw [List.drop_eq_getElem_cons hk, scanV, if_neg h, if_pos h2]
theorem scan_go {last : Int} {l : List Doc} {k : Nat} (hk : k < l.length) (h : ¬ (l[k].id ≤ last ∨ 9999 < l[k].id)) (h2 : checkV l[k] = 0) : scanV last (l.drop k) = scanV l[k].id (l.drop (k + 1)) := by
 rw [List.drop_eq_getElem_cons hk, scanV, if_neg h, if_neg (by simpa using h2)]
theorem right_long {l : List Doc} (h : 64 < l.length) : rightV l = 4 := by unfold rightV; rw [if_pos h]
theorem right_scan {l : List Doc} {n : Int} (h : l.length ≤ 64) (hs : scanV 0 l = n) (hn : n ≠ 0) : rightV l = n := by
 unfold rightV; rw [if_neg (by omega), if_pos (by rw [hs]; exact hn), hs]
theorem right_end {l : List Doc} (h : l.length ≤ 64) (hs : scanV 0 l = 0) : rightV l = if (l.map keyV).Nodup then 0 else 7 := by
 unfold rightV; rw [if_neg (by omega), if_neg (by rw [hs]; simp)]
def DocsB (B : Nat) (l : List Doc) : Prop := l.length ≤ B ∧ ∀ d ∈ l, DocB B d
set_option maxRecDepth 20000 in
set_option maxHeartbeats 4000000 in
theorem Right_spec (l : List Doc) (hl : DocsB 140737488355328 l) : Spec1 Tryz.prog 11 [.sl 5 false (docsHV l)] (i64 (rightV l)) := by
 have hl0 := hl.1
 refine Spec1.of_HT Tryz.func11 rfl (by rw [Tryz.ntmps11]; simp) rfl ?_
 rw [Tryz.ntmps11]
 refine HT.seq ?_;refine HT.region ?_;simp (disch := first|omega|(simp<;>omega)|fail) [wr3]
 refine HT.seq ?_;refine HT.seq ?_;refine HT.region ?_;simp (disch := first|omega|(simp<;>omega)|fail) [wr3]
 refine HT.cond' ?_;simp (disch := first|omega|(simp<;>omega)|fail) [wr3]
 refine ⟨fun h10 => ?_, fun h10 => ?_⟩
 ·have hx := right_long (show 64 < l.length by omega)
  refine HT.seq ?_;refine HT.region ?_;simp (disch := first|omega|(simp<;>omega)|fail) [wr3]
  refine HT.ret ?_;simp (disch := first|omega|(simp<;>omega)|fail) [wr3, hx]
 ·have hl64 : l.length ≤ 64 := by omega
  refine HT.skip ?_;simp (disch := first|omega|(simp<;>omega)|fail) [wr3]
  refine HT.seq ?_;refine HT.region ?_;simp (disch := first|omega|(simp<;>omega)|fail) [wr3]
  refine HT.seq ?_;refine HT.region ?_;simp (disch := first|omega|(simp<;>omega)|fail) [wr3]
  refine HT.seq ?_;refine HT.seq ?_;refine HT.region ?_;simp (disch := first|omega|(simp<;>omega)|fail) [wr3]
  refine HT.block ?_;refine HT.loopK (fun k : {k : Nat × Int // k.1 ≤ l.length ∧ scanV 0 l = scanV k.2 (l.drop k.1) ∧ (∀ x ∈ keysK l k.1, KB x) ∧ (keysK l k.1).length ≤ k.1} => [.s 14 (i64 k.1.1), .s 3 (i64 k.1.2), .o 11 (.map (seenE (keysK l k.1.1)))]) [0, 4, 12, 13] [] (fun k => l.length - k.1.1) (⟨⟨0, 0⟩, by simp, by simp, by simp [keysK], by simp [keysK]⟩) ?_ ?_
  ·simp (disch := first|omega|(simp<;>omega)|fail) [wr3, keysK, seenE]
  rintro ⟨⟨k, last⟩, hk, hsc, hkb, hks⟩
  simp (disch := first|omega|(simp<;>omega)|fail) [wr3]
  refine HT.seq ?_;refine HT.region ?_;simp (disch := first|omega|(simp<;>omega)|fail) [wr3]
  refine HT.seq ?_;refine HT.cond' ?_;simp (disch := first|omega|(simp<;>omega)|fail) [wr3]
  refine ⟨fun h15 => ?_, fun h15 => ?_⟩
  ·dsimp only at hk hsc hkb hks
   have hk' : k < l.length := by omega
   refine HT.skip ?_;simp (disch := first|omega|(simp<;>omega)|fail) [wr3]
   refine HT.seq ?_;refine HT.block ?_;refine HT.seq ?_;refine HT.region ?_;simp (disch := first|omega|(simp<;>omega)|fail) [wr3]
   refine HT.seq ?_;refine HT.seq ?_
   by_cases a1 : l[k].id ≤ last
   ·refine HT.region ?_;simp (disch := first|omega|(simp<;>omega)|fail) [wr3]
    refine HT.cond' ?_;simp (disch := first|omega|(simp<;>omega)|fail) [wr3]
    refine HT.seq ?_;refine HT.region ?_;simp (disch := first|omega|(simp<;>omega)|fail) [wr3]
    refine HT.ret ?_
    have hx := right_scan hl64 (hsc.trans (scan_two hk' (by omega))) (by decide)
    simp (disch := first|omega|(simp<;>omega)|fail) [wr3, hx]
   by_cases a2 : 9999 < l[k].id
   ·refine HT.region ?_;simp (disch := first|omega|(simp<;>omega)|fail) [wr3]
    refine HT.cond' ?_;simp (disch := first|omega|(simp<;>omega)|fail) [wr3]
    refine HT.seq ?_;refine HT.region ?_;simp (disch := first|omega|(simp<;>omega)|fail) [wr3]
    refine HT.ret ?_
    have hx := right_scan hl64 (hsc.trans (scan_two hk' (by omega))) (by decide)
    simp (disch := first|omega|(simp<;>omega)|fail) [wr3, hx]
   have hn32 : ¬ (l[k].id ≤ last ∨ 9999 < l[k].id) := by omega
   refine HT.region ?_;simp (disch := first|omega|(simp<;>omega)|fail) [wr3]
   refine HT.cond' ?_;simp (disch := first|omega|(simp<;>omega)|fail) [wr3]
   refine HT.skip ?_;simp (disch := first|omega|(simp<;>omega)|fail) [wr3]
   refine HT.seq ?_;refine HT.region ?_;simp (disch := first|omega|(simp<;>omega)|fail) [wr3]
   refine HT.seq ?_;refine HT.seq ?_;refine HT.region ?_;simp (disch := first|omega|(simp<;>omega)|fail) [wr3]
   refine stepK.mk (.call1 _ _ _ _ rfl Ty.hb39 rfl (check_spec l[k] (hl.2 _ (List.getElem_mem hk'))) rfl rfl) ?_
   simp (disch := first|omega|(simp<;>omega)|fail) [wr3]
   refine HT.seq ?_;refine HT.region ?_;simp (disch := first|omega|(simp<;>omega)|fail) [wr3]
   refine HT.cond' ?_;simp (disch := first|omega|(simp<;>omega)|fail) [wr3]
   refine ⟨fun h32 => ?_, fun h32 => ?_⟩
   ·refine HT.seq ?_;refine HT.region ?_;simp (disch := first|omega|(simp<;>omega)|fail) [wr3]
    refine HT.ret ?_
    have hx := right_scan hl64 (hsc.trans (scan_chk hk' hn32 h32)) h32
    simp (disch := first|omega|(simp<;>omega)|fail) [wr3, hx]
   ·refine HT.skip ?_;simp (disch := first|omega|(simp<;>omega)|fail) [wr3]
    have hok : keyH Tryz.prog 10 63 [.str l[k].repo, .str l[k].path, .str l[k].text] = some [.string l[k].repo, .string l[k].path, .string l[k].text] := key85 (check0_KB h32)
    by_cases cf : keyV l[k] ∈ keysK l k
    ·have hf1 : findHV Tryz.prog 63 (.agg [.str l[k].repo, .str l[k].path, .str l[k].text]) (seenE (keysK l k)) 0 = some (some ((keysK l k).idxOf (keyV l[k]), bo true)) := (find_seen (check0_KB h32) (keysK l k) 0 hkb).trans (by rw [if_pos cf, Nat.zero_add])
     have hg1 : (seenE (keysK l k))[(keysK l k).idxOf (keyV l[k])]? = some (.agg [.str l[k].repo, .str l[k].path, .str l[k].text], .lit (.bool true)) := seenE_get cf
     have hs1 : (seenE (keysK l k)).set ((keysK l k).idxOf (keyV l[k])) (.agg [.str l[k].repo, .str l[k].path, .str l[k].text], .lit (.bool true)) = seenE (keysK l k) := seenE_set cf
     refine HT.region ?_;simp (disch := first|omega|(simp<;>omega)|fail) [wr3, hf1, hok, hg1, hs1]
     refine stepK.mk (.call1f _ _ _ _ _ rfl Ty.hb40 rfl rfl (key_spec l[k]) rfl) ?_
     simp (disch := first|omega|(simp<;>omega)|fail) [wr3, hf1, hok, hg1, hs1]
     refine HT.region ?_;simp (disch := first|omega|(simp<;>omega)|fail) [wr3]
     refine Round.mk' (⟨⟨k + 1, l[k].id⟩, by dsimp only; omega, by dsimp only; rw [hsc, scan_go hk' hn32 h32], by dsimp only; rw [keysK_succ hk']; intro x hx; rcases (addA_mem _ _ _).1 hx with hx | rfl; exact hkb x hx; exact check0_KB h32, by dsimp only; rw [keysK_succ hk']; unfold addA; split <;> (try simp only [List.length_append, List.length_singleton]) <;> omega⟩) (by dsimp only; omega) rfl ?_
     simp (disch := first|omega|(simp<;>omega)|fail) [wr3]
     rw [keysK_succ hk', addA]
     simp [cf]
     try exact seenE_snoc _ (keyV l[k])
    have hf1 : findHV Tryz.prog 63 (.agg [.str l[k].repo, .str l[k].path, .str l[k].text]) (seenE (keysK l k)) 0 = some none := (find_seen (check0_KB h32) (keysK l k) 0 hkb).trans (by rw [if_neg cf])
    refine HT.region ?_;simp (disch := first|omega|(simp<;>omega)|fail) [wr3, hf1, hok]
    refine stepK.mk (.call1f _ _ _ _ _ rfl Ty.hb40 rfl rfl (key_spec l[k]) rfl) ?_
    simp (disch := first|omega|(simp<;>omega)|fail) [wr3, hf1, hok]
    refine HT.region ?_;simp (disch := first|omega|(simp<;>omega)|fail) [wr3]
    refine Round.mk' (⟨⟨k + 1, l[k].id⟩, by dsimp only; omega, by dsimp only; rw [hsc, scan_go hk' hn32 h32], by dsimp only; rw [keysK_succ hk']; intro x hx; rcases (addA_mem _ _ _).1 hx with hx | rfl; exact hkb x hx; exact check0_KB h32, by dsimp only; rw [keysK_succ hk']; unfold addA; split <;> (try simp only [List.length_append, List.length_singleton]) <;> omega⟩) (by dsimp only; omega) rfl ?_
    simp (disch := first|omega|(simp<;>omega)|fail) [wr3]
    rw [keysK_succ hk', addA]
    simp [cf]
    try exact seenE_snoc _ (keyV l[k])
  ·dsimp only at hk hsc hkb hks
   obtain rfl : k = l.length := by omega
   have hs0 : scanV 0 l = 0 := by rw [hsc, List.drop_length]; rfl
   have hre := right_end hl64 hs0
   have hkl := keysK_len l
   refine HT.exit ?_
   simp (disch := first|omega|(simp<;>omega)|fail) [wr3]
   refine HT.seq ?_;refine HT.seq ?_;refine HT.region ?_;simp (disch := first|omega|(simp<;>omega)|fail) [wr3]
   refine HT.cond' ?_;simp (disch := first|omega|(simp<;>omega)|fail) [wr3]
   refine ⟨fun h42 => ?_, fun h42 => ?_⟩
   ·refine HT.seq ?_;refine HT.region ?_;simp (disch := first|omega|(simp<;>omega)|fail) [wr3]
    refine HT.ret ?_
    have hx : rightV l = 7 := by rw [hre, if_neg (hkl.1 (by simpa [seenE_length] using h42))]
    simp (disch := first|omega|(simp<;>omega)|fail) [wr3, hx]
   ·refine HT.skip ?_;simp (disch := first|omega|(simp<;>omega)|fail) [wr3]
    refine HT.seq ?_;refine HT.region ?_;simp (disch := first|omega|(simp<;>omega)|fail) [wr3]
    refine HT.ret ?_
    have hx : rightV l = 0 := by
     rw [hre, if_pos (Classical.byContradiction fun h => absurd (hkl.2 h) (by simpa [seenE_length] using h42))]
    simp (disch := first|omega|(simp<;>omega)|fail) [wr3, hx]
def NodTo (l : List Doc) (i : Nat) : Prop := ((l.take i).map keyV).Nodup
def NotTo (l : List Doc) (i k : Nat) : Prop := ∀ (a : Nat) (x : Doc), a < k → l[a]? = some x → ∀ y, l[i]? = some y → ¬ keyV y = keyV x
theorem NotTo.succ {l : List Doc} {i k : Nat} (h : NotTo l i k) (hi : i < l.length) (hk : k < l.length) (hne : ¬ keyV l[i] = keyV l[k]) : NotTo l i (k + 1) := fun a x ha hx y hy => by
 by_cases e : a = k
 ·subst e
  rw [List.getElem?_eq_getElem hk] at hx
  rw [List.getElem?_eq_getElem hi] at hy
  cases hx; cases hy; exact hne
 ·exact h a x (by omega) hx y hy
theorem NodTo.succ {l : List Doc} {i : Nat} (h : NodTo l i) (hi : i < l.length) (hn : NotTo l i i) : NodTo l (i + 1) := by
 unfold NodTo at h ⊢
 rw [List.take_succ_eq_append_getElem hi, List.map_append, List.nodup_append]
 refine ⟨h, by simp, fun x hx y hy => ?_⟩
 obtain ⟨d, hd, rfl⟩ := List.mem_map.1 hx
 obtain ⟨a, ha⟩ := List.mem_iff_getElem?.1 hd
 have hal := getElem?_lt ha
 rw [List.length_take] at hal
 rw [List.getElem?_take_of_lt (by omega)] at ha
 simp at hy
 subst hy
 exact fun e => hn a d (by omega) ha l[i] (List.getElem?_eq_getElem hi) e.symm
theorem not_nod {l : List Doc} {i k : Nat} (hk : k < i) (hi : i < l.length) (h : keyV l[i] = keyV l[k]) : ¬ (l.map keyV).Nodup := fun hn => by
 have h2 := List.pairwise_iff_getElem.1 hn k i (by rw [List.length_map]; omega) (by rw [List.length_map]; exact hi) hk
 rw [List.getElem_map, List.getElem_map] at h2
 exact h2 h.symm
def ChkTo (l : List Doc) (k : Nat) : Prop := ∀ (i : Nat) (h : i < l.length), i < k → checkV l[i] = 0
theorem ChkTo.succ {l : List Doc} {k : Nat} (h : ChkTo l k) (hk : k < l.length) (hc : checkV l[k] = 0) : ChkTo l (k + 1) := fun i hi hik => by
 by_cases e : i = k
 ·subst e; exact hc
 ·exact h i hi (by omega)
def lastV (l : List Doc) : Nat → Int
 | 0 => 0
 | k + 1 => match l[k]? with
  | some d => d.id
  | none => 0
theorem lastV_succ {l : List Doc} {k : Nat} (hk : k < l.length) : lastV l (k + 1) = l[k].id := by simp only [lastV, List.getElem?_eq_getElem hk]
set_option maxRecDepth 20000 in
set_option maxHeartbeats 8000000 in
theorem refRight_spec (l : List Doc) (hl : DocsB 140737488355328 l) : Spec1 Tryz.prog 12 [.sl 5 false (docsHV l)] (i64 (rightV l)) := by
 have hl0 := hl.1
 refine Spec1.of_HT Tryz.func12 rfl (by rw [Tryz.ntmps12]; simp) rfl ?_
 rw [Tryz.ntmps12]
 refine HT.seq ?_;refine HT.region ?_;simp (disch := first|omega|(simp<;>omega)|fail) [wr3]
 refine HT.seq ?_;refine HT.seq ?_;refine HT.region ?_;simp (disch := first|omega|(simp<;>omega)|fail) [wr3]
 refine HT.cond' ?_;simp (disch := first|omega|(simp<;>omega)|fail) [wr3]
 refine ⟨fun h9 => ?_, fun h9 => ?_⟩
 ·have hx := right_long (show 64 < l.length by omega)
  refine HT.seq ?_;refine HT.region ?_;simp (disch := first|omega|(simp<;>omega)|fail) [wr3]
  refine HT.ret ?_;simp (disch := first|omega|(simp<;>omega)|fail) [wr3, hx]
 ·have hl64 : l.length ≤ 64 := by omega
  refine HT.skip ?_;simp (disch := first|omega|(simp<;>omega)|fail) [wr3]
  refine HT.seq ?_;refine HT.seq ?_;refine HT.region ?_;simp (disch := first|omega|(simp<;>omega)|fail) [wr3]
  refine HT.block ?_;refine HT.loopK (fun k : {k : Nat // k ≤ l.length ∧ scanV 0 l = scanV (lastV l k) (l.drop k) ∧ ChkTo l k ∧ 0 ≤ lastV l k} => [.s 3 (i64 k)]) [0] [] (fun k => l.length - k) (⟨0, by omega, rfl, fun i h hi => absurd hi (Nat.not_lt_zero _), by simp [lastV]⟩) ?_ ?_
  ·simp (disch := first|omega|(simp<;>omega)|fail) [wr3]
  rintro ⟨k, hk, hsc, hck, hla⟩
  simp (disch := first|omega|(simp<;>omega)|fail) [wr3]
  refine HT.seq ?_;refine HT.seq ?_;refine HT.region ?_;simp (disch := first|omega|(simp<;>omega)|fail) [wr3]
  refine HT.cond' ?_;simp (disch := first|omega|(simp<;>omega)|fail) [wr3]
  refine ⟨fun h13 => ?_, fun h13 => ?_⟩
  ·have hk' : k < l.length := by omega
   refine HT.skip ?_;simp (disch := first|omega|(simp<;>omega)|fail) [wr3]
   refine HT.seq ?_;refine HT.block ?_;refine HT.seq ?_;refine HT.seq ?_
   by_cases a1 : l[k].id < 1
   ·refine HT.draw [.batch [0, 1, 2, 3, 4, 5, 6, 7, 8, 9, 10, 11, 12, 13, 14, 15, 16, 17, 18, 19, 20, 21, 22, 23, 24, 25, 26, 27, 28, 29, 30, 31]] (by kernel_rfl) ?_
    simp (disch := first|omega|(simp<;>omega)|fail) [wr3]
    refine HT.cond' ?_;simp (disch := first|omega|(simp<;>omega)|fail) [wr3]
    refine HT.seq ?_;refine HT.region ?_;simp (disch := first|omega|(simp<;>omega)|fail) [wr3]
    refine HT.ret ?_
    have hx := right_scan hl64 (hsc.trans (scan_two hk' (by omega))) (by decide)
    simp (disch := first|omega|(simp<;>omega)|fail) [wr3, hx]
   by_cases a2 : 9999 < l[k].id
   ·refine HT.draw [.batch [0, 1, 2, 3, 4, 5, 6, 7, 8, 9, 10, 11, 12, 13, 14, 15, 16, 17, 18, 19, 20, 21, 22, 23, 24, 25, 26, 27, 28, 29, 30, 31]] (by kernel_rfl) ?_
    simp (disch := first|omega|(simp<;>omega)|fail) [wr3]
    refine HT.cond' ?_;simp (disch := first|omega|(simp<;>omega)|fail) [wr3]
    refine HT.seq ?_;refine HT.region ?_;simp (disch := first|omega|(simp<;>omega)|fail) [wr3]
    refine HT.ret ?_
    have hx := right_scan hl64 (hsc.trans (scan_two hk' (by omega))) (by decide)
    simp (disch := first|omega|(simp<;>omega)|fail) [wr3, hx]
   by_cases a0 : k = 0
   ·have hn32 : ¬ (l[k].id ≤ lastV l k ∨ 9999 < l[k].id) := by subst a0; simp only [lastV]; omega
    refine HT.draw [.batch [0, 1, 2, 3, 4, 5, 6, 7, 8, 9, 10, 11, 12, 13, 14, 15, 16, 17, 18, 19, 20, 21, 22, 23, 24, 25, 26, 27, 28, 29, 30, 31]] (by kernel_rfl) ?_
    simp (disch := first|omega|(simp<;>omega)|fail) [wr3]
    refine HT.cond' ?_;simp (disch := first|omega|(simp<;>omega)|fail) [wr3]
    refine HT.skip ?_;simp (disch := first|omega|(simp<;>omega)|fail) [wr3]
    refine HT.seq ?_;refine HT.region ?_;simp (disch := first|omega|(simp<;>omega)|fail) [wr3]
    refine stepK.mk (.call1 _ _ _ _ rfl Ty.hb41 rfl (fields_spec l[k] (hl.2 _ (List.getElem_mem hk'))) rfl rfl) ?_
    simp (disch := first|omega|(simp<;>omega)|fail) [wr3]
    refine HT.seq ?_;refine HT.region ?_;simp (disch := first|omega|(simp<;>omega)|fail) [wr3]
    refine HT.cond' ?_;simp (disch := first|omega|(simp<;>omega)|fail) [wr3]
    refine ⟨fun h54 => ?_, fun h54 => ?_⟩
    ·refine HT.seq ?_;refine HT.region ?_;simp (disch := first|omega|(simp<;>omega)|fail) [wr3]
     refine HT.ret ?_
     have hx := right_scan hl64 (hsc.trans (scan_chk hk' hn32 h54)) h54
     simp (disch := first|omega|(simp<;>omega)|fail) [wr3, hx]
    ·refine HT.skip ?_;simp (disch := first|omega|(simp<;>omega)|fail) [wr3]
     refine HT.region ?_;simp (disch := first|omega|(simp<;>omega)|fail) [wr3]
     refine Round.mk' (⟨k + 1, by omega, by rw [hsc, scan_go hk' hn32 h54, lastV_succ hk'], hck.succ hk' h54, by rw [lastV_succ hk']; omega⟩) (by dsimp only; omega) rfl ?_
     simp (disch := first|omega|(simp<;>omega)|fail) [wr3]
   have hj' : k - 1 < l.length := by omega
   have hll : lastV l k = l[k - 1].id := by have := lastV_succ hj'; rwa [show k - 1 + 1 = k by omega] at this
   have hk1 : ((k : Int) - 1).toNat = k - 1 := by omega
   by_cases a3 : l[k].id ≤ l[k - 1].id
   ·rw [← hll] at a3
    refine HT.draw [.batch [0, 1, 2, 3, 4, 5, 6, 7, 8, 9, 10, 11, 12, 13, 14, 15, 16, 17, 18, 19, 20, 21, 22, 23, 24, 25, 26, 27, 28, 29, 30, 31]] (by kernel_rfl) ?_
    simp (disch := first|omega|(simp<;>omega)|fail) [wr3, hk1]
    refine HT.cond' ?_;simp (disch := first|omega|(simp<;>omega)|fail) [wr3]
    refine HT.seq ?_;refine HT.region ?_;simp (disch := first|omega|(simp<;>omega)|fail) [wr3]
    refine HT.ret ?_
    have hx := right_scan hl64 (hsc.trans (scan_two hk' (by omega))) (by decide)
    simp (disch := first|omega|(simp<;>omega)|fail) [wr3, hx]
   have hn32 : ¬ (l[k].id ≤ lastV l k ∨ 9999 < l[k].id) := by omega
   refine HT.draw [.batch [0, 1, 2, 3, 4, 5, 6, 7, 8, 9, 10, 11, 12, 13, 14, 15, 16, 17, 18, 19, 20, 21, 22, 23, 24, 25, 26, 27, 28, 29, 30, 31]] (by kernel_rfl) ?_
   simp (disch := first|omega|(simp<;>omega)|fail) [wr3, hk1]
   refine HT.cond' ?_;simp (disch := first|omega|(simp<;>omega)|fail) [wr3]
   refine HT.skip ?_;simp (disch := first|omega|(simp<;>omega)|fail) [wr3]
   refine HT.seq ?_;refine HT.region ?_;simp (disch := first|omega|(simp<;>omega)|fail) [wr3]
   refine stepK.mk (.call1 _ _ _ _ rfl Ty.hb41 rfl (fields_spec l[k] (hl.2 _ (List.getElem_mem hk'))) rfl rfl) ?_
   simp (disch := first|omega|(simp<;>omega)|fail) [wr3]
   refine HT.seq ?_;refine HT.region ?_;simp (disch := first|omega|(simp<;>omega)|fail) [wr3]
   refine HT.cond' ?_;simp (disch := first|omega|(simp<;>omega)|fail) [wr3]
   refine ⟨fun h54 => ?_, fun h54 => ?_⟩
   ·refine HT.seq ?_;refine HT.region ?_;simp (disch := first|omega|(simp<;>omega)|fail) [wr3]
    refine HT.ret ?_
    have hx := right_scan hl64 (hsc.trans (scan_chk hk' hn32 h54)) h54
    simp (disch := first|omega|(simp<;>omega)|fail) [wr3, hx]
   ·refine HT.skip ?_;simp (disch := first|omega|(simp<;>omega)|fail) [wr3]
    refine HT.region ?_;simp (disch := first|omega|(simp<;>omega)|fail) [wr3]
    refine Round.mk' (⟨k + 1, by omega, by rw [hsc, scan_go hk' hn32 h54, lastV_succ hk'], hck.succ hk' h54, by rw [lastV_succ hk']; omega⟩) (by dsimp only; omega) rfl ?_
    simp (disch := first|omega|(simp<;>omega)|fail) [wr3]
  ·obtain rfl : k = l.length := by omega
   have hs0 : scanV 0 l = 0 := by rw [hsc, List.drop_length]; rfl
   have hre := right_end hl64 hs0
   refine HT.exit ?_
   simp (disch := first|omega|(simp<;>omega)|fail) [wr3]
   refine HT.seq ?_;refine HT.seq ?_;refine HT.region ?_;simp (disch := first|omega|(simp<;>omega)|fail) [wr3]
   refine HT.block ?_;refine HT.loopK (fun i : {i : Nat // i ≤ l.length ∧ NodTo l i} => [.s 5 (i64 i)]) [0] [] (fun i => l.length - i) (⟨0, by omega, by simp [NodTo]⟩) ?_ ?_
   ·simp (disch := first|omega|(simp<;>omega)|fail) [wr3]
   rintro ⟨i, hi, hno⟩
   simp (disch := first|omega|(simp<;>omega)|fail) [wr3]
   refine HT.seq ?_;refine HT.seq ?_;refine HT.region ?_;simp (disch := first|omega|(simp<;>omega)|fail) [wr3]
   refine HT.cond' ?_;simp (disch := first|omega|(simp<;>omega)|fail) [wr3]
   refine ⟨fun h59 => ?_, fun h59 => ?_⟩
   ·have hi' : i < l.length := by omega
    refine HT.skip ?_;simp (disch := first|omega|(simp<;>omega)|fail) [wr3]
    refine HT.seq ?_;refine HT.block ?_;refine HT.seq ?_;refine HT.region ?_;simp (disch := first|omega|(simp<;>omega)|fail) [wr3]
    refine HT.block ?_;refine HT.loopK (fun k : {k : Nat // k ≤ i ∧ NotTo l i k} => [.s 6 (i64 k)]) [0, 5] [] (fun k => i - k) (⟨0, by omega, fun a x ha => absurd ha (Nat.not_lt_zero _)⟩) ?_ ?_
    ·simp (disch := first|omega|(simp<;>omega)|fail) [wr3]
    rintro ⟨k, hk2, hnt⟩
    simp (disch := first|omega|(simp<;>omega)|fail) [wr3]
    refine HT.seq ?_;refine HT.seq ?_;refine HT.region ?_;simp (disch := first|omega|(simp<;>omega)|fail) [wr3]
    refine HT.cond' ?_;simp (disch := first|omega|(simp<;>omega)|fail) [wr3]
    refine ⟨fun h64 => ?_, fun h64 => ?_⟩
    ·have hki : k < i := by omega
     have hkl : k < l.length := by omega
     refine HT.skip ?_;simp (disch := first|omega|(simp<;>omega)|fail) [wr3]
     refine HT.seq ?_;refine HT.block ?_;refine HT.seq ?_
     have hke : aggEq Tryz.prog 63 [.str l[i].repo, .str l[i].path, .str l[i].text] [.str l[k].repo, .str l[k].path, .str l[k].text] = some (decide (keyV l[i] = keyV l[k])) := aggEq85 (check0_KB (hck i hi' hi')) (check0_KB (hck k hkl hkl))
     by_cases c77 : keyV l[i] = keyV l[k]
     ·refine HT.draw [.batch [0, 1, 2, 3, 4, 5, 6, 7, 8, 9, 10]] (by kernel_rfl) ?_
      simp (disch := first|omega|(simp<;>omega)|fail) [wr3, hke, c77]
      refine stepK.mk (.call1 _ _ _ rfl Ty.hb34 rfl rfl (rKey_spec l[i])) ?_
      simp (disch := first|omega|(simp<;>omega)|fail) [wr3, hke, c77]
      refine stepK.mk (.call1 _ _ _ rfl Ty.hb34 rfl rfl (rKey_spec l[k])) ?_
      simp (disch := first|omega|(simp<;>omega)|fail) [wr3, hke, c77]
      refine HT.cond' ?_;simp (disch := first|omega|(simp<;>omega)|fail) [wr3]
      refine HT.seq ?_;refine HT.region ?_;simp (disch := first|omega|(simp<;>omega)|fail) [wr3]
      refine HT.ret ?_
      have hx : rightV l = 7 := by rw [hre, if_neg (not_nod hki hi' c77)]
      simp (disch := first|omega|(simp<;>omega)|fail) [wr3, hx]
     refine HT.draw [.batch [0, 1, 2, 3, 4, 5, 6, 7, 8, 9, 10]] (by kernel_rfl) ?_
     simp (disch := first|omega|(simp<;>omega)|fail) [wr3, hke, c77]
     refine stepK.mk (.call1 _ _ _ rfl Ty.hb34 rfl rfl (rKey_spec l[i])) ?_
     simp (disch := first|omega|(simp<;>omega)|fail) [wr3, hke, c77]
     refine stepK.mk (.call1 _ _ _ rfl Ty.hb34 rfl rfl (rKey_spec l[k])) ?_
     simp (disch := first|omega|(simp<;>omega)|fail) [wr3, hke, c77]
     refine HT.cond' ?_;simp (disch := first|omega|(simp<;>omega)|fail) [wr3]
     refine HT.skip ?_;simp (disch := first|omega|(simp<;>omega)|fail) [wr3]
     refine HT.region ?_;simp (disch := first|omega|(simp<;>omega)|fail) [wr3]
     refine Round.mk' (⟨k + 1, by omega, hnt.succ hi' (by omega) c77⟩) (by dsimp only; omega) rfl ?_
     simp (disch := first|omega|(simp<;>omega)|fail) [wr3]
    ·obtain rfl : i = k := by omega
     refine HT.exit ?_
     simp (disch := first|omega|(simp<;>omega)|fail) [wr3]
     refine HT.region ?_;simp (disch := first|omega|(simp<;>omega)|fail) [wr3]
     refine Round.mk' (⟨i + 1, by omega, hno.succ hi' hnt⟩) (by dsimp only; omega) rfl ?_
     simp (disch := first|omega|(simp<;>omega)|fail) [wr3]
   ·obtain rfl : i = l.length := by omega
    have hnod : (l.map keyV).Nodup := by unfold NodTo at hno; rwa [List.take_length] at hno
    refine HT.exit ?_
    simp (disch := first|omega|(simp<;>omega)|fail) [wr3]
    refine HT.seq ?_;refine HT.region ?_;simp (disch := first|omega|(simp<;>omega)|fail) [wr3]
    refine HT.ret ?_
    have hx : rightV l = 0 := by rw [hre, if_pos hnod]
    simp (disch := first|omega|(simp<;>omega)|fail) [wr3, hx]
end Go.Hv
set_option linter.unusedVariables false
namespace Go.Hv
theorem agreeX {α : Type} {a b : List α} {k : Nat} (hg : ∀ i, i < k → a[i]? = b[i]?) (h : a[k]? = b[k]?) : ∀ i, i < k + 1 → a[i]? = b[i]? := fun i hi => by
 by_cases e : i = k
 ·subst e; exact h
 ·exact hg i (by omega)
theorem extX {α : Type} {a b : List α} (hl : a.length = b.length) (hg : ∀ i, i < a.length → a[i]? = b[i]?) : a = b := by
 apply List.ext_getElem?
 intro i
 rcases Nat.lt_or_ge i a.length with h | h
 ·exact hg i h
 ·rw [List.getElem?_eq_none h, List.getElem?_eq_none (by omega)]
end Go.Hv
set_option linter.unusedVariables false
set_option linter.unusedSimpArgs false
namespace Go.Hv
open Go Go.Hv Go.Proofs Go.RowKit
open Go.Proofs.YtcmomegkhoggpaaGreatDoor
theorem ne_len {α : Type} {a b : List α} (h : ¬ a.length = b.length) : ¬ a = b := fun e => h (by rw [e])
theorem ne_at {α : Type} {a b : List α} {k : Nat} (ha : k < a.length) (hb : k < b.length) (h : ¬ a[k] = b[k]) : ¬ a = b := fun e => by subst e; exact h rfl
set_option maxHeartbeats 2000000 in
theorem Strings_spec (a b : List (List UInt8)) (ha : a.length ≤ 140737488355328) : Spec1 Tryz.prog 33 [.sl 1 false (strsHV a), .sl 1 false (strsHV b)] (bo (decide (a = b))) := by
 refine Spec1.of_HT Tryz.func33 rfl (by rw [Tryz.ntmps33]; simp) rfl ?_
 rw [Tryz.ntmps33]
 refine HT.seq ?_;refine HT.region ?_;simp (disch := first|omega|(simp<;>omega)|fail) [wr3]
 refine HT.seq ?_;refine HT.seq ?_
 by_cases c1 : ¬ a.length = b.length
 ·refine HT.region ?_;simp (disch := first|omega|(simp<;>omega)|fail) [wr3]
  refine HT.cond' ?_;simp (disch := first|omega|(simp<;>omega)|fail) [wr3]
  refine HT.seq ?_;refine HT.region ?_;simp (disch := first|omega|(simp<;>omega)|fail) [wr3]
  refine HT.ret ?_;simp (disch := first|omega|(simp<;>omega)|fail) [wr3, ne_len c1]
 refine HT.region ?_;simp (disch := first|omega|(simp<;>omega)|fail) [wr3]
 refine HT.cond' ?_;simp (disch := first|omega|(simp<;>omega)|fail) [wr3]
 refine HT.skip ?_;simp (disch := first|omega|(simp<;>omega)|fail) [wr3]
 refine HT.seq ?_;refine HT.seq ?_;refine HT.region ?_;simp (disch := first|omega|(simp<;>omega)|fail) [wr3]
 refine HT.block ?_;refine HT.loopK (fun k : {k : Nat // k ≤ a.length ∧ ∀ i, i < k → a[i]? = b[i]?} => [.s 5 (i64 k)]) [0, 1] [] (fun k => a.length - k) (⟨0, by omega, by intro i hi; omega⟩) ?_ ?_
 ·simp (disch := first|omega|(simp<;>omega)|fail) [wr3]
 rintro ⟨k, hk, hg⟩
 simp (disch := first|omega|(simp<;>omega)|fail) [wr3]
 refine HT.seq ?_;refine HT.seq ?_;refine HT.region ?_;simp (disch := first|omega|(simp<;>omega)|fail) [wr3]
 refine HT.cond' ?_;simp (disch := first|omega|(simp<;>omega)|fail) [wr3]
 refine ⟨fun h14 => ?_, fun h14 => ?_⟩
 ·have hk' : k < a.length := by omega
  have hkb : k < b.length := by omega
  refine HT.skip ?_;simp (disch := first|omega|(simp<;>omega)|fail) [wr3]
  refine HT.seq ?_;refine HT.block ?_;refine HT.seq ?_
  by_cases d1 : ¬ a[k] = b[k]
  ·refine HT.draw [.batch [0, 1, 2, 3, 4, 5, 6, 7, 8]] (by kernel_rfl) ?_
   simp (disch := first|omega|(simp<;>omega)|fail) [wr3, d1]
   refine HT.cond' ?_;simp (disch := first|omega|(simp<;>omega)|fail) [wr3]
   refine HT.seq ?_;refine HT.region ?_;simp (disch := first|omega|(simp<;>omega)|fail) [wr3]
   refine HT.ret ?_;simp (disch := first|omega|(simp<;>omega)|fail) [wr3, ne_at hk' hkb d1]
  rw [Classical.not_not] at d1
  refine HT.draw [.batch [0, 1, 2, 3, 4, 5, 6, 7, 8]] (by kernel_rfl) ?_
  simp (disch := first|omega|(simp<;>omega)|fail) [wr3, d1]
  refine HT.cond' ?_;simp (disch := first|omega|(simp<;>omega)|fail) [wr3]
  refine HT.skip ?_;simp (disch := first|omega|(simp<;>omega)|fail) [wr3]
  refine HT.region ?_;simp (disch := first|omega|(simp<;>omega)|fail) [wr3]
  refine Round.mk' (⟨k + 1, by omega, agreeX hg (by rw [List.getElem?_eq_getElem hk', List.getElem?_eq_getElem hkb, d1])⟩) (by dsimp only; omega) rfl ?_
  simp (disch := first|omega|(simp<;>omega)|fail) [wr3]
 ·obtain rfl : k = a.length := by omega
  refine HT.exit ?_
  simp (disch := first|omega|(simp<;>omega)|fail) [wr3]
  refine HT.seq ?_;refine HT.region ?_;simp (disch := first|omega|(simp<;>omega)|fail) [wr3]
  refine HT.ret ?_
  have hx : a = b := extX (by omega) hg
  simp (disch := first|omega|(simp<;>omega)|fail) [wr3, hx]
def DocQ (d : Doc) : Prop := d.repo.length ≤ 140737488355328 ∧ d.path.length ≤ 140737488355328 ∧ d.text.length ≤ 140737488355328 ∧ d.on.length ≤ 140737488355328 ∧ ∀ s ∈ d.on, s.length ≤ 140737488355328
theorem DocQ.kb {d : Doc} (h : DocQ d) : KB (keyV d) := ⟨by have := h.1; show d.repo.length ≤ _; (unfold DocQ at h; omega), by have := h.2.1; show d.path.length ≤ _; (unfold DocQ at h; omega), by have := h.2.2.1; show d.text.length ≤ _; (unfold DocQ at h; omega)⟩
theorem doc_eq {d e : Doc} (h1 : d.id = e.id) (h2 : keyV d = keyV e) : (d = e) = (d.on = e.on) := by
 cases d; cases e
 simp only [keyV, Prod.mk.injEq] at h2
 simp only at h1
 simp [h1, h2.1, h2.2.1, h2.2.2]
set_option maxHeartbeats 4000000 in
set_option maxRecDepth 20000 in
theorem SameDoc_spec (d e : Doc) (hd : DocQ d) (he : DocQ e) : Spec1 Tryz.prog 25 [.agg d.enc, .agg e.enc] (bo (decide (d = e))) := by
 have hon := hd.2.2.2.1
 have hke : aggEq Tryz.prog 63 [.str d.repo, .str d.path, .str d.text] [.str e.repo, .str e.path, .str e.text] = some (decide (keyV d = keyV e)) := aggEq85 hd.kb he.kb
 refine Spec1.of_HT Tryz.func25 rfl (by rw [Tryz.ntmps25]; simp) rfl ?_
 rw [Tryz.ntmps25]
 refine HT.seq ?_;refine HT.region ?_;simp (disch := first|omega|(simp<;>omega)|fail) [wr3]
 refine HT.seq ?_
 by_cases d1 : ¬ d.id = e.id
 ·refine HT.draw [.batch [0, 1, 2, 3, 4, 5, 6, 7, 8, 9, 10, 11, 12, 13, 14, 15, 16, 17, 18, 19]] (by kernel_rfl) ?_
  simp -dsimp (disch := first|omega|(simp<;>omega)|fail) [wr3]
  refine HT.ret ?_
  first | (have hx : ¬ d = e := (fun h => d1 (by rw [h])); simp (disch := first|omega|(simp<;>omega)|fail) [wr3, hx]; done) | (have hx : ¬ d = e := (fun h => d2 (by rw [h])); simp (disch := first|omega|(simp<;>omega)|fail) [wr3, hx]; done) | (have hx := doc_eq d1 d2; simp (disch := first|omega|(simp<;>omega)|fail) [wr3, hx]; done)
 rw [Classical.not_not] at d1
 by_cases d2 : ¬ keyV d = keyV e
 ·refine HT.draw [.batch [0, 1, 2, 3, 4, 5, 6, 7, 8, 9, 10, 11, 12, 13, 14, 15, 16, 17, 18, 19]] (by kernel_rfl) ?_
  simp -dsimp (disch := first|omega|(simp<;>omega)|fail) [wr3, hke, d2]
  refine stepK.mk (.call1 _ _ _ rfl Ty.hb34 rfl rfl (rKey_spec d)) ?_
  simp -dsimp (disch := first|omega|(simp<;>omega)|fail) [wr3, hke, d2]
  refine stepK.mk (.call1 _ _ _ rfl Ty.hb34 rfl rfl (rKey_spec e)) ?_
  simp -dsimp (disch := first|omega|(simp<;>omega)|fail) [wr3, hke, d2]
  refine HT.ret ?_
  first | (have hx : ¬ d = e := (fun h => d1 (by rw [h])); simp (disch := first|omega|(simp<;>omega)|fail) [wr3, hx]; done) | (have hx : ¬ d = e := (fun h => d2 (by rw [h])); simp (disch := first|omega|(simp<;>omega)|fail) [wr3, hx]; done) | (have hx := doc_eq d1 d2; simp (disch := first|omega|(simp<;>omega)|fail) [wr3, hx]; done)
 rw [Classical.not_not] at d2
 refine HT.draw [.batch [0, 1, 2, 3, 4, 5, 6, 7, 8, 9, 10, 11, 12, 13, 14, 15, 16, 17, 18, 19]] (by kernel_rfl) ?_
 simp -dsimp (disch := first|omega|(simp<;>omega)|fail) [wr3, hke, d2]
 refine stepK.mk (.call1 _ _ _ rfl Ty.hb34 rfl rfl (rKey_spec d)) ?_
 simp -dsimp (disch := first|omega|(simp<;>omega)|fail) [wr3, hke, d2]
 refine stepK.mk (.call1 _ _ _ rfl Ty.hb34 rfl rfl (rKey_spec e)) ?_
 simp -dsimp (disch := first|omega|(simp<;>omega)|fail) [wr3, hke, d2]
 refine stepK.mk (.call1 _ _ _ rfl Ty.hb33 rfl rfl (Strings_spec d.on e.on (by omega))) ?_
 simp -dsimp (disch := first|omega|(simp<;>omega)|fail) [wr3, hke, d2]
 refine HT.ret ?_
 first | (have hx : ¬ d = e := (fun h => d1 (by rw [h])); simp (disch := first|omega|(simp<;>omega)|fail) [wr3, hx]; done) | (have hx : ¬ d = e := (fun h => d2 (by rw [h])); simp (disch := first|omega|(simp<;>omega)|fail) [wr3, hx]; done) | (have hx := doc_eq d1 d2; simp (disch := first|omega|(simp<;>omega)|fail) [wr3, hx]; done)
end Go.Hv
set_option linter.unusedVariables false
set_option linter.unusedSimpArgs false
namespace Go.Hv
open Go Go.Hv Go.Proofs Go.RowKit
open Go.Proofs.YtcmomegkhoggpaaGreatDoor
set_option maxHeartbeats 2000000 in
theorem EqS_spec (a b : List (List UInt8)) (ha : a.length ≤ 140737488355328) : Spec1 Tryz.prog 42 [.sl 1 false (strsHV a), .sl 1 false (strsHV b)] (bo (decide (a = b))) := by
 refine Spec1.of_HT Tryz.func42 rfl (by rw [Tryz.ntmps42]; simp) rfl ?_
 rw [Tryz.ntmps42]
 refine HT.seq ?_;refine HT.region ?_;simp (disch := first|omega|(simp<;>omega)|fail) [wr3]
 refine HT.seq ?_;refine HT.seq ?_
 by_cases c1 : ¬ a.length = b.length
 ·refine HT.region ?_;simp (disch := first|omega|(simp<;>omega)|fail) [wr3]
  refine HT.cond' ?_;simp (disch := first|omega|(simp<;>omega)|fail) [wr3]
  refine HT.seq ?_;refine HT.region ?_;simp (disch := first|omega|(simp<;>omega)|fail) [wr3]
  refine HT.ret ?_;simp (disch := first|omega|(simp<;>omega)|fail) [wr3, ne_len c1]
 refine HT.region ?_;simp (disch := first|omega|(simp<;>omega)|fail) [wr3]
 refine HT.cond' ?_;simp (disch := first|omega|(simp<;>omega)|fail) [wr3]
 refine HT.skip ?_;simp (disch := first|omega|(simp<;>omega)|fail) [wr3]
 refine HT.seq ?_;refine HT.seq ?_;refine HT.region ?_;simp (disch := first|omega|(simp<;>omega)|fail) [wr3]
 refine HT.block ?_;refine HT.loopK (fun k : {k : Nat // k ≤ a.length ∧ ∀ i, i < k → a[i]? = b[i]?} => [.s 13 (i64 k)]) [0, 1, 12] [] (fun k => a.length - k) (⟨0, by omega, by intro i hi; omega⟩) ?_ ?_
 ·simp (disch := first|omega|(simp<;>omega)|fail) [wr3]
 rintro ⟨k, hk, hg⟩
 simp (disch := first|omega|(simp<;>omega)|fail) [wr3]
 refine HT.seq ?_;refine HT.region ?_;simp (disch := first|omega|(simp<;>omega)|fail) [wr3]
 refine HT.seq ?_;refine HT.cond' ?_;simp (disch := first|omega|(simp<;>omega)|fail) [wr3]
 refine ⟨fun h14 => ?_, fun h14 => ?_⟩
 ·have hk' : k < a.length := by omega
  have hkb : k < b.length := by omega
  refine HT.skip ?_;simp (disch := first|omega|(simp<;>omega)|fail) [wr3]
  refine HT.seq ?_;refine HT.block ?_;refine HT.seq ?_;refine HT.region ?_;simp (disch := first|omega|(simp<;>omega)|fail) [wr3]
  refine HT.seq ?_
  by_cases d1 : ¬ a[k] = b[k]
  ·refine HT.draw [.batch [0, 1, 2, 3, 4, 5, 6, 7, 8]] (by kernel_rfl) ?_
   simp (disch := first|omega|(simp<;>omega)|fail) [wr3, d1]
   refine HT.cond' ?_;simp (disch := first|omega|(simp<;>omega)|fail) [wr3]
   refine HT.seq ?_;refine HT.region ?_;simp (disch := first|omega|(simp<;>omega)|fail) [wr3]
   refine HT.ret ?_;simp (disch := first|omega|(simp<;>omega)|fail) [wr3, ne_at hk' hkb d1]
  rw [Classical.not_not] at d1
  refine HT.draw [.batch [0, 1, 2, 3, 4, 5, 6, 7, 8]] (by kernel_rfl) ?_
  simp (disch := first|omega|(simp<;>omega)|fail) [wr3, d1]
  refine HT.cond' ?_;simp (disch := first|omega|(simp<;>omega)|fail) [wr3]
  refine HT.skip ?_;simp (disch := first|omega|(simp<;>omega)|fail) [wr3]
  refine HT.region ?_;simp (disch := first|omega|(simp<;>omega)|fail) [wr3]
  refine Round.mk' (⟨k + 1, by omega, agreeX hg (by rw [List.getElem?_eq_getElem hk', List.getElem?_eq_getElem hkb, d1])⟩) (by dsimp only; omega) rfl ?_
  simp (disch := first|omega|(simp<;>omega)|fail) [wr3]
 ·obtain rfl : k = a.length := by omega
  refine HT.exit ?_
  simp (disch := first|omega|(simp<;>omega)|fail) [wr3]
  refine HT.seq ?_;refine HT.region ?_;simp (disch := first|omega|(simp<;>omega)|fail) [wr3]
  refine HT.ret ?_
  have hx : a = b := extX (by omega) hg
  simp (disch := first|omega|(simp<;>omega)|fail) [wr3, hx]
def ApartTo (a b : List Doc) (i : Nat) : Prop := ∀ (k : Nat) (x : Doc), k < i → a[k]? = some x → ∀ y ∈ b, ¬ x.id = y.id
def FarTo (b : List Doc) (n : Int) (j : Nat) : Prop := ∀ (k : Nat) (y : Doc), k < j → b[k]? = some y → ¬ n = y.id
theorem FarTo.succ {b : List Doc} {n : Int} {j : Nat} (h : FarTo b n j) (hj : j < b.length) (hne : ¬ n = b[j].id) : FarTo b n (j + 1) := fun k y hk hy => by
 by_cases e : k = j
 ·subst e; rw [List.getElem?_eq_getElem hj] at hy; cases hy; exact hne
 ·exact h k y (by omega) hy
theorem ApartTo.succ {a b : List Doc} {i : Nat} (h : ApartTo a b i) (hi : i < a.length) (hf : FarTo b a[i].id b.length) : ApartTo a b (i + 1) := fun k x hk hx y hy => by
 by_cases e : k = i
 ·subst e
  rw [List.getElem?_eq_getElem hi] at hx; cases hx
  obtain ⟨j, hj⟩ := List.mem_iff_getElem?.1 hy
  exact hf j y (getElem?_lt hj) hj
 ·exact h k x (by omega) hx y hy
end Go.Hv
set_option linter.unusedVariables false
set_option linter.unusedSimpArgs false
namespace Go.Hv
open Go Go.Hv Go.Proofs Go.RowKit
open Go.Proofs.YtcmomegkhoggpaaGreatDoor
set_option maxHeartbeats 4000000 in
set_option maxRecDepth 20000 in
theorem dSame_spec (a b : List Doc) (ha : a.length ≤ 1000000) (hA : ∀ d ∈ a, DocQ d) (hB : ∀ d ∈ b, DocQ d) : Spec1 Tryz.prog 13 [.sl 5 false (docsHV a), .sl 5 false (docsHV b)] (bo (decide (a = b))) := by
 refine Spec1.of_HT Tryz.func13 rfl (by rw [Tryz.ntmps13]; simp) rfl ?_
 rw [Tryz.ntmps13]
 refine HT.seq ?_;refine HT.region ?_;simp (disch := first|omega|(simp<;>omega)|fail) [wr3]
 refine HT.seq ?_;refine HT.seq ?_
 by_cases c1 : ¬ a.length = b.length
 ·refine HT.region ?_;simp (disch := first|omega|(simp<;>omega)|fail) [wr3]
  refine HT.cond' ?_;simp (disch := first|omega|(simp<;>omega)|fail) [wr3]
  refine HT.seq ?_;refine HT.region ?_;simp (disch := first|omega|(simp<;>omega)|fail) [wr3]
  refine HT.ret ?_;simp (disch := first|omega|(simp<;>omega)|fail) [wr3, ne_len c1]
 refine HT.region ?_;simp (disch := first|omega|(simp<;>omega)|fail) [wr3]
 refine HT.cond' ?_;simp (disch := first|omega|(simp<;>omega)|fail) [wr3]
 refine HT.skip ?_;simp (disch := first|omega|(simp<;>omega)|fail) [wr3]
 refine HT.seq ?_;refine HT.seq ?_;refine HT.region ?_;simp (disch := first|omega|(simp<;>omega)|fail) [wr3]
 refine HT.block ?_;refine HT.loopK (fun k : {k : Nat // k ≤ a.length ∧ ∀ i, i < k → a[i]? = b[i]?} => [.s 14 (i64 k)]) [1, 12, 13] [] (fun k => a.length - k) (⟨0, by omega, by intro i hi; omega⟩) ?_ ?_
 ·simp (disch := first|omega|(simp<;>omega)|fail) [wr3]
 rintro ⟨k, hk, hg⟩
 simp (disch := first|omega|(simp<;>omega)|fail) [wr3]
 refine HT.seq ?_;refine HT.region ?_;simp (disch := first|omega|(simp<;>omega)|fail) [wr3]
 refine HT.seq ?_;refine HT.cond' ?_;simp (disch := first|omega|(simp<;>omega)|fail) [wr3]
 refine ⟨fun h15 => ?_, fun h15 => ?_⟩
 ·have hk' : k < a.length := by omega
  have hkb : k < b.length := by omega
  have hAk := hA _ (List.getElem_mem hk')
  have hBk := hB _ (List.getElem_mem hkb)
  have hke : aggEq Tryz.prog 63 [.str a[k].repo, .str a[k].path, .str a[k].text] [.str b[k].repo, .str b[k].path, .str b[k].text] = some (decide (keyV a[k] = keyV b[k])) := aggEq85 hAk.kb hBk.kb
  have hon := hAk.2.2.2.1
  refine HT.skip ?_;simp (disch := first|omega|(simp<;>omega)|fail) [wr3]
  refine HT.seq ?_;refine HT.block ?_;refine HT.seq ?_;refine HT.region ?_;simp (disch := first|omega|(simp<;>omega)|fail) [wr3]
  refine HT.seq ?_
  by_cases d1 : ¬ a[k].id = b[k].id
  ·refine HT.draw [.batch [0, 1, 2, 3, 4, 5, 6, 7, 8, 9, 10, 11, 12, 13, 14, 15, 16, 17, 18, 19, 20, 21, 22, 23, 24, 25, 26, 27, 28]] (by kernel_rfl) ?_
   simp -dsimp (disch := first|omega|(simp<;>omega)|fail) [wr3]
   refine HT.cond' ?_;simp (disch := first|omega|(simp<;>omega)|fail) [wr3]
   refine HT.seq ?_;refine HT.region ?_;simp (disch := first|omega|(simp<;>omega)|fail) [wr3]
   refine HT.ret ?_
   have hx : ¬ a = b := ne_at hk' hkb (fun h => by first | exact d1 (by rw [h]) | exact d2 (by rw [h]) | exact d3 (by rw [h]))
   simp (disch := first|omega|(simp<;>omega)|fail) [wr3, hx]
  rw [Classical.not_not] at d1
  by_cases d2 : ¬ keyV a[k] = keyV b[k]
  ·have hq2 := eq_false d2
   refine HT.draw [.batch [0, 1, 2, 3, 4, 5, 6, 7, 8, 9, 10, 11, 12, 13, 14, 15, 16, 17, 18, 19, 20, 21, 22, 23, 24, 25, 26, 27, 28]] (by kernel_rfl) ?_
   simp -dsimp (disch := first|omega|(simp<;>omega)|fail) [wr3, hke, hq2]
   refine stepK.mk (.call1 _ _ _ rfl Ty.hb40 rfl rfl (key_spec a[k])) ?_
   simp -dsimp (disch := first|omega|(simp<;>omega)|fail) [wr3, hke, hq2]
   refine stepK.mk (.call1 _ _ _ rfl Ty.hb40 rfl rfl (key_spec b[k])) ?_
   simp -dsimp (disch := first|omega|(simp<;>omega)|fail) [wr3, hke, hq2]
   refine HT.cond' ?_;simp (disch := first|omega|(simp<;>omega)|fail) [wr3]
   refine HT.seq ?_;refine HT.region ?_;simp (disch := first|omega|(simp<;>omega)|fail) [wr3]
   refine HT.ret ?_
   have hx : ¬ a = b := ne_at hk' hkb (fun h => by first | exact d1 (by rw [h]) | exact d2 (by rw [h]) | exact d3 (by rw [h]))
   simp (disch := first|omega|(simp<;>omega)|fail) [wr3, hx]
  rw [Classical.not_not] at d2
  have hq2 := eq_true d2
  by_cases d3 : ¬ a[k].on = b[k].on
  ·have hq := eq_false d3
   refine HT.draw [.batch [0, 1, 2, 3, 4, 5, 6, 7, 8, 9, 10, 11, 12, 13, 14, 15, 16, 17, 18, 19, 20, 21, 22, 23, 24, 25, 26, 27, 28]] (by kernel_rfl) ?_
   simp -dsimp (disch := first|omega|(simp<;>omega)|fail) [wr3, hke, hq2]
   refine stepK.mk (.call1 _ _ _ rfl Ty.hb40 rfl rfl (key_spec a[k])) ?_
   simp -dsimp (disch := first|omega|(simp<;>omega)|fail) [wr3, hke, hq2]
   refine stepK.mk (.call1 _ _ _ rfl Ty.hb40 rfl rfl (key_spec b[k])) ?_
   simp -dsimp (disch := first|omega|(simp<;>omega)|fail) [wr3, hke, hq2]
   refine stepK.mk (.call1 _ _ _ rfl Ty.hb42 rfl rfl (EqS_spec a[k].on b[k].on (by omega))) ?_
   simp -dsimp (disch := first|omega|(simp<;>omega)|fail) [wr3, hke, hq2, hq]
   refine HT.cond' ?_;simp (disch := first|omega|(simp<;>omega)|fail) [wr3]
   refine HT.seq ?_;refine HT.region ?_;simp (disch := first|omega|(simp<;>omega)|fail) [wr3]
   refine HT.ret ?_
   have hx : ¬ a = b := ne_at hk' hkb (fun h => by first | exact d1 (by rw [h]) | exact d2 (by rw [h]) | exact d3 (by rw [h]))
   simp (disch := first|omega|(simp<;>omega)|fail) [wr3, hx]
  rw [Classical.not_not] at d3
  have hq := eq_true d3
  refine HT.draw [.batch [0, 1, 2, 3, 4, 5, 6, 7, 8, 9, 10, 11, 12, 13, 14, 15, 16, 17, 18, 19, 20, 21, 22, 23, 24, 25, 26, 27, 28]] (by kernel_rfl) ?_
  simp -dsimp (disch := first|omega|(simp<;>omega)|fail) [wr3, hke, hq2]
  refine stepK.mk (.call1 _ _ _ rfl Ty.hb40 rfl rfl (key_spec a[k])) ?_
  simp -dsimp (disch := first|omega|(simp<;>omega)|fail) [wr3, hke, hq2]
  refine stepK.mk (.call1 _ _ _ rfl Ty.hb40 rfl rfl (key_spec b[k])) ?_
  simp -dsimp (disch := first|omega|(simp<;>omega)|fail) [wr3, hke, hq2]
  refine stepK.mk (.call1 _ _ _ rfl Ty.hb42 rfl rfl (EqS_spec a[k].on b[k].on (by omega))) ?_
  simp -dsimp (disch := first|omega|(simp<;>omega)|fail) [wr3, hke, hq2, hq]
  refine HT.cond' ?_;simp (disch := first|omega|(simp<;>omega)|fail) [wr3]
  refine HT.skip ?_;simp (disch := first|omega|(simp<;>omega)|fail) [wr3]
  refine HT.region ?_;simp (disch := first|omega|(simp<;>omega)|fail) [wr3]
  refine Round.mk' (⟨k + 1, by omega, agreeX hg (by rw [List.getElem?_eq_getElem hk', List.getElem?_eq_getElem hkb, (doc_eq d1 d2).mpr d3])⟩) (by dsimp only; omega) rfl ?_
  simp (disch := first|omega|(simp<;>omega)|fail) [wr3]
 ·obtain rfl : k = a.length := by omega
  refine HT.exit ?_
  simp (disch := first|omega|(simp<;>omega)|fail) [wr3]
  refine HT.seq ?_;refine HT.region ?_;simp (disch := first|omega|(simp<;>omega)|fail) [wr3]
  refine HT.ret ?_
  have hx : a = b := extX (by omega) hg
  simp (disch := first|omega|(simp<;>omega)|fail) [wr3, hx]
end Go.Hv
set_option linter.unusedVariables false
set_option linter.unusedSimpArgs false
/- What follows from a right repository: its documents are right, and Apply of Change gives exactly them. -/
namespace Go.Hv
def keyF (r : Repo) (f : File) : KeyT := (r.name, f.path, (getB r.store.blobs f.blob).getD [])
def hasK (r : Repo) (b : Brch) (k : KeyT) : Bool := (filesV r b.name).1.any fun f => decide (keyF r f = k)
theorem onE_append (a b : List (KeyT × List UInt8)) (k : KeyT) : onE (a ++ b) k = onE a k ++ onE b k := by simp [onE]
theorem onE_flatMap {α : Type} (g : α → List (KeyT × List UInt8)) (k : KeyT) : ∀ l : List α, onE (l.flatMap g) k = l.flatMap fun x => onE (g x) k
 | [] => rfl
 | x :: l => by rw [List.flatMap_cons, List.flatMap_cons, onE_append, onE_flatMap g k l]
theorem sortedF_nodup {l : List File} (h : SortedF l) : (l.map File.path).Nodup := by
 unfold List.Nodup
 rw [List.pairwise_map]
 exact h.imp fun h => ltB_ne h
theorem keyF_inj {r : Repo} {l : List File} (h : SortedF l) : (l.map (keyF r)).Nodup := by
 unfold List.Nodup
 rw [List.pairwise_map]
 refine List.Pairwise.imp (R := fun a b : File => ltB a.path b.path = true) (fun {a b} h (e : keyF r a = keyF r b) => ?_) h
 exact ltB_ne h (congrArg (fun k : KeyT => k.2.1) e)
theorem filter_key {α β : Type} [DecidableEq β] (f : α → β) (k : β) : ∀ {l : List α}, (l.map f).Nodup → (l.filter fun x => decide (f x = k)).length = if (l.any fun x => decide (f x = k)) = true then 1 else 0
 | [], _ => rfl
 | x :: l, h => by
  rw [List.map_cons, List.nodup_cons] at h
  by_cases e : f x = k
  ·rw [List.filter_cons_of_pos (by simpa using e), List.any_cons, if_pos (by simp [e]), List.length_cons]
   have : l.filter (fun x => decide (f x = k)) = [] := by
    rw [List.filter_eq_nil_iff]
    intro y hy he
    exact h.1 (List.mem_map.2 ⟨y, hy, by rw [e]; simpa using he⟩)
   rw [this]; rfl
  ·rw [List.filter_cons_of_neg (by simpa using e), filter_key f k h.2, List.any_cons]
   simp [e]
theorem onE_evBr {r : Repo} {b : Brch} (h : SortedF (filesV r b.name).1) (k : KeyT) : onE (evBr r b) k = if hasK r b k = true then [b.name] else [] := by
 unfold onE evBr hasK
 rw [List.filter_map, List.map_map]
 have hl := filter_key (keyF r) k (keyF_inj (r := r) h)
 have e1 : ((fun x : KeyT × List UInt8 => decide (x.1 = k)) ∘ evF r b.name) = fun f => decide (keyF r f = k) := rfl
 rw [e1]
 have e2 : ∀ l : List File, l.map (Prod.snd ∘ evF r b.name) = List.replicate l.length b.name := fun l => by
  rw [List.eq_replicate_iff]
  refine ⟨by simp, fun x hx => ?_⟩
  obtain ⟨f, _, rfl⟩ := List.mem_map.1 hx
  rfl
 rw [e2, hl]
 split <;> rfl
theorem onE_evR {r : Repo} (h : OkR r) (k : KeyT) : onE (evRep r) k = (r.brs.filter fun b => hasK r b k).map Brch.name := by
 unfold evRep
 rw [onE_flatMap]
 have : ∀ l : List Brch, (∀ b ∈ l, b ∈ r.brs) → (l.flatMap fun x => onE (evBr r x) k) = (l.filter fun b => hasK r b k).map Brch.name := by
  intro l
  induction l with
  | nil => intro _; rfl
  | cons b l ih =>
   intro hs
   obtain ⟨i, hi, rfl⟩ := List.mem_iff_getElem.1 (hs b (by simp))
   rw [List.flatMap_cons, ih (fun x hx => hs x (by simp [hx])), onE_evBr (rightT_sorted (files_ok h hi).2.1).1]
   cases hk : hasK r r.brs[i] k with
   | true => simp [List.filter_cons, hk]
   | false => simp [List.filter_cons, hk]
 exact this r.brs fun b hb => hb
theorem keysE_evR {r : Repo} (k : KeyT) : k ∈ keysE (evRep r) ↔ ∃ b ∈ r.brs, hasK r b k = true := by
 rw [keysE_mem]
 unfold evRep evBr hasK
 constructor
 ·rintro ⟨x, hx, rfl⟩
  obtain ⟨b, hb, hx⟩ := List.mem_flatMap.1 hx
  obtain ⟨f, hf, rfl⟩ := List.mem_map.1 hx
  exact ⟨b, hb, List.any_eq_true.2 ⟨f, hf, by simp [evF, keyF]⟩⟩
 ·rintro ⟨b, hb, h⟩
  obtain ⟨f, hf, he⟩ := List.any_eq_true.1 h
  exact ⟨evF r b.name f, List.mem_flatMap.2 ⟨b, hb, List.mem_map.2 ⟨f, hf, rfl⟩⟩, of_decide_eq_true he⟩
theorem ofR_get {r : Repo} {d : Doc} (hd : d ∈ ofR r) : d = mkD (evRep r) (keyV d) ∧ keyV d ∈ keysE (evRep r) := by
 obtain ⟨k, hk, rfl⟩ := (ofR_mem r d).1 hd
 exact ⟨rfl, hk⟩
theorem ofR_nodup (r : Repo) : ((ofR r).map keyV).Nodup := by
 unfold List.Nodup
 rw [List.pairwise_map]
 exact (ofR_sorted r).imp fun h e => by rw [e, ltK_irrefl] at h; cases h
theorem incS_of : ∀ {l : List (List UInt8)}, l.Pairwise (fun a b => ltB a b = true) → incS l = true
 | [], _ => rfl
 | [_], _ => rfl
 | a :: b :: r, h => by
  have h' := List.pairwise_cons.1 h
  show (stepL a b && incS (b :: r)) = true
  rw [stepL_iff, h'.1 b (by simp), incS_of h'.2]; rfl
theorem getB_mem {l : List Blob} {id : Int} {t : List UInt8} (h : getB l id = some t) : ∃ b ∈ l, b.text = t := by
 unfold getB at h
 obtain ⟨b, hb, rfl⟩ := Option.map_eq_some_iff.1 h
 exact ⟨b, List.mem_of_find?_eq_some hb, rfl⟩
theorem ofR_check {r : Repo} (h : OkR r) {d : Doc} (hd : d ∈ ofR r) : checkV d = 0 := by
 obtain ⟨e, hk⟩ := ofR_get hd
 have hon : d.on = (r.brs.filter fun b => hasK r b (keyV d)).map Brch.name := by
  rw [← onE_evR h]
  exact congrArg Doc.on e
 obtain ⟨b, hb, hbk⟩ := (keysE_evR _).1 hk
 obtain ⟨f, hf, he⟩ := List.any_eq_true.1 hbk
 have he : keyF r f = keyV d := of_decide_eq_true he
 obtain ⟨i, hi, rfl⟩ := List.mem_iff_getElem.1 hb
 obtain ⟨g1, g2, g3⟩ := files_ok h hi
 obtain ⟨t, ht⟩ := g3 f hf
 have hr : d.repo = r.name := (congrArg (fun k : KeyT => k.1) he).symm
 have hp : d.path = f.path := (congrArg (fun k : KeyT => k.2.1) he).symm
 have htx : d.text = t := by
  have : (getB r.store.blobs f.blob).getD [] = d.text := congrArg (fun k : KeyT => k.2.2) he
  rw [ht] at this; exact this.symm
 obtain ⟨bl, hbl, rfl⟩ := getB_mem ht
 unfold checkV
 rw [if_neg, if_neg, if_neg, if_neg]
 ·have : incS d.on = true := by
   rw [hon]
   refine incS_of ?_
   rw [List.pairwise_map]
   exact h.inc.sublist List.filter_sublist
  simp [this]
 ·rw [hon]
  intro e
  have := List.map_eq_nil_iff.1 e
  have := (List.filter_eq_nil_iff.1 this) _ hb
  exact this hbk
 ·rw [Bool.not_eq_false, List.all_eq_true, hon]
  intro x hx
  obtain ⟨b', hb', rfl⟩ := List.mem_map.1 hx
  exact h.names b' (List.mem_filter.1 hb').1
 ·rw [Bool.not_eq_false, hr, hp, htx, h.name, (rightT_sorted g2).2.2 f hf |>.1, h.texts bl hbl]; rfl
theorem ofR_repo {r : Repo} {d : Doc} (hd : d ∈ ofR r) : d.repo = r.name := by
 obtain ⟨e, hk⟩ := ofR_get hd
 obtain ⟨x, hx, h2⟩ := (keysE_mem _ _).1 hk
 have := evR_name r x hx
 rw [h2] at this
 exact this
/-! ### Branches (P28.8) -/
def onB (l : List Doc) (n b : List UInt8) : List Doc := l.filter fun d => decide (d.repo = n) && decide (b ∈ d.on)
end Go.Hv
set_option linter.unusedVariables false
set_option linter.unusedSimpArgs false
/- Apply of Change, in plain words (P28.7). -/
namespace Go.Hv
def updD (n : List UInt8) (now : List Doc) (d : Doc) : Doc :=
 if d.repo = n then match findD now (keyV d) with
  | none => d
  | some x => { d with on := x.on }
 else d
def keepD (n : List UInt8) (now : List Doc) (d : Doc) : Bool := !goneV n now d
def followV (l : List Doc) (r : Repo) (next : Int) : List Doc :=
 (l.filter (keepD r.name (ofR r))).map (updD r.name (ofR r)) ++ numberV (freshV l (ofR r)) next
theorem findD_isNone' (l : List Doc) (k : KeyT) : (findD l k).isNone = !decide (k ∈ l.map keyV) := by rw [findD_isNone, decide_not]
theorem updD_id (n : List UInt8) (now : List Doc) (d : Doc) : (updD n now d).id = d.id := by
 unfold updD
 split
 ·cases findD now (keyV d) <;> rfl
 ·rfl
theorem updD_key (n : List UInt8) (now : List Doc) (d : Doc) : keyV (updD n now d) = keyV d := by
 unfold updD
 split
 ·cases findD now (keyV d) <;> rfl
 ·rfl
theorem findD_some {l : List Doc} {k : KeyT} {x : Doc} (h : findD l k = some x) : x ∈ l ∧ keyV x = k :=
 ⟨List.mem_of_find?_eq_some h, by have := List.find?_some h; simpa using this⟩
theorem nodup_key {l : List Doc} (h : (l.map keyV).Nodup) {x y : Doc} (hx : x ∈ l) (hy : y ∈ l) (e : keyV x = keyV y) : x = y := by
 obtain ⟨i, hi, rfl⟩ := List.mem_iff_getElem.1 hx
 obtain ⟨j, hj, rfl⟩ := List.mem_iff_getElem.1 hy
 have h1 : (l.map keyV)[i]'(by simpa using hi) = (l.map keyV)[j]'(by simpa using hj) := by simpa using e
 have := (List.getElem_inj h).1 h1
 subst this; rfl
theorem findD_mem {l : List Doc} (h : (l.map keyV).Nodup) {x : Doc} (hx : x ∈ l) : findD l (keyV x) = some x := by
 cases hf : findD l (keyV x) with
 | none =>
  have := List.find?_eq_none.1 hf x hx
  simp at this
 | some y =>
  obtain ⟨h1, h2⟩ := findD_some hf
  rw [nodup_key h h1 hx h2]
theorem inc_id {l : List Doc} (h : IncBy Doc.id l) {x y : Doc} (hx : x ∈ l) (hy : y ∈ l) (e : x.id = y.id) : x = y := by
 obtain ⟨i, hi, rfl⟩ := List.mem_iff_getElem.1 hx
 obtain ⟨j, hj, rfl⟩ := List.mem_iff_getElem.1 hy
 have := List.pairwise_iff_getElem.1 h
 rcases Nat.lt_trichotomy i j with hij | rfl | hij
 ·have := this i j hi hj hij; omega
 ·rfl
 ·have := this j i hj hi hij; omega
/-! ### What the change says of one document -/
theorem fold_none (d : Doc) (on : List (List UInt8)) : ∀ (ms : List Doc), (∀ m ∈ ms, m.id ≠ d.id) → ms.foldl (fun on m => if m.id = d.id then m.on else on) on = on
 | [], _ => rfl
 | m :: ms, h => by
  rw [List.foldl_cons, if_neg (h m (by simp)), fold_none d on ms fun x hx => h x (by simp [hx])]
theorem fold_moved (g : Doc → Option Doc) (hg : ∀ x m, g x = some m → m.id = x.id) (d : Doc) : ∀ (l : List Doc) (on : List (List UInt8)), IncBy Doc.id l → d ∈ l →
  (l.filterMap g).foldl (fun on m => if m.id = d.id then m.on else on) on = match g d with
  | none => on
  | some m => m.on
 | [], _, _, h => by simp at h
 | x :: l, on, hi, h => by
  have hi' := List.pairwise_cons.1 hi
  have hne : ∀ y ∈ l, x.id ≠ y.id := fun y hy => by have := hi'.1 y hy; omega
  by_cases e : d = x
  ·subst e
   have hms : ∀ m ∈ l.filterMap g, m.id ≠ d.id := fun m hm => by
    obtain ⟨y, hy, hgy⟩ := List.mem_filterMap.1 hm
    rw [hg y m hgy]; exact (hne y hy).symm
   rw [List.filterMap_cons]
   cases hgd : g d with
   | none => exact fold_none d on _ hms
   | some m =>
    dsimp only
    rw [List.foldl_cons, if_pos (hg d m hgd)]
    exact fold_none d m.on _ hms
  ·have hd : d ∈ l := (List.mem_cons.1 h).resolve_left e
   rw [List.filterMap_cons]
   cases hgx : g x with
   | none => exact fold_moved g hg d l on hi'.2 hd
   | some m =>
    dsimp only
    rw [List.foldl_cons, if_neg (by rw [hg x m hgx]; exact hne d hd)]
    exact fold_moved g hg d l on hi'.2 hd
theorem movedV_id {n : List UInt8} {now : List Doc} (x m : Doc) (h : movedV n now x = some m) : m.id = x.id := by
 unfold movedV at h
 split at h
 ·split at h
  ·cases h
  ·split at h
   ·cases h
   ·cases h; rfl
 ·cases h
theorem mov_upd {n : List UInt8} {now l : List Doc} (hi : IncBy Doc.id l) {d : Doc} (hd : d ∈ l) : movV (l.filterMap (movedV n now)) d = updD n now d := by
 unfold movV lastOn
 rw [fold_moved (movedV n now) movedV_id d l d.on hi hd]
 unfold movedV updD
 by_cases hn : d.repo = n
 ·rw [if_pos hn, if_pos hn]
  cases findD now (keyV d) with
  | none => rfl
  | some x =>
   dsimp only
   by_cases ho : d.on = x.on
   ·rw [if_pos ho, ← ho]
   ·rw [if_neg ho]
 ·rw [if_neg hn, if_neg hn]
theorem dead_gone {n : List UInt8} {now l : List Doc} (hi : IncBy Doc.id l) {d : Doc} (hd : d ∈ l) : aliveB ((l.filter (goneV n now)).map Doc.id) d.id = keepD n now d := by
 unfold aliveB keepD
 congr 1
 rw [Bool.eq_iff_iff, decide_eq_true_eq, List.mem_map]
 constructor
 ·rintro ⟨x, hx, e⟩
  obtain ⟨h1, h2⟩ := List.mem_filter.1 hx
  rw [← inc_id hi h1 hd e]; exact h2
 ·intro h; exact ⟨d, List.mem_filter.2 ⟨hd, h⟩, rfl⟩
theorem insAll_sorted {l : List Doc} (h : l.Pairwise fun x y => leD x y = true) : l.foldl insD [] = l := by
 obtain ⟨h1, h2, h3⟩ := foldIns l [] List.Pairwise.nil
 exact stable_unique h1 h fun i => by rw [h3 i]; rfl
theorem numberV_mem {x : Doc} : ∀ {a : List Doc} {n : Int}, x ∈ numberV a n → ∃ d ∈ a, x = { d with id := x.id } ∧ n ≤ x.id ∧ x.id < n + a.length
 | [], n, h => by cases h
 | d :: a, n, h => by
  rcases List.mem_cons.1 h with rfl | h
  ·exact ⟨d, by simp, rfl, Int.le_refl _, by simp only [List.length_cons]; show n < n + ((a.length + 1 : Nat) : Int); omega⟩
  ·obtain ⟨y, hy, e, h1, h2⟩ := numberV_mem h
   exact ⟨y, by simp [hy], e, by omega, by simp only [List.length_cons]; omega⟩
theorem numberV_of {d : Doc} : ∀ {a : List Doc} {n : Int}, d ∈ a → ∃ x ∈ numberV a n, x = { d with id := x.id }
 | [], n, h => by cases h
 | y :: a, n, h => by
  rcases List.mem_cons.1 h with rfl | h
  ·exact ⟨_, List.mem_cons_self, rfl⟩
  ·obtain ⟨x, hx, e⟩ := numberV_of (n := n + 1) h
   exact ⟨x, List.mem_cons_of_mem _ hx, e⟩
theorem numberV_inc : ∀ (a : List Doc) (n : Int), IncBy Doc.id (numberV a n)
 | [], n => List.Pairwise.nil
 | d :: a, n => by
  refine List.pairwise_cons.2 ⟨fun x hx => ?_, numberV_inc a (n + 1)⟩
  obtain ⟨_, _, _, h1, _⟩ := numberV_mem hx
  show n < x.id
  omega
theorem numberV_keys : ∀ (a : List Doc) (n : Int), (numberV a n).map keyV = a.map keyV
 | [], n => rfl
 | d :: a, n => by
  show keyV _ :: (numberV a (n + 1)).map keyV = keyV d :: a.map keyV
  rw [numberV_keys a]; rfl
theorem numberV_last : ∀ {a : List Doc} {n : Int}, a ≠ [] → ∃ x ∈ numberV a n, x.id = n + a.length - 1
 | [], n, h => absurd rfl h
 | [d], n, _ => ⟨{ d with id := n }, List.mem_cons_self, by simp⟩
 | d :: e :: a, n, _ => by
  obtain ⟨x, hx, h⟩ := numberV_last (a := e :: a) (n := n + 1) (by simp)
  exact ⟨x, List.mem_cons_of_mem _ hx, by rw [h]; simp only [List.length_cons]; omega⟩
structure Fol (l : List Doc) (r : Repo) (next : Int) : Prop where
 right : rightV l = 0
 rep : OkR r
 lo : 1 ≤ next
 hi : next ≤ 9999
 last : ∀ d ∈ l, d.id < next
section
variable {l : List Doc} {r : Repo} {next : Int}
theorem Fol.inc (h : Fol l r next) : IncBy Doc.id l := right_inc h.right
theorem Fol.keys (h : Fol l r next) : (l.map keyV).Nodup := ((rightV_zero l).1 h.right).2.2.2.2
theorem follow_inc (h : Fol l r next) : IncBy Doc.id (followV l r next) := by
 unfold followV IncBy
 rw [List.pairwise_append]
 refine ⟨?_, numberV_inc _ _, fun x hx y hy => ?_⟩
 ·rw [List.pairwise_map]
  exact (h.inc.sublist List.filter_sublist).imp fun {a b} hab => by rw [updD_id, updD_id]; exact hab
 ·obtain ⟨d, hd, rfl⟩ := List.mem_map.1 hx
  obtain ⟨_, _, _, h1, _⟩ := numberV_mem hy
  have := h.last d (List.mem_filter.1 hd).1
  rw [updD_id]; omega
theorem follow_rest (h : Fol l r next) : restV l (changeV l r next) = followV l r next := by
 have e1 : keptV l (changeV l r next) = (l.filter (keepD r.name (ofR r))).map (updD r.name (ofR r)) := by
  unfold keptV changeV
  dsimp only
  rw [List.filter_congr fun d hd => dead_gone (n := r.name) (now := ofR r) h.inc hd]
  exact List.map_congr_left fun d hd => mov_upd h.inc (List.mem_filter.1 hd).1
 unfold restV
 rw [e1]
 exact insAll_sorted ((follow_inc h).imp fun {a b} hab => by simp only [leD, decide_eq_true_eq]; omega)
theorem keep_iff {d : Doc} : keepD r.name (ofR r) d = true ↔ d.repo ≠ r.name ∨ ∃ x ∈ ofR r, keyV x = keyV d := by
 unfold keepD goneV
 rw [findD_isNone]
 by_cases e : d.repo = r.name
 ·simp [e]
 ·simp [e]
theorem in_now {d : Doc} (h : ∃ x ∈ ofR r, keyV x = keyV d) : d.repo = r.name := by
 obtain ⟨x, hx, e⟩ := h
 have h1 := ofR_repo hx
 have h2 : x.repo = d.repo := congrArg (fun k : KeyT => k.1) e
 rw [← h2, h1]
theorem follow_mem (h : Fol l r next) {y : Doc} : y ∈ followV l r next → (∃ d ∈ l, keepD r.name (ofR r) d = true ∧ y = updD r.name (ofR r) d) ∨ (∃ x ∈ ofR r, keyV x ∉ l.map keyV ∧ y = { x with id := y.id } ∧ next ≤ y.id) := by
 intro hy
 rcases List.mem_append.1 hy with hy | hy
 ·obtain ⟨d, hd, rfl⟩ := List.mem_map.1 hy
  exact .inl ⟨d, (List.mem_filter.1 hd).1, (List.mem_filter.1 hd).2, rfl⟩
 ·obtain ⟨x, hx, e, h1, _⟩ := numberV_mem hy
  obtain ⟨h2, h3⟩ := List.mem_filter.1 hx
  rw [findD_isNone] at h3
  exact .inr ⟨x, h2, by simpa using h3, e, h1⟩
theorem updD_on {d x : Doc} (hd : d.repo = r.name) (hx : x ∈ ofR r) (e : keyV x = keyV d) : updD r.name (ofR r) d = { d with on := x.on } := by
 unfold updD
 rw [if_pos hd, ← e, findD_mem (ofR_nodup r) hx]
theorem updD_other {d : Doc} (hd : d.repo ≠ r.name) : updD r.name (ofR r) d = d := by unfold updD; rw [if_neg hd]
theorem follow_on (h : Fol l r next) {x y : Doc} (hx : x ∈ ofR r) (hy : y ∈ followV l r next) (e : keyV y = keyV x) : y.on = x.on := by
 rcases follow_mem h hy with ⟨d, hd, hk, rfl⟩ | ⟨z, hz, hzl, ez, _⟩
 ·rw [updD_key] at e
  rw [updD_on (in_now ⟨x, hx, e.symm⟩) hx e.symm]
 ·have : z = x := nodup_key (ofR_nodup r) hz hx (by rw [ez] at e; exact e)
  rw [ez, this]
theorem follow_has (h : Fol l r next) {x : Doc} (hx : x ∈ ofR r) : ∃ y ∈ followV l r next, keyV y = keyV x := by
 by_cases hl : keyV x ∈ l.map keyV
 ·obtain ⟨d, hd, e⟩ := List.mem_map.1 hl
  exact ⟨updD r.name (ofR r) d, List.mem_append.2 (.inl (List.mem_map.2 ⟨d, List.mem_filter.2 ⟨hd, keep_iff.2 (.inr ⟨x, hx, e.symm⟩)⟩, rfl⟩)), by rw [updD_key, e]⟩
 ·obtain ⟨y, hy, e⟩ := numberV_of (a := freshV l (ofR r)) (n := next) (List.mem_filter.2 ⟨hx, by rw [findD_isNone]; simpa using hl⟩)
  exact ⟨y, List.mem_append.2 (.inr hy), by rw [e]; rfl⟩
theorem filter_two {α : Type} (p q : α → Bool) : ∀ (l : List α), (∀ x ∈ l, p x = true → q x = false) → (l.filter fun x => p x || q x).length = (l.filter p).length + (l.filter q).length
 | [], _ => rfl
 | x :: l, h => by
  have IH := filter_two p q l fun y hy => h y (by simp [hy])
  have hx := h x (by simp)
  cases hp : p x with
  | true =>
   have hq := hx hp
   simp [List.filter_cons, hp, hq, IH]; omega
  | false =>
   cases hq : q x with
   | true => simp [List.filter_cons, hp, hq, IH]; omega
   | false => simp [List.filter_cons, hp, hq, IH]
def inK (m : List Doc) (d : Doc) : Bool := decide (keyV d ∈ m.map keyV)
theorem both_len {a b : List Doc} (ha : (a.map keyV).Nodup) (hb : (b.map keyV).Nodup) : (a.filter (inK b)).length = (b.filter (inK a)).length := by
 have : ((a.filter (inK b)).map keyV).Perm ((b.filter (inK a)).map keyV) := by
  refine (List.perm_ext_iff_of_nodup (ha.sublist (List.filter_sublist.map _)) (hb.sublist (List.filter_sublist.map _))).2 fun k => ?_
  constructor
  ·intro hk
   obtain ⟨d, hd, rfl⟩ := List.mem_map.1 hk
   obtain ⟨h1, h2⟩ := List.mem_filter.1 hd
   obtain ⟨x, hx, e⟩ := List.mem_map.1 (of_decide_eq_true h2)
   exact List.mem_map.2 ⟨x, List.mem_filter.2 ⟨hx, decide_eq_true (List.mem_map.2 ⟨d, h1, e.symm⟩)⟩, e⟩
  ·intro hk
   obtain ⟨d, hd, rfl⟩ := List.mem_map.1 hk
   obtain ⟨h1, h2⟩ := List.mem_filter.1 hd
   obtain ⟨x, hx, e⟩ := List.mem_map.1 (of_decide_eq_true h2)
   exact List.mem_map.2 ⟨x, List.mem_filter.2 ⟨hx, decide_eq_true (List.mem_map.2 ⟨d, h1, e.symm⟩)⟩, e⟩
 have := this.length_eq
 simpa using this
def countV (l : List Doc) (n : List UInt8) : Nat := (l.filter fun d => decide (d.repo = n)).length
theorem filter_compl {α : Type} (p : α → Bool) (l : List α) : (l.filter p).length + (l.filter fun x => !p x).length = l.length := by
 induction l with
 | nil => rfl
 | cons x l ih => cases hp : p x <;> simp [List.filter_cons, hp] <;> omega
theorem count_le (l : List Doc) (n : List UInt8) : countV l n ≤ l.length := List.length_filter_le _ _
theorem follow_len (h : Fol l r next) : (followV l r next).length = (l.length - countV l r.name) + (ofR r).length := by
 unfold followV
 rw [List.length_append, List.length_map, numberV_length]
 have e1 : l.filter (keepD r.name (ofR r)) = l.filter fun d => (!decide (d.repo = r.name)) || inK (ofR r) d := by
  refine List.filter_congr fun d _ => ?_
  unfold keepD goneV inK
  rw [findD_isNone']
  by_cases e : d.repo = r.name <;> simp [e, -List.mem_map]
 have e2 : (freshV l (ofR r)) = (ofR r).filter fun x => !inK l x := by
  unfold freshV
  refine List.filter_congr fun d _ => ?_
  rw [findD_isNone']; rfl
 rw [e1, filter_two _ _ l, e2, both_len h.keys (ofR_nodup r)]
 ·have h1 := filter_compl (inK l) (ofR r)
  have h2 := filter_compl (fun d : Doc => decide (d.repo = r.name)) l
  unfold countV
  omega
 ·intro x hx hp
  have hp : x.repo ≠ r.name := by simpa using hp
  cases hq : inK (ofR r) x with
  | false => rfl
  | true =>
   obtain ⟨y, hy, e⟩ := List.mem_map.1 (of_decide_eq_true hq)
   exact absurd (in_now ⟨y, hy, e⟩) hp
theorem follow_count (h : Fol l r next) : countV (followV l r next) r.name = (ofR r).length := by
 unfold countV followV
 rw [List.filter_append, List.length_append, List.filter_map, List.length_map, List.filter_filter]
 have e1 : (l.filter fun a => ((fun d : Doc => decide (d.repo = r.name)) ∘ updD r.name (ofR r)) a && keepD r.name (ofR r) a) = l.filter (inK (ofR r)) := by
  refine List.filter_congr fun d _ => ?_
  have hrep : (updD r.name (ofR r) d).repo = d.repo := congrArg (fun k : KeyT => k.1) (updD_key r.name (ofR r) d)
  show (decide ((updD r.name (ofR r) d).repo = r.name) && keepD r.name (ofR r) d) = inK (ofR r) d
  rw [hrep]
  unfold keepD goneV inK
  rw [findD_isNone']
  by_cases e : d.repo = r.name
  ·simp [e, -List.mem_map]
  ·have : keyV d ∉ (ofR r).map keyV := fun hm => by
    obtain ⟨y, hy, e'⟩ := List.mem_map.1 hm
    exact e (in_now ⟨y, hy, e'⟩)
   simp [e, this, -List.mem_map]
 have e2 : (numberV (freshV l (ofR r)) next).filter (fun d => decide (d.repo = r.name)) = numberV (freshV l (ofR r)) next := by
  rw [List.filter_eq_self]
  intro x hx
  obtain ⟨d, hd, e, _⟩ := numberV_mem hx
  rw [e]
  exact decide_eq_true (show d.repo = r.name from ofR_repo (List.mem_filter.1 hd).1)
 have e3 : (freshV l (ofR r)) = (ofR r).filter fun x => !inK l x := by
  unfold freshV
  refine List.filter_congr fun d _ => ?_
  rw [findD_isNone']; rfl
 rw [e1, e2, numberV_length, e3, both_len h.keys (ofR_nodup r)]
 exact filter_compl (inK l) (ofR r)
theorem checkV_congr {a b : Doc} (h : keyV a = keyV b) (ho : a.on = b.on) : checkV a = checkV b := by
 have h1 : a.repo = b.repo := congrArg (fun k : KeyT => k.1) h
 have h2 : a.path = b.path := congrArg (fun k : KeyT => k.2.1) h
 have h3 : a.text = b.text := congrArg (fun k : KeyT => k.2.2) h
 unfold checkV; rw [h1, h2, h3, ho]
theorem follow_right (h : Fol l r next) : rightV (followV l r next) = 0 ↔ (l.length - countV l r.name) + (ofR r).length ≤ 64 ∧ ((changeV l r next).new.length : Int) ≤ 10000 - next := by
 have hl := (rightV_zero l).1 h.right
 have hn : ((changeV l r next).new.length) = (freshV l (ofR r)).length := numberV_length _ _
 rw [hn]
 constructor
 ·intro h0
  obtain ⟨k1, k2, k3, k4, k5⟩ := (rightV_zero _).1 h0
  rw [follow_len h] at k1
  refine ⟨k1, ?_⟩
  by_cases e : freshV l (ofR r) = []
  ·rw [e]; have := h.hi; simp; omega
  ·obtain ⟨x, hx, hid⟩ := numberV_last (n := next) e
   have := (k4 x (List.mem_append.2 (.inr hx))).1
   omega
 ·rintro ⟨h1, h2⟩
  refine (rightV_zero _).2 ⟨by rw [follow_len h]; exact h1, fun y hy => ?_, follow_inc h, fun y hy => ?_, ?_⟩
  ·rcases follow_mem h hy with ⟨d, hd, _, rfl⟩ | ⟨x, _, _, _, h5⟩
   ·rw [updD_id]; exact hl.2.1 d hd
   ·have := h.lo; omega
  ·rcases List.mem_append.1 hy with hy' | hy'
   ·rcases follow_mem h hy with ⟨d, hd, hk, rfl⟩ | ⟨x, hx, hxl, e, _⟩
    ·rw [updD_id]
     refine ⟨(hl.2.2.2.1 d hd).1, ?_⟩
     by_cases e : d.repo = r.name
     ·obtain ⟨x, hx, ex⟩ := (keep_iff.1 hk).resolve_left (fun h => h e)
      rw [updD_on e hx ex, checkV_congr (b := x) (show keyV { d with on := x.on } = keyV x from ex.symm) rfl]
      exact ofR_check h.rep hx
     ·rw [updD_other e]; exact (hl.2.2.2.1 d hd).2
    ·obtain ⟨d, hd, rfl⟩ := List.mem_map.1 hy'
     have hd' := (List.mem_filter.1 hd).1
     exfalso
     apply hxl
     rw [← show keyV (updD r.name (ofR r) d) = keyV x by rw [e]; rfl, updD_key]
     exact List.mem_map.2 ⟨d, hd', rfl⟩
   ·obtain ⟨x, hx, e, h3, h4⟩ := numberV_mem hy'
    refine ⟨by omega, ?_⟩
    rw [checkV_congr (b := x) (by rw [e]; rfl) (by rw [e])]
    exact ofR_check h.rep (List.mem_filter.1 hx).1
  ·unfold followV
   rw [List.map_append, numberV_keys, List.map_map]
   have e1 : ∀ m : List Doc, m.map (keyV ∘ updD r.name (ofR r)) = m.map keyV := fun m => List.map_congr_left fun d _ => updD_key _ _ d
   rw [e1, List.nodup_append]
   refine ⟨h.keys.sublist (List.filter_sublist.map _), (ofR_nodup r).sublist (List.filter_sublist.map _), fun a ha b hb => ?_⟩
   obtain ⟨d, hd, rfl⟩ := List.mem_map.1 ha
   obtain ⟨x, hx, rfl⟩ := List.mem_map.1 hb
   intro e
   have h3 := (List.mem_filter.1 hx).2
   rw [findD_isNone] at h3
   have h3 : keyV x ∉ l.map keyV := by simpa using h3
   exact h3 (by rw [← e]; exact List.mem_map.2 ⟨d, (List.mem_filter.1 hd).1, rfl⟩)
theorem follow_apply (h : Fol l r next) : applyD l (changeV l r next) = if rightV (followV l r next) ≠ 0 then ([], rightV (followV l r next)) else (followV l r next, 0) := by
 unfold applyD
 rw [follow_rest h, if_neg, if_neg]
 ·rw [Bool.not_eq_false, List.all_eq_true]
  intro m hm
  obtain ⟨d, hd, hg⟩ := List.mem_filterMap.1 hm
  exact List.any_eq_true.2 ⟨d, hd, by rw [movedV_id d m hg]; simp⟩
 ·rw [Bool.not_eq_false, List.all_eq_true]
  intro i hi
  obtain ⟨d, hd, rfl⟩ := List.mem_map.1 hi
  exact List.any_eq_true.2 ⟨d, (List.mem_filter.1 hd).1, by simp⟩
def getD' (l : List Doc) (i : Int) : Option Doc := l.find? fun d => decide (d.id = i)
theorem follow_get (h : Fol l r next) {x : Doc} (hx : x ∈ l) : getD' (followV l r next) x.id = if keepD r.name (ofR r) x = true then some (updD r.name (ofR r) x) else none := by
 unfold getD'
 cases hf : (followV l r next).find? (fun d => decide (d.id = x.id)) with
 | none =>
  have := List.find?_eq_none.1 hf
  split
  ·next hk =>
   have := this _ (List.mem_append.2 (.inl (List.mem_map.2 ⟨x, List.mem_filter.2 ⟨hx, hk⟩, rfl⟩)))
   rw [updD_id] at this
   simp at this
  ·rfl
 | some y =>
  have hy := List.mem_of_find?_eq_some hf
  have hid : y.id = x.id := by have := List.find?_some hf; simpa using this
  rcases follow_mem h hy with ⟨d, hd, hk, rfl⟩ | ⟨z, _, _, _, h5⟩
  ·rw [updD_id] at hid
   obtain rfl := inc_id h.inc hd hx hid
   rw [if_pos hk]
  ·have := h.last x hx; omega
theorem follow_again (h : Fol l r next) (n : Int) : changeV (followV l r next) r n = ⟨[], [], []⟩ := by
 unfold changeV
 congr 1
 ·have : freshV (followV l r next) (ofR r) = [] := by
   unfold freshV
   rw [List.filter_eq_nil_iff]
   intro x hx
   rw [findD_isNone]
   obtain ⟨y, hy, e⟩ := follow_has h hx
   have : keyV x ∈ (followV l r next).map keyV := List.mem_map.2 ⟨y, hy, e⟩
   simp only [List.mem_map] at this
   simp [this]
  rw [this]; rfl
 ·rw [List.map_eq_nil_iff, List.filter_eq_nil_iff]
  intro y hy
  unfold goneV
  rw [findD_isNone]
  rcases follow_mem h hy with ⟨d, hd, hk, rfl⟩ | ⟨x, hx, _, e, _⟩
  ·have hrep : (updD r.name (ofR r) d).repo = d.repo := congrArg (fun k : KeyT => k.1) (updD_key r.name (ofR r) d)
   rw [updD_key, hrep]
   rcases keep_iff.1 hk with h1 | ⟨x, hx, e⟩
   ·simp [h1]
   ·have : keyV d ∈ (ofR r).map keyV := List.mem_map.2 ⟨x, hx, e⟩
    simp only [List.mem_map] at this
    simp [this]
  ·have : keyV y ∈ (ofR r).map keyV := List.mem_map.2 ⟨x, hx, by rw [e]; rfl⟩
   simp only [List.mem_map] at this
   simp [this]
 ·rw [List.filterMap_eq_nil_iff]
  intro y hy
  unfold movedV
  split
  ·cases hf : findD (ofR r) (keyV y) with
   | none => rfl
   | some x =>
    obtain ⟨h1, h2⟩ := findD_some hf
    show (if y.on = x.on then none else _) = none
    rw [if_pos (follow_on h h1 hy h2.symm)]
  ·rfl
end
end Go.Hv
