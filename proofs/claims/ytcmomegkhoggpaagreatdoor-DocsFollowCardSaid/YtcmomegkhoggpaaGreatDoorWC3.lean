import Derived.Test.YtcmomegkhoggpaaGreatDoorWC2
import Derived.Lib.RowBridge
set_option linter.unusedVariables false
set_option linter.unusedSimpArgs false
/- Trees are right (layer 25). -/
namespace Go.Hv
open Go Go.Hv Go.Proofs Go.RowKit
open Go.Proofs.YtcmomegkhoggpaaGreatDoor
theorem HasPrefix_spec (s p : List UInt8) : Spec1 Tryz.prog 150 [.str s, .str p] (bo (p.isPrefixOf s)) := by
 intro D w vs hD hG hn hrep
 have h0 := Array.getElem?_eq_getElem (show 0 < vs.size by rw [hn]; simp)
 have h1 := Array.getElem?_eq_getElem (show 1 < vs.size by rw [hn]; simp)
 have r0 := irep_str (hrep 0 _ _ rfl h0)
 have r1 := irep_str (hrep 1 _ _ rfl h1)
 have hv : vs = #[.string ⟨s.toArray⟩, .string ⟨p.toArray⟩] := by
  rw [r0] at h0; rw [r1] at h1
  apply Array.ext_getElem?
  intro i
  match i with
  | 0 => rw [h0]; rfl
  | 1 => rw [h1]; rfl
  | i + 2 => rw [Array.getElem?_eq_none (by rw [hn]; simp), Array.getElem?_eq_none (by simp)]
 subst hv
 refine (Tryz.strings_HasPrefix ⟨s.toArray⟩ ⟨p.toArray⟩ w).mono fun e w' ⟨h1, h2⟩ => ?_
 subst h1; subst h2
 exact ⟨_, rfl, Kept.refl _ _, .lit _⟩
theorem stepL_yes {a b : List UInt8} (h : stepL a b = true) : (Go.Op.bytesLess b a || decide (b = a)) = false := by unfold stepL at h; rwa [Bool.not_eq_true'] at h
theorem stepL_no {a b : List UInt8} (h : ¬ stepL a b = true) : (Go.Op.bytesLess b a || decide (b = a)) = true := by
 cases hb : (Go.Op.bytesLess b a || decide (b = a)) with
 | false => exact absurd (by unfold stepL; rw [hb]; rfl) h
 | true => rfl
@[simp] theorem tnS1 (k : Nat) : ((k : Int) - 1).toNat = k - 1 := by omega
section
variable {l : List File} {k : Nat}
theorem tErr3 (hk : k < l.length) (h : pathV l[k].path = false) : tErr l k = 3 := by
 unfold tErr; rw [List.getElem?_eq_getElem hk]; simp only; rw [if_pos h]
theorem tErr2 (hk : k < l.length) (h1 : pathV l[k].path = true) (h : l[k].blob < 1 ∨ l[k].blob > 9999) : tErr l k = 2 := by
 unfold tErr; rw [List.getElem?_eq_getElem hk]; simp only; rw [if_neg (by simp [h1]), if_pos h]
theorem tErr7 (hk : k < l.length) (h1 : pathV l[k].path = true) (h2 : ¬ (l[k].blob < 1 ∨ l[k].blob > 9999)) (h0 : 0 < k) (h : ¬ stepL (l[k - 1]'(by omega)).path l[k].path = true) : tErr l k = 7 := by
 unfold tErr; rw [List.getElem?_eq_getElem hk, List.getElem?_eq_getElem (show k - 1 < l.length by omega)]; simp only [Option.getD_some]
 rw [if_neg (by simp [h1]), if_neg h2, if_pos ⟨h0, by simpa using h⟩]
theorem tErr_rest (hk : k < l.length) (h1 : pathV l[k].path = true) (h2 : ¬ (l[k].blob < 1 ∨ l[k].blob > 9999)) (h3 : ¬ 0 < k ∨ stepL (l[k - 1]'(by omega)).path l[k].path = true) :
  tErr l k = if (List.range l.length).any (fun j => decide (j ≠ k) && underV l[k].path (l[j]?.getD default).path) = true then 14 else 0 := by
 unfold tErr; rw [List.getElem?_eq_getElem hk]; simp only
 rw [if_neg (by simp [h1]), if_neg h2, if_neg]
 rintro ⟨a, b⟩
 rcases h3 with h3 | h3
 ·exact h3 a
 ·rw [List.getElem?_eq_getElem (show k - 1 < l.length by omega), Option.getD_some, h3] at b; cases b
theorem tErr14 (hk : k < l.length) (h1 : pathV l[k].path = true) (h2 : ¬ (l[k].blob < 1 ∨ l[k].blob > 9999)) (h3 : ¬ 0 < k ∨ stepL (l[k - 1]'(by omega)).path l[k].path = true)
  {j : Nat} (hj : j < l.length) (hjk : ¬ j = k) (h : underV l[k].path l[j].path = true) : tErr l k = 14 := by
 rw [tErr_rest hk h1 h2 h3, if_pos]
 rw [List.any_eq_true]
 exact ⟨j, List.mem_range.2 hj, by rw [List.getElem?_eq_getElem hj, Option.getD_some, h]; simpa using hjk⟩
theorem tErr0 (hk : k < l.length) (h1 : pathV l[k].path = true) (h2 : ¬ (l[k].blob < 1 ∨ l[k].blob > 9999)) (h3 : ¬ 0 < k ∨ stepL (l[k - 1]'(by omega)).path l[k].path = true)
  (h : ∀ j, j < l.length → ¬ j = k → underV l[k].path (l[j]?.getD default).path = false) : tErr l k = 0 := by
 rw [tErr_rest hk h1 h2 h3, if_neg]
 rw [List.any_eq_true]
 rintro ⟨j, hj, hu⟩
 simp only [Bool.and_eq_true, decide_eq_true_eq] at hu
 rw [h j (List.mem_range.1 hj) hu.1] at hu
 exact absurd hu.2 (by simp)
theorem rightT_hit (hl : ¬ l.length > 32) (hk : k < l.length) (hg : ∀ j, j < k → tErr l j = 0) {e : Int} (he : tErr l k = e) (hne : e ≠ 0) : rightT l = e := by
 unfold rightT; rw [if_neg hl, firstE_hit hk hg (by rw [he]; exact hne), he]
theorem rightT_all (hl : ¬ l.length > 32) (hg : ∀ j, j < l.length → tErr l j = 0) : rightT l = 0 := by
 unfold rightT; rw [if_neg hl]; exact (firstE_zero _ _).2 hg
theorem rightT_long (hl : l.length > 32) : rightT l = 4 := by unfold rightT; rw [if_pos hl]
theorem upto_succ {p : Nat → Prop} {k : Nat} (h : ∀ j, j < k → p j) (hk : p k) : ∀ j, j < k + 1 → p j := fun j hj => by
 by_cases e : j = k
 ·subst e; exact hk
 ·exact h j (by omega)
end
theorem u8i47 (c : UInt8) : ((c.toNat : Int) = 47) ↔ c = 47 := ⟨fun h => UInt8.toNat_inj.1 (by have h2 : c.toNat = 47 := (by omega); exact h2), fun h => by subst h; rfl⟩
def FileB (B : Nat) (l : List File) : Prop := l.length ≤ B ∧ ∀ f ∈ l, f.path.length ≤ B
def FileQ (l : List File) : Prop := l.length ≤ 1000 ∧ ∀ f ∈ l, f.path.length ≤ 140737488355328
theorem FileQ.b {l : List File} (h : FileQ l) : FileB 140737488355328 l := ⟨Nat.le_trans h.1 (by decide), h.2⟩
theorem under_eqn (p d : List UInt8) : underV p d = (decide (d = []) || (d ++ [47]).isPrefixOf p) := underV_prefix p d
theorem Under_spec (p d : List UInt8) (hd : d.length ≤ 140737488355000) : Spec1 Tryz.prog 139 [.str p, .str d] (bo (underV p d)) := by
 refine Spec1.of_HT Tryz.func139 rfl (by rw [Tryz.ntmps139]; simp) rfl ?_
 rw [Tryz.ntmps139]
 refine HT.seq ?_;refine HT.region ?_;simp (disch := first|omega|(simp<;>omega)|fail) [wr3]
 refine HT.seq ?_
 by_cases c1 : d = []
 ·refine HT.region ?_;simp (disch := first|omega|(simp<;>omega)|fail) [wr3, c1]
  refine HT.ret ?_;simp (disch := first|omega|(simp<;>omega)|fail) [wr3, under_eqn, c1]
 have e1 : d ≠ [] := c1
 refine HT.region ?_;simp (disch := first|omega|(simp<;>omega)|fail) [wr3]
 refine stepK.mk (.call1 _ _ _ _ rfl Ty.hb150 rfl (HasPrefix_spec p (d ++ [47])) rfl rfl) ?_
 simp (disch := first|omega|(simp<;>omega)|fail) [wr3]
 refine HT.ret ?_;simp (disch := first|omega|(simp<;>omega)|fail) [wr3, under_eqn, c1]
theorem refUnder_spec (p d : List UInt8) (hp : p.length ≤ 140737488355328) (hd : d.length ≤ 140737488355328) : Spec1 Tryz.prog 159 [.str p, .str d] (bo (underV p d)) := by
 refine Spec1.of_HT Tryz.func159 rfl (by rw [Tryz.ntmps159]; simp) rfl ?_
 rw [Tryz.ntmps159]
 refine HT.seq ?_;refine HT.region ?_;simp (disch := first|omega|(simp<;>omega)|fail) [wr3]
 refine HT.seq ?_
 by_cases c1 : d = []
 ·refine HT.region ?_;simp (disch := first|omega|(simp<;>omega)|fail) [wr3, c1]
  refine HT.ret ?_
  unfold underV
  first | (simp (disch := first|omega|(simp<;>omega)|fail) [wr3, c1, c2, c3]; done) | (simp (disch := first|omega|(simp<;>omega)|fail) [wr3, c1, c2, c3, List.getElem?_eq_getElem c2]; exact u8i47 _) | (simp (disch := first|omega|(simp<;>omega)|fail) [wr3, c1, c2]; done) | (simp (disch := first|omega|(simp<;>omega)|fail) [wr3, c1]; done)
 by_cases c2 : ¬ d.length < p.length
 ·refine HT.region ?_;simp (disch := first|omega|(simp<;>omega)|fail) [wr3, c1, c2]
  refine HT.ret ?_
  unfold underV
  first | (simp (disch := first|omega|(simp<;>omega)|fail) [wr3, c1, c2, c3]; done) | (simp (disch := first|omega|(simp<;>omega)|fail) [wr3, c1, c2, c3, List.getElem?_eq_getElem c2]; exact u8i47 _) | (simp (disch := first|omega|(simp<;>omega)|fail) [wr3, c1, c2]; done) | (simp (disch := first|omega|(simp<;>omega)|fail) [wr3, c1]; done)
 rw [Classical.not_not] at c2
 by_cases c3 : ¬ p.take d.length = d
 ·refine HT.region ?_;simp (disch := first|omega|(simp<;>omega)|fail) [wr3, c1, c2, c3]
  refine HT.ret ?_
  unfold underV
  first | (simp (disch := first|omega|(simp<;>omega)|fail) [wr3, c1, c2, c3]; done) | (simp (disch := first|omega|(simp<;>omega)|fail) [wr3, c1, c2, c3, List.getElem?_eq_getElem c2]; exact u8i47 _) | (simp (disch := first|omega|(simp<;>omega)|fail) [wr3, c1, c2]; done) | (simp (disch := first|omega|(simp<;>omega)|fail) [wr3, c1]; done)
 rw [Classical.not_not] at c3
 refine HT.region ?_;simp (disch := first|omega|(simp<;>omega)|fail) [wr3, c1, c2, c3]
 refine HT.ret ?_
 unfold underV
 first | (simp (disch := first|omega|(simp<;>omega)|fail) [wr3, c1, c2, c3]; done) | (simp (disch := first|omega|(simp<;>omega)|fail) [wr3, c1, c2, c3, List.getElem?_eq_getElem c2]; exact u8i47 _) | (simp (disch := first|omega|(simp<;>omega)|fail) [wr3, c1, c2]; done) | (simp (disch := first|omega|(simp<;>omega)|fail) [wr3, c1]; done)
set_option maxRecDepth 20000 in
set_option maxHeartbeats 4000000 in
theorem TRight_spec (l : List File) (hl : FileB 140737488355000 l) : Spec1 Tryz.prog 119 [.sl 2 false (filesHV l)] (i64 (rightT l)) := by
 have hl1 := hl.1
 refine Spec1.of_HT Tryz.func119 rfl (by rw [Tryz.ntmps119]; simp) rfl ?_
 rw [Tryz.ntmps119]
 refine HT.seq ?_;refine HT.region ?_;simp (disch := first|omega|(simp<;>omega)|fail) [wr3]
 refine HT.seq ?_;refine HT.seq ?_;refine HT.region ?_;simp (disch := first|omega|(simp<;>omega)|fail) [wr3]
 refine HT.cond' ?_;simp (disch := first|omega|(simp<;>omega)|fail) [wr3]
 refine ⟨fun h9 => ?_, fun h9 => ?_⟩
 ·have hx := rightT_long (l := l) (by omega)
  refine HT.seq ?_;refine HT.region ?_;simp (disch := first|omega|(simp<;>omega)|fail) [wr3]
  refine HT.ret ?_;simp (disch := first|omega|(simp<;>omega)|fail) [wr3, hx]
 ·have hlen : ¬ l.length > 32 := by omega
  refine HT.skip ?_;simp (disch := first|omega|(simp<;>omega)|fail) [wr3]
  refine HT.seq ?_;refine HT.seq ?_;refine HT.region ?_;simp (disch := first|omega|(simp<;>omega)|fail) [wr3]
  refine HT.block ?_;refine HT.loopK (fun k : {k : Nat // k ≤ l.length ∧ ∀ j, j < k → tErr l j = 0} => [.s 12 (i64 k)]) [0, 10, 11] [] (fun k => l.length - k) (⟨0, by omega, fun j hj => absurd hj (Nat.not_lt_zero _)⟩) ?_ ?_
  ·simp (disch := first|omega|(simp<;>omega)|fail) [wr3]
  rintro ⟨k, hk, hg⟩
  simp (disch := first|omega|(simp<;>omega)|fail) [wr3]
  refine HT.seq ?_;refine HT.region ?_;simp (disch := first|omega|(simp<;>omega)|fail) [wr3]
  refine HT.seq ?_;refine HT.cond' ?_;simp (disch := first|omega|(simp<;>omega)|fail) [wr3]
  refine ⟨fun h13 => ?_, fun h13 => ?_⟩
  ·have hk' : k < l.length := by omega
   have hpk := hl.2 _ (List.getElem_mem hk')
   refine HT.skip ?_;simp (disch := first|omega|(simp<;>omega)|fail) [wr3]
   refine HT.seq ?_;refine HT.block ?_;refine HT.seq ?_;refine HT.region ?_;simp (disch := first|omega|(simp<;>omega)|fail) [wr3]
   refine HT.seq ?_;refine HT.block ?_;refine HT.seq ?_;refine HT.region ?_;simp (disch := first|omega|(simp<;>omega)|fail) [wr3]
   refine stepK.mk (.call1 _ _ _ _ rfl Ty.hb63 rfl (Path_spec l[k].path (by omega)) rfl rfl) ?_
   simp (disch := first|omega|(simp<;>omega)|fail) [wr3]
   refine HT.cond' ?_;simp (disch := first|omega|(simp<;>omega)|fail) [wr3]
   refine ⟨fun h17 => ?_, fun h17 => ?_⟩
   ·refine HT.seq ?_;refine HT.region ?_;simp (disch := first|omega|(simp<;>omega)|fail) [wr3]
    refine HT.ret ?_
    have hx := rightT_hit hlen hk' hg (tErr3 hk' (by simpa using h17)) (by decide)
    simp (disch := first|omega|(simp<;>omega)|fail) [wr3, hx]
   ·have g1 : pathV l[k].path = true := by simpa using h17
    refine HT.seq ?_
    by_cases c2 : l[k].blob < 1
    ·refine HT.region ?_;simp (disch := first|omega|(simp<;>omega)|fail) [wr3, c2]
     refine HT.cond' ?_;simp (disch := first|omega|(simp<;>omega)|fail) [wr3]
     refine HT.seq ?_;refine HT.region ?_;simp (disch := first|omega|(simp<;>omega)|fail) [wr3]
     refine HT.ret ?_
     have hx := rightT_hit hlen hk' hg (tErr2 hk' g1 (by omega)) (by decide)
     simp (disch := first|omega|(simp<;>omega)|fail) [wr3, hx]
    by_cases c3 : 9999 < l[k].blob
    ·refine HT.region ?_;simp (disch := first|omega|(simp<;>omega)|fail) [wr3, c2, c3]
     refine HT.cond' ?_;simp (disch := first|omega|(simp<;>omega)|fail) [wr3]
     refine HT.seq ?_;refine HT.region ?_;simp (disch := first|omega|(simp<;>omega)|fail) [wr3]
     refine HT.ret ?_
     have hx := rightT_hit hlen hk' hg (tErr2 hk' g1 (by omega)) (by decide)
     simp (disch := first|omega|(simp<;>omega)|fail) [wr3, hx]
    have g2 : ¬ (l[k].blob < 1 ∨ l[k].blob > 9999) := by omega
    refine HT.region ?_;simp (disch := first|omega|(simp<;>omega)|fail) [wr3, c2, c3]
    refine HT.cond' ?_;simp (disch := first|omega|(simp<;>omega)|fail) [wr3]
    refine HT.seq ?_
    by_cases c0 : ¬ 0 < k
    ·refine HT.draw [.batch [0, 1, 2, 3, 4, 5, 6, 7, 8, 9, 10, 11, 12, 13]] (by kernel_rfl) ?_
     simp (disch := first|omega|(simp<;>omega)|fail) [wr3, c0]
     have g3 : ¬ 0 < k ∨ stepL (l[k - 1]'(by omega)).path l[k].path = true := .inl c0
     refine HT.cond' ?_;simp (disch := first|omega|(simp<;>omega)|fail) [wr3]
     refine HT.skip ?_;simp (disch := first|omega|(simp<;>omega)|fail) [wr3]
     refine HT.seq ?_;refine HT.region ?_;simp (disch := first|omega|(simp<;>omega)|fail) [wr3]
     refine HT.block ?_;refine HT.loopK (fun j : {j : Nat // j ≤ l.length ∧ ∀ i, i < j → ¬ i = k → underV l[k].path (l[i]?.getD default).path = false} => [.s 47 (i64 j)]) [0, 3, 4, 10, 11, 12, 27, 28, 29, 35, 36, 37, 38, 39, 40, 41, 42, 43, 45, 46] [4] (fun j => l.length - j) (⟨0, by omega, fun j hj => absurd hj (Nat.not_lt_zero _)⟩) ?_ ?_
     ·simp (disch := first|omega|(simp<;>omega)|fail) [wr3]
     rintro ⟨j, hj, hgj⟩
     simp (disch := first|omega|(simp<;>omega)|fail) [wr3]
     refine HT.seq ?_;refine HT.region ?_;simp (disch := first|omega|(simp<;>omega)|fail) [wr3]
     refine HT.seq ?_;refine HT.cond' ?_;simp (disch := first|omega|(simp<;>omega)|fail) [wr3]
     refine ⟨fun h48 => ?_, fun h48 => ?_⟩
     ·have hj' : j < l.length := by omega
      have hpj := hl.2 _ (List.getElem_mem hj')
      refine HT.skip ?_;simp (disch := first|omega|(simp<;>omega)|fail) [wr3]
      refine HT.seq ?_;refine HT.block ?_;refine HT.seq ?_;refine HT.region ?_;simp (disch := first|omega|(simp<;>omega)|fail) [wr3]
      refine HT.seq ?_
      by_cases d0 : j = k
      ·have d0' : ((j : Int) = (k : Int)) = True := by simp [d0]
       refine HT.region ?_;simp (disch := first|omega|(simp<;>omega)|fail) [wr3, d0']
       have hu : ¬ j = k → underV l[k].path (l[j]?.getD default).path = false := fun h => absurd d0 h
       refine HT.cond' ?_;simp (disch := first|omega|(simp<;>omega)|fail) [wr3]
       refine HT.skip ?_;simp (disch := first|omega|(simp<;>omega)|fail) [wr3]
       refine HT.region ?_;simp (disch := first|omega|(simp<;>omega)|fail) [wr3]
       refine Round.mk' (⟨j + 1, by omega, upto_succ hgj hu⟩) (by dsimp only; omega) rfl ?_
       simp (disch := first|omega|(simp<;>omega)|fail) [wr3]
      by_cases d1 : underV l[k].path l[j].path = true
      ·refine HT.region ?_;simp (disch := first|omega|(simp<;>omega)|fail) [wr3, d0, d1]
       refine stepK.mk (.call1 _ _ _ _ rfl Ty.hb139 rfl (Under_spec l[k].path l[j].path (by omega)) rfl rfl) ?_
       simp (disch := first|omega|(simp<;>omega)|fail) [wr3, d0, d1]
       refine HT.cond' ?_;simp (disch := first|omega|(simp<;>omega)|fail) [wr3]
       refine HT.seq ?_;refine HT.region ?_;simp (disch := first|omega|(simp<;>omega)|fail) [wr3]
       refine HT.ret ?_
       have hx := rightT_hit hlen hk' hg (tErr14 hk' g1 g2 g3 hj' d0 d1) (by decide)
       simp (disch := first|omega|(simp<;>omega)|fail) [wr3, hx]
      have hu : ¬ j = k → underV l[k].path (l[j]?.getD default).path = false := fun _ => by rw [List.getElem?_eq_getElem hj', Option.getD_some]; simpa using d1
      refine HT.region ?_;simp (disch := first|omega|(simp<;>omega)|fail) [wr3, d0, d1]
      refine stepK.mk (.call1 _ _ _ _ rfl Ty.hb139 rfl (Under_spec l[k].path l[j].path (by omega)) rfl rfl) ?_
      simp (disch := first|omega|(simp<;>omega)|fail) [wr3, d0, d1]
      refine HT.cond' ?_;simp (disch := first|omega|(simp<;>omega)|fail) [wr3]
      refine HT.skip ?_;simp (disch := first|omega|(simp<;>omega)|fail) [wr3]
      refine HT.region ?_;simp (disch := first|omega|(simp<;>omega)|fail) [wr3]
      refine Round.mk' (⟨j + 1, by omega, upto_succ hgj hu⟩) (by dsimp only; omega) rfl ?_
      simp (disch := first|omega|(simp<;>omega)|fail) [wr3]
     ·obtain rfl : j = l.length := by omega
      refine HT.exit ?_
      simp (disch := first|omega|(simp<;>omega)|fail) [wr3]
      refine HT.region ?_;simp (disch := first|omega|(simp<;>omega)|fail) [wr3]
      refine Round.mk' (⟨k + 1, by omega, upto_succ hg (tErr0 hk' g1 g2 g3 hgj)⟩) (by dsimp only; omega) rfl ?_
      simp (disch := first|omega|(simp<;>omega)|fail) [wr3]
    rw [Classical.not_not] at c0
    by_cases c1 : stepL (l[k - 1]'(by omega)).path l[k].path = true
    ·have hq := stepL_yes c1
     refine HT.draw [.batch [0, 1, 2, 3, 4, 5, 6, 7, 8, 9, 10, 11, 12, 13]] (by kernel_rfl) ?_
     simp (disch := first|omega|(simp<;>omega)|fail) [wr3, hq]
     have g3 : ¬ 0 < k ∨ stepL (l[k - 1]'(by omega)).path l[k].path = true := .inr c1
     refine HT.cond' ?_;simp (disch := first|omega|(simp<;>omega)|fail) [wr3]
     refine HT.skip ?_;simp (disch := first|omega|(simp<;>omega)|fail) [wr3]
     refine HT.seq ?_;refine HT.region ?_;simp (disch := first|omega|(simp<;>omega)|fail) [wr3]
     refine HT.block ?_;refine HT.loopK (fun j : {j : Nat // j ≤ l.length ∧ ∀ i, i < j → ¬ i = k → underV l[k].path (l[i]?.getD default).path = false} => [.s 47 (i64 j)]) [0, 3, 4, 10, 11, 12, 27, 28, 29, 35, 36, 37, 38, 39, 40, 41, 42, 43, 45, 46] [4] (fun j => l.length - j) (⟨0, by omega, fun j hj => absurd hj (Nat.not_lt_zero _)⟩) ?_ ?_
     ·simp (disch := first|omega|(simp<;>omega)|fail) [wr3]
     rintro ⟨j, hj, hgj⟩
     simp (disch := first|omega|(simp<;>omega)|fail) [wr3]
     refine HT.seq ?_;refine HT.region ?_;simp (disch := first|omega|(simp<;>omega)|fail) [wr3]
     refine HT.seq ?_;refine HT.cond' ?_;simp (disch := first|omega|(simp<;>omega)|fail) [wr3]
     refine ⟨fun h48 => ?_, fun h48 => ?_⟩
     ·have hj' : j < l.length := by omega
      have hpj := hl.2 _ (List.getElem_mem hj')
      refine HT.skip ?_;simp (disch := first|omega|(simp<;>omega)|fail) [wr3]
      refine HT.seq ?_;refine HT.block ?_;refine HT.seq ?_;refine HT.region ?_;simp (disch := first|omega|(simp<;>omega)|fail) [wr3]
      refine HT.seq ?_
      by_cases d0 : j = k
      ·have d0' : ((j : Int) = (k : Int)) = True := by simp [d0]
       refine HT.region ?_;simp (disch := first|omega|(simp<;>omega)|fail) [wr3, d0']
       have hu : ¬ j = k → underV l[k].path (l[j]?.getD default).path = false := fun h => absurd d0 h
       refine HT.cond' ?_;simp (disch := first|omega|(simp<;>omega)|fail) [wr3]
       refine HT.skip ?_;simp (disch := first|omega|(simp<;>omega)|fail) [wr3]
       refine HT.region ?_;simp (disch := first|omega|(simp<;>omega)|fail) [wr3]
       refine Round.mk' (⟨j + 1, by omega, upto_succ hgj hu⟩) (by dsimp only; omega) rfl ?_
       simp (disch := first|omega|(simp<;>omega)|fail) [wr3]
      by_cases d1 : underV l[k].path l[j].path = true
      ·refine HT.region ?_;simp (disch := first|omega|(simp<;>omega)|fail) [wr3, d0, d1]
       refine stepK.mk (.call1 _ _ _ _ rfl Ty.hb139 rfl (Under_spec l[k].path l[j].path (by omega)) rfl rfl) ?_
       simp (disch := first|omega|(simp<;>omega)|fail) [wr3, d0, d1]
       refine HT.cond' ?_;simp (disch := first|omega|(simp<;>omega)|fail) [wr3]
       refine HT.seq ?_;refine HT.region ?_;simp (disch := first|omega|(simp<;>omega)|fail) [wr3]
       refine HT.ret ?_
       have hx := rightT_hit hlen hk' hg (tErr14 hk' g1 g2 g3 hj' d0 d1) (by decide)
       simp (disch := first|omega|(simp<;>omega)|fail) [wr3, hx]
      have hu : ¬ j = k → underV l[k].path (l[j]?.getD default).path = false := fun _ => by rw [List.getElem?_eq_getElem hj', Option.getD_some]; simpa using d1
      refine HT.region ?_;simp (disch := first|omega|(simp<;>omega)|fail) [wr3, d0, d1]
      refine stepK.mk (.call1 _ _ _ _ rfl Ty.hb139 rfl (Under_spec l[k].path l[j].path (by omega)) rfl rfl) ?_
      simp (disch := first|omega|(simp<;>omega)|fail) [wr3, d0, d1]
      refine HT.cond' ?_;simp (disch := first|omega|(simp<;>omega)|fail) [wr3]
      refine HT.skip ?_;simp (disch := first|omega|(simp<;>omega)|fail) [wr3]
      refine HT.region ?_;simp (disch := first|omega|(simp<;>omega)|fail) [wr3]
      refine Round.mk' (⟨j + 1, by omega, upto_succ hgj hu⟩) (by dsimp only; omega) rfl ?_
      simp (disch := first|omega|(simp<;>omega)|fail) [wr3]
     ·obtain rfl : j = l.length := by omega
      refine HT.exit ?_
      simp (disch := first|omega|(simp<;>omega)|fail) [wr3]
      refine HT.region ?_;simp (disch := first|omega|(simp<;>omega)|fail) [wr3]
      refine Round.mk' (⟨k + 1, by omega, upto_succ hg (tErr0 hk' g1 g2 g3 hgj)⟩) (by dsimp only; omega) rfl ?_
      simp (disch := first|omega|(simp<;>omega)|fail) [wr3]
    have hq := stepL_no c1
    refine HT.draw [.batch [0, 1, 2, 3, 4, 5, 6, 7, 8, 9, 10, 11, 12, 13]] (by kernel_rfl) ?_
    simp (disch := first|omega|(simp<;>omega)|fail) [wr3, hq]
    refine HT.cond' ?_;simp (disch := first|omega|(simp<;>omega)|fail) [wr3]
    refine HT.seq ?_;refine HT.region ?_;simp (disch := first|omega|(simp<;>omega)|fail) [wr3]
    refine HT.ret ?_
    have hx := rightT_hit hlen hk' hg (tErr7 hk' g1 g2 c0 c1) (by decide)
    simp (disch := first|omega|(simp<;>omega)|fail) [wr3, hx]
  ·obtain rfl : k = l.length := by omega
   refine HT.exit ?_
   simp (disch := first|omega|(simp<;>omega)|fail) [wr3]
   refine HT.seq ?_;refine HT.region ?_;simp (disch := first|omega|(simp<;>omega)|fail) [wr3]
   refine HT.ret ?_;simp (disch := first|omega|(simp<;>omega)|fail) [wr3, rightT_all hlen hg]
set_option maxRecDepth 20000 in
set_option maxHeartbeats 4000000 in
theorem refTRight_spec (l : List File) (hl : FileB 140737488355328 l) : Spec1 Tryz.prog 144 [.sl 2 false (filesHV l)] (i64 (rightT l)) := by
 have hl1 := hl.1
 refine Spec1.of_HT Tryz.func144 rfl (by rw [Tryz.ntmps144]; simp) rfl ?_
 rw [Tryz.ntmps144]
 refine HT.seq ?_;refine HT.region ?_;simp (disch := first|omega|(simp<;>omega)|fail) [wr3]
 refine HT.seq ?_;refine HT.seq ?_;refine HT.region ?_;simp (disch := first|omega|(simp<;>omega)|fail) [wr3]
 refine HT.cond' ?_;simp (disch := first|omega|(simp<;>omega)|fail) [wr3]
 refine ⟨fun h7 => ?_, fun h7 => ?_⟩
 ·have hx := rightT_long (l := l) (by omega)
  refine HT.seq ?_;refine HT.region ?_;simp (disch := first|omega|(simp<;>omega)|fail) [wr3]
  refine HT.ret ?_;simp (disch := first|omega|(simp<;>omega)|fail) [wr3, hx]
 ·have hlen : ¬ l.length > 32 := by omega
  refine HT.skip ?_;simp (disch := first|omega|(simp<;>omega)|fail) [wr3]
  refine HT.seq ?_;refine HT.seq ?_;refine HT.region ?_;simp (disch := first|omega|(simp<;>omega)|fail) [wr3]
  refine HT.block ?_;refine HT.loopK (fun k : {k : Nat // k ≤ l.length ∧ ∀ j, j < k → tErr l j = 0} => [.s 3 (i64 k)]) [0] [] (fun k => l.length - k) (⟨0, by omega, fun j hj => absurd hj (Nat.not_lt_zero _)⟩) ?_ ?_
  ·simp (disch := first|omega|(simp<;>omega)|fail) [wr3]
  rintro ⟨k, hk, hg⟩
  simp (disch := first|omega|(simp<;>omega)|fail) [wr3]
  refine HT.seq ?_;refine HT.seq ?_;refine HT.region ?_;simp (disch := first|omega|(simp<;>omega)|fail) [wr3]
  refine HT.cond' ?_;simp (disch := first|omega|(simp<;>omega)|fail) [wr3]
  refine ⟨fun h11 => ?_, fun h11 => ?_⟩
  ·have hk' : k < l.length := by omega
   have hpk := hl.2 _ (List.getElem_mem hk')
   refine HT.skip ?_;simp (disch := first|omega|(simp<;>omega)|fail) [wr3]
   refine HT.seq ?_;refine HT.block ?_;refine HT.seq ?_;refine HT.seq ?_;refine HT.region ?_;simp (disch := first|omega|(simp<;>omega)|fail) [wr3]
   refine stepK.mk (.call1 _ _ _ _ rfl Ty.hb66 rfl (refPath_spec l[k].path (by omega)) rfl rfl) ?_
   simp (disch := first|omega|(simp<;>omega)|fail) [wr3]
   refine HT.cond' ?_;simp (disch := first|omega|(simp<;>omega)|fail) [wr3]
   refine ⟨fun h20 => ?_, fun h20 => ?_⟩
   ·refine HT.seq ?_;refine HT.region ?_;simp (disch := first|omega|(simp<;>omega)|fail) [wr3]
    refine HT.ret ?_
    have hx := rightT_hit hlen hk' hg (tErr3 hk' (by simpa using h20)) (by decide)
    simp (disch := first|omega|(simp<;>omega)|fail) [wr3, hx]
   ·have g1 : pathV l[k].path = true := by simpa using h20
    refine HT.skip ?_;simp (disch := first|omega|(simp<;>omega)|fail) [wr3]
    refine HT.seq ?_;refine HT.seq ?_
    by_cases c2 : l[k].blob < 1
    ·refine HT.region ?_;simp (disch := first|omega|(simp<;>omega)|fail) [wr3, c2]
     refine HT.cond' ?_;simp (disch := first|omega|(simp<;>omega)|fail) [wr3]
     refine HT.seq ?_;refine HT.region ?_;simp (disch := first|omega|(simp<;>omega)|fail) [wr3]
     refine HT.ret ?_
     have hx := rightT_hit hlen hk' hg (tErr2 hk' g1 (by omega)) (by decide)
     simp (disch := first|omega|(simp<;>omega)|fail) [wr3, hx]
    by_cases c3 : 9999 < l[k].blob
    ·refine HT.region ?_;simp (disch := first|omega|(simp<;>omega)|fail) [wr3, c2, c3]
     refine HT.cond' ?_;simp (disch := first|omega|(simp<;>omega)|fail) [wr3]
     refine HT.seq ?_;refine HT.region ?_;simp (disch := first|omega|(simp<;>omega)|fail) [wr3]
     refine HT.ret ?_
     have hx := rightT_hit hlen hk' hg (tErr2 hk' g1 (by omega)) (by decide)
     simp (disch := first|omega|(simp<;>omega)|fail) [wr3, hx]
    have g2 : ¬ (l[k].blob < 1 ∨ l[k].blob > 9999) := by omega
    refine HT.region ?_;simp (disch := first|omega|(simp<;>omega)|fail) [wr3, c2, c3]
    refine HT.cond' ?_;simp (disch := first|omega|(simp<;>omega)|fail) [wr3]
    refine HT.skip ?_;simp (disch := first|omega|(simp<;>omega)|fail) [wr3]
    refine HT.seq ?_;refine HT.seq ?_
    by_cases c0 : ¬ 0 < k
    ·refine HT.draw [.batch [0, 1, 2, 3, 4, 5, 6, 7, 8, 9, 10, 11, 12, 13, 14, 15]] (by kernel_rfl) ?_
     simp (disch := first|omega|(simp<;>omega)|fail) [wr3, c0]
     have g3 : ¬ 0 < k ∨ stepL (l[k - 1]'(by omega)).path l[k].path = true := .inl c0
     refine HT.cond' ?_;simp (disch := first|omega|(simp<;>omega)|fail) [wr3]
     refine HT.skip ?_;simp (disch := first|omega|(simp<;>omega)|fail) [wr3]
     refine HT.seq ?_;refine HT.region ?_;simp (disch := first|omega|(simp<;>omega)|fail) [wr3]
     refine HT.block ?_;refine HT.loopK (fun j : {j : Nat // j ≤ l.length ∧ ∀ i, i < j → ¬ i = k → underV l[k].path (l[i]?.getD default).path = false} => [.s 4 (i64 j)]) [0, 3, 28, 29, 30, 31, 32, 33, 38, 39, 40, 41, 42, 43, 44, 45, 46, 47, 48, 49] [] (fun j => l.length - j) (⟨0, by omega, fun j hj => absurd hj (Nat.not_lt_zero _)⟩) ?_ ?_
     ·simp (disch := first|omega|(simp<;>omega)|fail) [wr3]
     rintro ⟨j, hj, hgj⟩
     simp (disch := first|omega|(simp<;>omega)|fail) [wr3]
     refine HT.seq ?_;refine HT.seq ?_;refine HT.region ?_;simp (disch := first|omega|(simp<;>omega)|fail) [wr3]
     refine HT.cond' ?_;simp (disch := first|omega|(simp<;>omega)|fail) [wr3]
     refine ⟨fun h54 => ?_, fun h54 => ?_⟩
     ·have hj' : j < l.length := by omega
      have hpj := hl.2 _ (List.getElem_mem hj')
      refine HT.skip ?_;simp (disch := first|omega|(simp<;>omega)|fail) [wr3]
      refine HT.seq ?_;refine HT.block ?_;refine HT.seq ?_
      by_cases d0 : j = k
      ·have d0' : ((j : Int) = (k : Int)) = True := by simp [d0]
       refine HT.draw [.batch [0, 1, 2, 3, 4, 5, 6, 7, 8, 9, 10, 11, 12, 13, 14, 15]] (by kernel_rfl) ?_
       simp -dsimp (disch := first|omega|(simp<;>omega)|fail) [wr3, d0']
       have hu : ¬ j = k → underV l[k].path (l[j]?.getD default).path = false := fun h => absurd d0 h
       refine HT.cond' ?_;simp (disch := first|omega|(simp<;>omega)|fail) [wr3]
       refine HT.skip ?_;simp (disch := first|omega|(simp<;>omega)|fail) [wr3]
       refine HT.region ?_;simp (disch := first|omega|(simp<;>omega)|fail) [wr3]
       refine Round.mk' (⟨j + 1, by omega, upto_succ hgj hu⟩) (by dsimp only; omega) rfl ?_
       simp (disch := first|omega|(simp<;>omega)|fail) [wr3]
      by_cases d1 : underV l[k].path l[j].path = true
      ·refine HT.draw [.batch [0, 1, 2, 3, 4, 5, 6, 7, 8, 9, 10, 11, 12, 13, 14, 15]] (by kernel_rfl) ?_
       simp -dsimp (disch := first|omega|(simp<;>omega)|fail) [wr3, d0, d1]
       refine stepK.mk (.call1 _ _ _ rfl Ty.hb159 rfl rfl (refUnder_spec l[k].path l[j].path (by omega) (by omega))) ?_
       simp -dsimp (disch := first|omega|(simp<;>omega)|fail) [wr3, d0, d1]
       refine HT.cond' ?_;simp (disch := first|omega|(simp<;>omega)|fail) [wr3]
       refine HT.seq ?_;refine HT.region ?_;simp (disch := first|omega|(simp<;>omega)|fail) [wr3]
       refine HT.ret ?_
       have hx := rightT_hit hlen hk' hg (tErr14 hk' g1 g2 g3 hj' d0 d1) (by decide)
       simp (disch := first|omega|(simp<;>omega)|fail) [wr3, hx]
      have hu : ¬ j = k → underV l[k].path (l[j]?.getD default).path = false := fun _ => by rw [List.getElem?_eq_getElem hj', Option.getD_some]; simpa using d1
      refine HT.draw [.batch [0, 1, 2, 3, 4, 5, 6, 7, 8, 9, 10, 11, 12, 13, 14, 15]] (by kernel_rfl) ?_
      simp -dsimp (disch := first|omega|(simp<;>omega)|fail) [wr3, d0, d1]
      refine stepK.mk (.call1 _ _ _ rfl Ty.hb159 rfl rfl (refUnder_spec l[k].path l[j].path (by omega) (by omega))) ?_
      simp -dsimp (disch := first|omega|(simp<;>omega)|fail) [wr3, d0, d1]
      refine HT.cond' ?_;simp (disch := first|omega|(simp<;>omega)|fail) [wr3]
      refine HT.skip ?_;simp (disch := first|omega|(simp<;>omega)|fail) [wr3]
      refine HT.region ?_;simp (disch := first|omega|(simp<;>omega)|fail) [wr3]
      refine Round.mk' (⟨j + 1, by omega, upto_succ hgj hu⟩) (by dsimp only; omega) rfl ?_
      simp (disch := first|omega|(simp<;>omega)|fail) [wr3]
     ·obtain rfl : j = l.length := by omega
      refine HT.exit ?_
      simp (disch := first|omega|(simp<;>omega)|fail) [wr3]
      refine HT.region ?_;simp (disch := first|omega|(simp<;>omega)|fail) [wr3]
      refine Round.mk' (⟨k + 1, by omega, upto_succ hg (tErr0 hk' g1 g2 g3 hgj)⟩) (by dsimp only; omega) rfl ?_
      simp (disch := first|omega|(simp<;>omega)|fail) [wr3]
    rw [Classical.not_not] at c0
    by_cases c1 : stepL (l[k - 1]'(by omega)).path l[k].path = true
    ·have hq := stepL_yes c1
     refine HT.draw [.batch [0, 1, 2, 3, 4, 5, 6, 7, 8, 9, 10, 11, 12, 13, 14, 15]] (by kernel_rfl) ?_
     simp (disch := first|omega|(simp<;>omega)|fail) [wr3, hq]
     have g3 : ¬ 0 < k ∨ stepL (l[k - 1]'(by omega)).path l[k].path = true := .inr c1
     refine HT.cond' ?_;simp (disch := first|omega|(simp<;>omega)|fail) [wr3]
     refine HT.skip ?_;simp (disch := first|omega|(simp<;>omega)|fail) [wr3]
     refine HT.seq ?_;refine HT.region ?_;simp (disch := first|omega|(simp<;>omega)|fail) [wr3]
     refine HT.block ?_;refine HT.loopK (fun j : {j : Nat // j ≤ l.length ∧ ∀ i, i < j → ¬ i = k → underV l[k].path (l[i]?.getD default).path = false} => [.s 4 (i64 j)]) [0, 3, 28, 29, 30, 31, 32, 33, 38, 39, 40, 41, 42, 43, 44, 45, 46, 47, 48, 49] [] (fun j => l.length - j) (⟨0, by omega, fun j hj => absurd hj (Nat.not_lt_zero _)⟩) ?_ ?_
     ·simp (disch := first|omega|(simp<;>omega)|fail) [wr3]
     rintro ⟨j, hj, hgj⟩
     simp (disch := first|omega|(simp<;>omega)|fail) [wr3]
     refine HT.seq ?_;refine HT.seq ?_;refine HT.region ?_;simp (disch := first|omega|(simp<;>omega)|fail) [wr3]
     refine HT.cond' ?_;simp (disch := first|omega|(simp<;>omega)|fail) [wr3]
     refine ⟨fun h54 => ?_, fun h54 => ?_⟩
     ·have hj' : j < l.length := by omega
      have hpj := hl.2 _ (List.getElem_mem hj')
      refine HT.skip ?_;simp (disch := first|omega|(simp<;>omega)|fail) [wr3]
      refine HT.seq ?_;refine HT.block ?_;refine HT.seq ?_
      by_cases d0 : j = k
      ·have d0' : ((j : Int) = (k : Int)) = True := by simp [d0]
       refine HT.draw [.batch [0, 1, 2, 3, 4, 5, 6, 7, 8, 9, 10, 11, 12, 13, 14, 15]] (by kernel_rfl) ?_
       simp -dsimp (disch := first|omega|(simp<;>omega)|fail) [wr3, d0']
       have hu : ¬ j = k → underV l[k].path (l[j]?.getD default).path = false := fun h => absurd d0 h
       refine HT.cond' ?_;simp (disch := first|omega|(simp<;>omega)|fail) [wr3]
       refine HT.skip ?_;simp (disch := first|omega|(simp<;>omega)|fail) [wr3]
       refine HT.region ?_;simp (disch := first|omega|(simp<;>omega)|fail) [wr3]
       refine Round.mk' (⟨j + 1, by omega, upto_succ hgj hu⟩) (by dsimp only; omega) rfl ?_
       simp (disch := first|omega|(simp<;>omega)|fail) [wr3]
      by_cases d1 : underV l[k].path l[j].path = true
      ·refine HT.draw [.batch [0, 1, 2, 3, 4, 5, 6, 7, 8, 9, 10, 11, 12, 13, 14, 15]] (by kernel_rfl) ?_
       simp -dsimp (disch := first|omega|(simp<;>omega)|fail) [wr3, d0, d1]
       refine stepK.mk (.call1 _ _ _ rfl Ty.hb159 rfl rfl (refUnder_spec l[k].path l[j].path (by omega) (by omega))) ?_
       simp -dsimp (disch := first|omega|(simp<;>omega)|fail) [wr3, d0, d1]
       refine HT.cond' ?_;simp (disch := first|omega|(simp<;>omega)|fail) [wr3]
       refine HT.seq ?_;refine HT.region ?_;simp (disch := first|omega|(simp<;>omega)|fail) [wr3]
       refine HT.ret ?_
       have hx := rightT_hit hlen hk' hg (tErr14 hk' g1 g2 g3 hj' d0 d1) (by decide)
       simp (disch := first|omega|(simp<;>omega)|fail) [wr3, hx]
      have hu : ¬ j = k → underV l[k].path (l[j]?.getD default).path = false := fun _ => by rw [List.getElem?_eq_getElem hj', Option.getD_some]; simpa using d1
      refine HT.draw [.batch [0, 1, 2, 3, 4, 5, 6, 7, 8, 9, 10, 11, 12, 13, 14, 15]] (by kernel_rfl) ?_
      simp -dsimp (disch := first|omega|(simp<;>omega)|fail) [wr3, d0, d1]
      refine stepK.mk (.call1 _ _ _ rfl Ty.hb159 rfl rfl (refUnder_spec l[k].path l[j].path (by omega) (by omega))) ?_
      simp -dsimp (disch := first|omega|(simp<;>omega)|fail) [wr3, d0, d1]
      refine HT.cond' ?_;simp (disch := first|omega|(simp<;>omega)|fail) [wr3]
      refine HT.skip ?_;simp (disch := first|omega|(simp<;>omega)|fail) [wr3]
      refine HT.region ?_;simp (disch := first|omega|(simp<;>omega)|fail) [wr3]
      refine Round.mk' (⟨j + 1, by omega, upto_succ hgj hu⟩) (by dsimp only; omega) rfl ?_
      simp (disch := first|omega|(simp<;>omega)|fail) [wr3]
     ·obtain rfl : j = l.length := by omega
      refine HT.exit ?_
      simp (disch := first|omega|(simp<;>omega)|fail) [wr3]
      refine HT.region ?_;simp (disch := first|omega|(simp<;>omega)|fail) [wr3]
      refine Round.mk' (⟨k + 1, by omega, upto_succ hg (tErr0 hk' g1 g2 g3 hgj)⟩) (by dsimp only; omega) rfl ?_
      simp (disch := first|omega|(simp<;>omega)|fail) [wr3]
    have hq := stepL_no c1
    refine HT.draw [.batch [0, 1, 2, 3, 4, 5, 6, 7, 8, 9, 10, 11, 12, 13, 14, 15]] (by kernel_rfl) ?_
    simp (disch := first|omega|(simp<;>omega)|fail) [wr3, hq]
    refine HT.cond' ?_;simp (disch := first|omega|(simp<;>omega)|fail) [wr3]
    refine HT.seq ?_;refine HT.region ?_;simp (disch := first|omega|(simp<;>omega)|fail) [wr3]
    refine HT.ret ?_
    have hx := rightT_hit hlen hk' hg (tErr7 hk' g1 g2 c0 c1) (by decide)
    simp (disch := first|omega|(simp<;>omega)|fail) [wr3, hx]
  ·obtain rfl : k = l.length := by omega
   refine HT.exit ?_
   simp (disch := first|omega|(simp<;>omega)|fail) [wr3]
   refine HT.seq ?_;refine HT.region ?_;simp (disch := first|omega|(simp<;>omega)|fail) [wr3]
   refine HT.ret ?_;simp (disch := first|omega|(simp<;>omega)|fail) [wr3, rightT_all hlen hg]
end Go.Hv
set_option linter.unusedVariables false
set_option linter.unusedSimpArgs false
/- Library functions over slices of strings: sorted, without neighbours that are equal (layer 28). -/
namespace Go.Hv
open Go Go.Hv Go.Proofs Go.RowKit
open Go.Sort (putRow putCells Holds grow mapBlock onCells)
open Go.Proofs.YtcmomegkhoggpaaGreatDoor
def srtS (l : List (List UInt8)) : List (List UInt8) := l.mergeSort fun x y => decide (x ≤ y)
theorem isStr_at {l : List (List UInt8)} {i j : Nat} {x : List HV} {c : HV} (hx : (strsHV l)[i]? = some x) (hc : x[j]? = some c) : j = 0 ∧ ∃ a, l[i]? = some a ∧ c = .str a := by
 unfold strsHV at hx
 rw [List.getElem?_map] at hx
 cases h : l[i]? with
 | none => rw [h] at hx; cases hx
 | some a =>
  rw [h] at hx
  obtain rfl := (Option.some.inj hx).symm
  match j with
  | 0 => exact ⟨rfl, a, rfl, (Option.some.inj hc).symm⟩
  | j + 1 => simp at hc
theorem irep_str' {w : World} {dead : Nat → Prop} {l : List UInt8} {v : Value} (h : IRep w dead (.str l) v) : v = encStr l := irep_str h
theorem SortS_spec (l : List (List UInt8)) (hlen : l.length < 4611686018427387904) : SpecS Tryz.prog 51 9 1 (strsHV l) [] (strsHV (srtS l)) := by
 have hl2 : (srtS l).length = l.length := List.length_mergeSort _
 refine SpecS.of_cells (by simp [hl2]) (fun x hx => by obtain ⟨p, _, rfl⟩ := List.mem_map.1 hx; rfl) (by simp) (fun w blk cap us V dead hVs hcell hblk hcap hmax hone hdead hrep hus hargs => ?_) (fun A w us dead hus hargs hes => ?_)
 ·have hu : us = #[] := Array.eq_empty_of_size_eq_zero hus
  subst hu
  have hV : V = (l.map encStr).toArray := by
   apply Array.ext_getElem?
   intro i
   rcases Nat.lt_or_ge i l.length with hi | hi
   ·have hg := List.getElem?_eq_getElem hi
    obtain ⟨u, h1, h2⟩ := hrep i 0 [.str l[i]] _ (by simp [strsHV, hg]) rfl
    rw [irep_str' h2] at h1
    simpa [hg] using h1
   ·rw [Array.getElem?_eq_none (by rw [hVs]; simp; omega), Array.getElem?_eq_none (by simp; omega)]
  subst hV
  have hH : Holds encStr w blk 0 l.toArray := by
   intro i hi
   have := hcell i (by simpa using hi)
   have hi' : i < l.length := by simpa using hi
   rw [Nat.zero_add]
   refine ⟨?_, this.2⟩
   rw [this.1]
   simp [List.getElem?_eq_getElem hi', getElem!_pos l i hi']
  have := Tryz.slices_Sort_string blk 0 cap l w hH hblk hlen
  rw [show (strsHV l).length = l.length by simp]
  refine this.mono ?_
  rintro x w' ⟨rfl, n, os, rfl⟩
  refine ⟨rfl, n, os, ((srtS l).map encStr).toArray, by simp [hl2], fun v hv => by simp at hv; obtain ⟨a, _, rfl⟩ := hv; rfl, ?_, fun i j x c hx hc => ?_⟩
  ·rw [putRow_map]; simp [srtS]
  ·obtain ⟨rfl, a, ha, rfl⟩ := isStr_at hx hc
   exact ⟨encStr a, by simp [ha], .str _⟩
 ·have hu : us = #[] := Array.eq_empty_of_size_eq_zero hus
  subst hu
  exact Tryz.slices_Sort_string_none A 0 w
theorem grow_nil (w : World) : Go.Sort.grow w #[] = w := by cases w; simp [Go.Sort.grow]
theorem CompactS_spec (l : List (List UInt8)) (hlen : l.length ≤ 1000000) (hc : (Lib.compact l).length ≤ l.length) : SpecR Tryz.prog 151 9 1 (strsHV l) [] (strsHV (Lib.compact l)) := by
 refine SpecR.of_cells (by simpa using hc) (fun x hx => by obtain ⟨p, _, rfl⟩ := List.mem_map.1 hx; rfl) (by simp) (fun w blk cap us V dead hVs hcell hblk hcap hmax hone hdead hrep hus hargs => ?_) (fun A w us dead hus hargs hes => ?_)
 ·have hu : us = #[] := Array.eq_empty_of_size_eq_zero hus
  subst hu
  have hV : V = (l.map encStr).toArray := by
   apply Array.ext_getElem?
   intro i
   rcases Nat.lt_or_ge i l.length with hi | hi
   ·have hg := List.getElem?_eq_getElem hi
    obtain ⟨u, h1, h2⟩ := hrep i 0 [.str l[i]] _ (by simp [strsHV, hg]) rfl
    rw [irep_str' h2] at h1
    simpa [hg] using h1
   ·rw [Array.getElem?_eq_none (by rw [hVs]; simp; omega), Array.getElem?_eq_none (by simp; omega)]
  subst hV
  have hH : Holds encStr w blk 0 l.toArray := by
   intro i hi
   have := hcell i (by simpa using hi)
   have hi' : i < l.length := by simpa using hi
   rw [Nat.zero_add]
   refine ⟨?_, this.2⟩
   rw [this.1]
   simp [List.getElem?_eq_getElem hi', getElem!_pos l i hi']
  have := Tryz.slices_Compact_string blk 0 cap l w hH (by omega) (by simpa using hcap)
  rw [show (strsHV l).length = l.length by simp, show (strsHV (Lib.compact l)).length = (Lib.compact l).length by simp]
  refine this.mono ?_
  rintro x w' ⟨rfl, n, rfl⟩
  refine ⟨rfl, n, #[], ((Lib.compact l ++ List.replicate (l.length - (Lib.compact l).length) []).map encStr).toArray, by simp; omega, fun v hv => by simp at hv; rcases hv with ⟨a, _, rfl⟩ | ⟨_, rfl⟩ <;> rfl, ?_, fun i j x c hx hc => ?_⟩
  ·rw [putRow_map, grow_nil]; simp
  ·obtain ⟨rfl, a, ha, rfl⟩ := isStr_at hx hc
   have hi := getElem?_lt ha
   exact ⟨encStr a, by simp only [Nat.mul_one, Nat.add_zero, List.getElem?_toArray, List.map_append]; rw [List.getElem?_append_left (by simpa using hi), List.getElem?_map, ha]; rfl, .str _⟩
 ·have hu : us = #[] := Array.eq_empty_of_size_eq_zero hus
  subst hu
  exact Tryz.slices_Compact_string_empty A 0 w
/-! ### What is sorted -/
theorem leS_eq (x y : List UInt8) : decide (x ≤ y) = !ltB y x := by
 show _ = !Op.bytesLess y x
 rw [bytesLess_eq, ← decide_not]
 rfl
theorem srtS_of {l s : List (List UInt8)} (hp : s.Perm l) (hs : s.Pairwise fun a b => ltB a b = true) : srtS l = s := by
 have e : srtS l = l.mergeSort (fun x y => !ltB y x) := by
  unfold srtS
  congr 1
  funext x y
  exact leS_eq x y
 have hsn : s.Nodup := hs.imp fun h => ltB_ne h
 have hpm : (srtS l).Perm s := (by rw [e]; exact List.mergeSort_perm l _ : (srtS l).Perm l).trans hp.symm
 have hle : (srtS l).Pairwise fun a b => (!ltB b a) = true := by
  rw [e]
  refine List.pairwise_mergeSort (fun a b c h1 h2 => ?_) (fun a b => ?_) l
  ·rw [Bool.not_eq_true'] at h1 h2 ⊢
   cases h : ltB c a with
   | false => rfl
   | true =>
    by_cases hab : a = b
    ·subst hab; rw [h] at h2; exact h2
    ·have : ltB a b = true := by
      cases hq : ltB a b with
      | true => rfl
      | false => exact absurd (ltB_tri hq h1) hab
     rw [ltB_trans h this] at h2; exact h2
  ·cases h : ltB b a with
   | false => rfl
   | true => rw [ltB_asymm h]; rfl
 have hnd : (srtS l).Nodup := hpm.symm.nodup hsn
 refine pw_unique (r := fun a b => ltB a b = true) (fun x hx => by rw [ltB_irrefl] at hx; cases hx) (fun h k => ltB_trans h k) ?_ hs fun x => hpm.mem_iff
 refine (hle.and hnd).imp fun {a b} ⟨h1, h2⟩ => ?_
 cases hq : ltB a b with
 | true => rfl
 | false => rw [Bool.not_eq_true'] at h1; exact absurd (ltB_tri hq h1) h2
theorem compact_nodup {s : List (List UInt8)} (h : s.Nodup) : Lib.compact s = s := by
 unfold Lib.compact Lib.compactUpTo
 rw [List.filter_eq_self.2]
 ·apply List.ext_getElem
  ·simp
  ·intro i h1 h2
   simp [getElem!_pos, h2]
 ·intro j hj
  have hj := List.mem_range.1 hj
  cases j with
  | zero => exact Lib.keeps_lt_one _ 0 (by omega)
  | succ j =>
   refine Lib.keeps_pos ?_
   simp only [List.getElem!_toArray, Nat.add_sub_cancel]
   rw [getElem!_pos s (j + 1) hj, getElem!_pos s j (by omega)]
   intro e
   have := (List.getElem_inj h).1 e
   omega
end Go.Hv
set_option linter.unusedVariables false
set_option linter.unusedSimpArgs false
/- Apply of changes to a tree (layer 25). -/
namespace Go.Hv
open Go Go.Hv Go.Proofs Go.RowKit
open Go.Proofs.YtcmomegkhoggpaaGreatDoor
/-! ### Maps of numbers by strings -/
def sents (ks : List (List UInt8)) (f : List UInt8 → Int) : List (HV × HV) := ks.map fun p => (HV.str p, i64 (f p))
theorem tkS : tk Tryz.prog 9 = some .string := by kernel_rfl
theorem keyEqS (a b : List UInt8) : keyEq Tryz.prog 9 (.str a) (.str b) = some (decide (a = b)) := by
 unfold keyEq; rw [tkS]
theorem sents_get (ks : List (List UInt8)) (f : List UInt8 → Int) (j : Nat) : (sents ks f)[j]? = (ks[j]?).map fun p => (HV.str p, i64 (f p)) := by unfold sents; rw [List.getElem?_map]
@[simp] theorem sents_length (ks : List (List UInt8)) (f : List UInt8 → Int) : (sents ks f).length = ks.length := by unfold sents; rw [List.length_map]
theorem find_sentsF (c : List UInt8) (f : List UInt8 → Int) : ∀ (ks : List (List UInt8)) (i : Nat), findHV Tryz.prog 9 (.str c) (sents ks f) i = some (if c ∈ ks then some (i + ks.idxOf c, i64 (f c)) else none)
 | [], i => by simp [sents, findHV]
 | k :: ks, i => by
  have ih := find_sentsF c f ks (i + 1)
  unfold sents at ih ⊢
  rw [List.map_cons, findHV, keyEqS]
  by_cases e : c = k
  ·subst e; simp
  ·simp only [e, decide_false, ih, List.mem_cons, false_or]
   have e2 : (k == c) = false := by simpa using fun x : k = c => e x.symm
   split
   ·rw [List.idxOf_cons, e2]; simp only [cond_false]; rw [show i + 1 + ks.idxOf c = i + (ks.idxOf c + 1) by omega]
   ·rfl
theorem find_sents (ks : List (List UInt8)) (f : List UInt8 → Int) (c : List UInt8) : findHV Tryz.prog 9 (.str c) (sents ks f) 0 = some (if c ∈ ks then some (ks.idxOf c, i64 (f c)) else none) := by
 rw [find_sentsF, Nat.zero_add]
theorem sents_in {ks : List (List UInt8)} {f : List UInt8 → Int} {c : List UInt8} (h : c ∈ ks) : (sents ks f)[ks.idxOf c]? = some (.str c, i64 (f c)) := by
 have hlt := List.idxOf_lt_length_iff.2 h
 rw [sents_get, List.getElem?_eq_getElem hlt, List.getElem_idxOf hlt]; rfl
theorem sents_set {ks : List (List UInt8)} (hn : ks.Nodup) {f : List UInt8 → Int} {c : List UInt8} (h : c ∈ ks) (b : Int) : (sents ks f).set (ks.idxOf c) (.str c, i64 b) = sents ks (updF f c b) := by
 apply List.ext_getElem?
 intro i
 have hlt := List.idxOf_lt_length_iff.2 h
 rw [List.getElem?_set, sents_get, sents_get]
 split
 ·next e =>
  subst e
  rw [if_pos (by simpa using hlt), List.getElem?_eq_getElem hlt, List.getElem_idxOf hlt]
  simp [updF]
 ·next e =>
  rcases Nat.lt_or_ge i ks.length with hi | hi
  ·rw [List.getElem?_eq_getElem hi]
   have : ks[i] ≠ c := fun he => e (by rw [← he]; exact hn.idxOf_getElem i hi)
   simp [updF, this]
  ·rw [List.getElem?_eq_none hi]; rfl
theorem sents_snoc {ks : List (List UInt8)} {f : List UInt8 → Int} {c : List UInt8} (h : c ∉ ks) (b : Int) : sents ks f ++ [(.str c, i64 b)] = sents (ks ++ [c]) (updF f c b) := by
 unfold sents
 rw [List.map_append]
 congr 1
 ·refine List.map_congr_left fun p hp => ?_
  have : p ≠ c := fun e => h (e ▸ hp)
  simp [updF, this]
 ·simp [updF]
theorem sents_del {ks : List (List UInt8)} {f : List UInt8 → Int} {c : List UInt8} : (sents ks f).eraseIdx (ks.idxOf c) = sents (ks.erase c) f := by
 unfold sents
 rw [← map_eraseIdx', List.erase_eq_eraseIdx_of_idxOf rfl]
@[simp] theorem subM_sents (id : Nat) (x y : HV) (ks : List (List UInt8)) (f : List UInt8 → Int) : subM id x y (sents ks f) = sents ks f := by
 unfold subM sents
 rw [List.map_map]
 exact List.map_congr_left fun k _ => by simp [HV.sub]
@[simp] theorem isIM_sents (ks : List (List UInt8)) (f : List UInt8 → Int) : isIM (sents ks f) = true := by
 unfold isIM sents
 rw [List.all_map, List.all_eq_true]
 intro x _; rfl
def blobOf (l : List File) (p : List UInt8) : Int := ((l.find? fun f => decide (f.path = p)).map File.blob).getD 0
theorem sorted_path {l : List File} (h : SortedF l) {x y : File} (hx : x ∈ l) (hy : y ∈ l) (e : x.path = y.path) : x = y := by
 obtain ⟨i, hi, rfl⟩ := List.mem_iff_getElem.1 hx
 obtain ⟨j, hj, rfl⟩ := List.mem_iff_getElem.1 hy
 have h1 : (l.map File.path)[i]'(by simpa using hi) = (l.map File.path)[j]'(by simpa using hj) := by simpa using e
 have := (List.getElem_inj (sortedF_nodup h)).1 h1
 subst this; rfl
theorem blobOf_mem {l : List File} (h : SortedF l) {x : File} (hx : x ∈ l) : blobOf l x.path = x.blob := by
 unfold blobOf
 cases hf : l.find? (fun f => decide (f.path = x.path)) with
 | none => have := List.find?_eq_none.1 hf x hx; simp at this
 | some y =>
  have h1 := List.mem_of_find?_eq_some hf
  have h2 : y.path = x.path := by have := List.find?_some hf; simpa using this
  rw [sorted_path h h1 hx h2]; rfl
theorem mapOf_right {l : List File} (h : rightT l = 0) : MapOf (l.map File.path) (blobOf l) l where
 sorted := (rightT_sorted h).1
 nodup := sortedF_nodup (rightT_sorted h).1
 keys := fun p => by rw [List.mem_map]
 vals := fun x hx => blobOf_mem (rightT_sorted h).1 hx
 nz := fun x hx => by have := ((rightT_sorted h).2.2 x hx).2.1; omega
theorem take_notin {l : List File} (h : SortedF l) {k : Nat} (hk : k < l.length) : l[k].path ∉ (l.map File.path).take k := fun hm => by
 obtain ⟨i, hi, e⟩ := List.mem_iff_getElem.1 hm
 rw [List.length_take, List.length_map] at hi
 rw [List.getElem_take, List.getElem_map] at e
 have := List.pairwise_iff_getElem.1 h i k (by omega) hk (by omega)
 exact ltB_ne this e
theorem contents_step {l : List File} (h : SortedF l) {k : Nat} (hk : k < l.length) : sents ((l.map File.path).take k) (blobOf l) ++ [(HV.str l[k].path, i64 l[k].blob)] = sents ((l.map File.path).take (k + 1)) (blobOf l) := by
 rw [List.take_succ_eq_append_getElem (by simpa using hk), List.getElem_map, ← blobOf_mem h (List.getElem_mem hk)]
 unfold sents
 rw [List.map_append]; rfl
set_option maxRecDepth 20000 in
theorem contents_spec (l : List File) (hl : SortedF l) (hn : l.length ≤ 1000000) : SpecM Tryz.prog 120 [.sl 2 false (filesHV l)] (sents (l.map File.path) (blobOf l)) := by
 refine SpecM.of_HT Tryz.func120 rfl (by rw [Tryz.ntmps120]; simp) rfl ?_
 rw [Tryz.ntmps120]
 refine HT.seq ?_;refine HT.region ?_;simp (disch := first|omega|(simp<;>omega)|fail) [wr3]
 refine HT.seq ?_;refine HT.region ?_;simp (disch := first|omega|(simp<;>omega)|fail) [wr3]
 refine HT.seq ?_;refine HT.seq ?_;refine HT.region ?_;simp (disch := first|omega|(simp<;>omega)|fail) [wr3]
 refine HT.block ?_;refine HT.loopK (fun k : {k : Nat // k ≤ l.length} => [.s 9 (i64 k), .o 6 (.map (sents ((l.map File.path).take k) (blobOf l)))]) [3, 7, 8] [] (fun k => l.length - k) (⟨0, by omega⟩) ?_ ?_
 ·simp (disch := first|omega|(simp<;>omega)|fail) [wr3, sents]
 rintro ⟨k, hk⟩
 simp (disch := first|omega|(simp<;>omega)|fail) [wr3]
 refine HT.seq ?_;refine HT.region ?_;simp (disch := first|omega|(simp<;>omega)|fail) [wr3]
 refine HT.seq ?_;refine HT.cond' ?_;simp (disch := first|omega|(simp<;>omega)|fail) [wr3]
 refine ⟨fun h10 => ?_, fun h10 => ?_⟩
 ·have hk' : k < l.length := by omega
  have hf1 : findHV Tryz.prog 9 (.str l[k].path) (sents ((l.map File.path).take k) (blobOf l)) 0 = some none := by rw [find_sents, if_neg (take_notin hl hk')]
  refine HT.skip ?_;simp (disch := first|omega|(simp<;>omega)|fail) [wr3]
  refine HT.seq ?_;refine HT.block ?_;refine HT.seq ?_;refine HT.region ?_;simp (disch := first|omega|(simp<;>omega)|fail) [wr3]
  refine HT.region ?_;simp (disch := first|omega|(simp<;>omega)|fail) [wr3, hf1, tkS]
  refine HT.region ?_;simp (disch := first|omega|(simp<;>omega)|fail) [wr3]
  refine Round.mk' (⟨k + 1, by omega⟩) (by dsimp only; omega) rfl ?_
  simp (disch := first|omega|(simp<;>omega)|fail) [wr3, contents_step hl hk']
 ·obtain rfl : k = l.length := by omega
  have he : (l.map File.path).take l.length = l.map File.path := List.take_of_length_le (by simp)
  refine HT.exit ?_
  simp (disch := first|omega|(simp<;>omega)|fail) [wr3]
  refine HT.seq ?_;refine HT.region ?_;simp (disch := first|omega|(simp<;>omega)|fail) [wr3]
  refine HT.ret ?_;simp (disch := first|omega|(simp<;>omega)|fail) [wr3, he]
theorem there_spec (l : List File) (p : List UInt8) (hn : l.length ≤ 1000000) : Spec1 Tryz.prog 145 [.sl 2 false (filesHV l), .str p] (bo (thereV l p)) := by
 refine Spec1.of_HT Tryz.func145 rfl (by rw [Tryz.ntmps145]; simp) rfl ?_
 rw [Tryz.ntmps145]
 refine HT.seq ?_;refine HT.region ?_;simp (disch := first|omega|(simp<;>omega)|fail) [wr3]
 refine HT.seq ?_;refine HT.seq ?_;refine HT.region ?_;simp (disch := first|omega|(simp<;>omega)|fail) [wr3]
 refine HT.block ?_;refine HT.loopK (fun k : {k : Nat // k ≤ l.length ∧ UpTo (fun f => !decide (f.path = p)) l k} => [.s 5 (i64 k)]) [0, 1] [] (fun k => l.length - k) (⟨0, by omega, UpTo.zero _ _⟩) ?_ ?_
 ·simp (disch := first|omega|(simp<;>omega)|fail) [wr3]
 rintro ⟨k, hk, hg⟩
 simp (disch := first|omega|(simp<;>omega)|fail) [wr3]
 refine HT.seq ?_;refine HT.seq ?_;refine HT.region ?_;simp (disch := first|omega|(simp<;>omega)|fail) [wr3]
 refine HT.cond' ?_;simp (disch := first|omega|(simp<;>omega)|fail) [wr3]
 refine ⟨fun h9 => ?_, fun h9 => ?_⟩
 ·have hk' : k < l.length := by omega
  refine HT.skip ?_;simp (disch := first|omega|(simp<;>omega)|fail) [wr3]
  refine HT.seq ?_;refine HT.block ?_;refine HT.seq ?_;refine HT.region ?_;simp (disch := first|omega|(simp<;>omega)|fail) [wr3]
  refine HT.cond' ?_;simp (disch := first|omega|(simp<;>omega)|fail) [wr3]
  refine ⟨fun h18 => ?_, fun h18 => ?_⟩
  ·refine HT.seq ?_;refine HT.region ?_;simp (disch := first|omega|(simp<;>omega)|fail) [wr3]
   refine HT.ret ?_
   have hx : thereV l p = true := List.any_eq_true.2 ⟨_, List.getElem_mem hk', by simpa using h18⟩
   simp (disch := first|omega|(simp<;>omega)|fail) [wr3, hx]
  ·refine HT.skip ?_;simp (disch := first|omega|(simp<;>omega)|fail) [wr3]
   refine HT.region ?_;simp (disch := first|omega|(simp<;>omega)|fail) [wr3]
   refine Round.mk' (⟨k + 1, by omega, hg.succ hk' (by simpa using h18)⟩) (by dsimp only; omega) rfl ?_
   simp (disch := first|omega|(simp<;>omega)|fail) [wr3]
 ·obtain rfl : k = l.length := by omega
  refine HT.exit ?_
  simp (disch := first|omega|(simp<;>omega)|fail) [wr3]
  refine HT.seq ?_;refine HT.region ?_;simp (disch := first|omega|(simp<;>omega)|fail) [wr3]
  refine HT.ret ?_
  have hx : thereV l p = false := by
   cases hc : thereV l p with
   | false => rfl
   | true =>
    obtain ⟨x, hx, hp⟩ := List.any_eq_true.1 hc
    obtain ⟨i, hi⟩ := List.mem_iff_getElem?.1 hx
    have := hg i x (getElem?_lt hi) hi
    simp [of_decide_eq_true hp] at this
  simp (disch := first|omega|(simp<;>omega)|fail) [wr3, hx]
theorem setR_step (p : List UInt8) (b : Int) (l : List File) {k : Nat} (hk : k < l.length) (inn : Bool) :
  setR p b inn (l.drop k) = (if (!inn && !ltB l[k].path p) = true then [⟨p, b⟩] else []) ++ (if l[k].path = p then [] else [l[k]]) ++ setR p b (inn || !ltB l[k].path p) (l.drop (k + 1)) := by
 rw [List.drop_eq_getElem_cons hk]; rfl
theorem one_len (c : Prop) [Decidable c] (x : File) : (if c then [] else [x]).length ≤ 1 := by split <;> simp
theorem setR_len (p : List UInt8) (b : Int) : ∀ (l : List File) (inn : Bool), (setR p b inn l).length ≤ l.length + 1
 | [], inn => by cases inn <;> simp [setR]
 | x :: r, true => by rw [setR_true]; exact Nat.le_succ_of_le (List.length_filter_le _ _)
 | x :: r, false => by
  have h3 := one_len (x.path = p) x
  unfold setR
  cases hx : ltB x.path p with
  | true =>
   have := setR_len p b r false
   show (([] ++ (if x.path = p then [] else [x])) ++ setR p b false r).length ≤ _
   rw [List.nil_append, List.length_append, List.length_cons]; omega
  | false =>
   have h2 : (setR p b true r).length ≤ r.length := by rw [setR_true]; exact List.length_filter_le _ _
   show ((([⟨p, b⟩] : List File) ++ (if x.path = p then [] else [x])) ++ setR p b true r).length ≤ _
   rw [List.length_append, List.length_append, List.length_singleton, List.length_cons]; omega
set_option maxRecDepth 20000 in
set_option maxHeartbeats 2000000 in
theorem Set_spec (l : List File) (p : List UInt8) (b : Int) (hn : l.length ≤ 1000000) : Spec1 Tryz.prog 146 [.sl 2 false (filesHV l), .str p, i64 b] (.sl 2 false (filesHV (setV l p b))) := by
 have hsl : (setV l p b).length ≤ l.length + 1 := setR_len p b l (decide (b = 0))
 refine Spec1.of_HT Tryz.func146 rfl (by rw [Tryz.ntmps146]; simp) rfl ?_
 rw [Tryz.ntmps146]
 refine HT.seq ?_;refine HT.region ?_;simp (disch := first|omega|(simp<;>omega)|fail) [wr3]
 refine HT.seq ?_;refine HT.region ?_;simp (disch := first|omega|(simp<;>omega)|fail) [wr3]
 refine HT.weaken (HS.le_own (t := 7) 200 88 2 _ (by decide) rfl (by decide)) ?_
 refine HT.seq ?_;refine HT.region ?_;simp (disch := first|omega|(simp<;>omega)|fail) [wr3]
 refine HT.seq ?_;refine HT.seq ?_;refine HT.region ?_;simp (disch := first|omega|(simp<;>omega)|fail) [wr3]
 refine HT.block ?_;refine HT.loopK (fun k : {k : Nat × List File × Bool // k.1 ≤ l.length ∧ setV l p b = k.2.1 ++ setR p b k.2.2 (l.drop k.1)} => [.s 9 (i64 k.1.1), .s 8 (bo k.1.2.2), .s 7 (.ref 200), .o 200 (.row 88 2 (filesHV k.1.2.1))]) [0, 1, 2] [] (fun k => l.length - k.1.1) (⟨⟨0, [], decide (b = 0)⟩, by simp, by simp [setV]⟩) ?_ ?_
 ·simp (disch := first|omega|(simp<;>omega)|fail) [wr3]
 rintro ⟨⟨k, out, inn⟩, hk, hs⟩
 simp (disch := first|omega|(simp<;>omega)|fail) [wr3]
 refine HT.seq ?_;refine HT.seq ?_;refine HT.region ?_;simp (disch := first|omega|(simp<;>omega)|fail) [wr3]
 refine HT.cond' ?_;simp (disch := first|omega|(simp<;>omega)|fail) [wr3]
 refine ⟨fun h15 => ?_, fun h15 => ?_⟩
 ·dsimp only at hk hs
  obtain ⟨i0, hi0⟩ : ∃ i0, i0 = inn := ⟨_, rfl⟩
  have hk' : k < l.length := by omega
  have hol : out.length ≤ l.length + 1 := by have := congrArg List.length hs; rw [List.length_append] at this; omega
  refine HT.skip ?_;simp (disch := first|omega|(simp<;>omega)|fail) [wr3]
  refine HT.seq ?_;refine HT.block ?_;refine HT.seq ?_;refine HT.seq ?_
  by_cases d1 : inn = true
  ·subst d1
   refine HT.region ?_;simp (disch := first|omega|(simp<;>omega)|fail) [wr3]
   refine HT.cond' ?_;simp (disch := first|omega|(simp<;>omega)|fail) [wr3]
   refine HT.skip ?_;simp (disch := first|omega|(simp<;>omega)|fail) [wr3]
   refine HT.seq ?_;refine HT.region ?_;simp (disch := first|omega|(simp<;>omega)|fail) [wr3]
   refine HT.cond' ?_;simp (disch := first|omega|(simp<;>omega)|fail) [wr3]
   refine ⟨fun h41 => ?_, fun h41 => ?_⟩
   ·refine HT.region ?_;simp (disch := first|omega|(simp<;>omega)|fail) [wr3]
    refine HT.region ?_;simp (disch := first|omega|(simp<;>omega)|fail) [wr3]
    refine Round.mk' (⟨⟨k + 1, out ++ (if (!i0 && !ltB l[k].path p) = true then [⟨p, b⟩] else []) ++ (if l[k].path = p then [] else [l[k]]), i0 || !ltB l[k].path p⟩, by dsimp only; omega, by dsimp only; rw [hi0, hs, setR_step p b l hk']; simp only [List.append_assoc]⟩) (by dsimp only; omega) rfl ?_
    simp (disch := first|omega|(simp<;>omega)|fail) [wr3]
    first | (exact absurd (by simpa using h41) (ltB_ne c2)) | (simp [filesHV, c2, h41, hi0, ltB_irrefl]; done) | (simp [filesHV, h41, hi0, ltB_irrefl]; done)
   ·refine HT.skip ?_;simp (disch := first|omega|(simp<;>omega)|fail) [wr3]
    refine HT.region ?_;simp (disch := first|omega|(simp<;>omega)|fail) [wr3]
    refine Round.mk' (⟨⟨k + 1, out ++ (if (!i0 && !ltB l[k].path p) = true then [⟨p, b⟩] else []) ++ (if l[k].path = p then [] else [l[k]]), i0 || !ltB l[k].path p⟩, by dsimp only; omega, by dsimp only; rw [hi0, hs, setR_step p b l hk']; simp only [List.append_assoc]⟩) (by dsimp only; omega) rfl ?_
    simp (disch := first|omega|(simp<;>omega)|fail) [wr3]
    first | (exact absurd (by simpa using h41) (ltB_ne c2)) | (simp [filesHV, c2, h41, hi0, ltB_irrefl]; done) | (simp [filesHV, h41, hi0, ltB_irrefl]; done)
  obtain rfl : inn = false := by simpa using d1
  by_cases c2 : ltB l[k].path p = true
  ·have hq : Go.Op.bytesLess l[k].path p = true := c2
   refine HT.region ?_;simp (disch := first|omega|(simp<;>omega)|fail) [wr3, hq]
   refine HT.cond' ?_;simp (disch := first|omega|(simp<;>omega)|fail) [wr3]
   refine HT.skip ?_;simp (disch := first|omega|(simp<;>omega)|fail) [wr3]
   refine HT.seq ?_;refine HT.region ?_;simp (disch := first|omega|(simp<;>omega)|fail) [wr3]
   refine HT.cond' ?_;simp (disch := first|omega|(simp<;>omega)|fail) [wr3]
   refine ⟨fun h41 => ?_, fun h41 => ?_⟩
   ·refine HT.region ?_;simp (disch := first|omega|(simp<;>omega)|fail) [wr3]
    refine HT.region ?_;simp (disch := first|omega|(simp<;>omega)|fail) [wr3]
    refine Round.mk' (⟨⟨k + 1, out ++ (if (!i0 && !ltB l[k].path p) = true then [⟨p, b⟩] else []) ++ (if l[k].path = p then [] else [l[k]]), i0 || !ltB l[k].path p⟩, by dsimp only; omega, by dsimp only; rw [hi0, hs, setR_step p b l hk']; simp only [List.append_assoc]⟩) (by dsimp only; omega) rfl ?_
    simp (disch := first|omega|(simp<;>omega)|fail) [wr3]
    first | (exact absurd (by simpa using h41) (ltB_ne c2)) | (simp [filesHV, c2, h41, hi0, ltB_irrefl]; done) | (simp [filesHV, h41, hi0, ltB_irrefl]; done)
   ·refine HT.skip ?_;simp (disch := first|omega|(simp<;>omega)|fail) [wr3]
    refine HT.region ?_;simp (disch := first|omega|(simp<;>omega)|fail) [wr3]
    refine Round.mk' (⟨⟨k + 1, out ++ (if (!i0 && !ltB l[k].path p) = true then [⟨p, b⟩] else []) ++ (if l[k].path = p then [] else [l[k]]), i0 || !ltB l[k].path p⟩, by dsimp only; omega, by dsimp only; rw [hi0, hs, setR_step p b l hk']; simp only [List.append_assoc]⟩) (by dsimp only; omega) rfl ?_
    simp (disch := first|omega|(simp<;>omega)|fail) [wr3]
    first | (exact absurd (by simpa using h41) (ltB_ne c2)) | (simp [filesHV, c2, h41, hi0, ltB_irrefl]; done) | (simp [filesHV, h41, hi0, ltB_irrefl]; done)
  have hq : Go.Op.bytesLess l[k].path p = false := by simpa using c2
  refine HT.region ?_;simp (disch := first|omega|(simp<;>omega)|fail) [wr3, hq]
  refine HT.cond' ?_;simp (disch := first|omega|(simp<;>omega)|fail) [wr3]
  refine HT.seq ?_;refine HT.region ?_;simp (disch := first|omega|(simp<;>omega)|fail) [wr3]
  refine HT.region ?_;simp (disch := first|omega|(simp<;>omega)|fail) [wr3]
  refine HT.seq ?_;refine HT.region ?_;simp (disch := first|omega|(simp<;>omega)|fail) [wr3]
  refine HT.cond' ?_;simp (disch := first|omega|(simp<;>omega)|fail) [wr3]
  refine ⟨fun h41 => ?_, fun h41 => ?_⟩
  ·refine HT.region ?_;simp (disch := first|omega|(simp<;>omega)|fail) [wr3]
   refine HT.region ?_;simp (disch := first|omega|(simp<;>omega)|fail) [wr3]
   refine Round.mk' (⟨⟨k + 1, out ++ (if (!i0 && !ltB l[k].path p) = true then [⟨p, b⟩] else []) ++ (if l[k].path = p then [] else [l[k]]), i0 || !ltB l[k].path p⟩, by dsimp only; omega, by dsimp only; rw [hi0, hs, setR_step p b l hk']; simp only [List.append_assoc]⟩) (by dsimp only; omega) rfl ?_
   simp (disch := first|omega|(simp<;>omega)|fail) [wr3]
   first | (exact absurd (by simpa using h41) (ltB_ne c2)) | (simp [filesHV, c2, h41, hi0, ltB_irrefl]; done) | (simp [filesHV, h41, hi0, ltB_irrefl]; done)
  ·refine HT.skip ?_;simp (disch := first|omega|(simp<;>omega)|fail) [wr3]
   refine HT.region ?_;simp (disch := first|omega|(simp<;>omega)|fail) [wr3]
   refine Round.mk' (⟨⟨k + 1, out ++ (if (!i0 && !ltB l[k].path p) = true then [⟨p, b⟩] else []) ++ (if l[k].path = p then [] else [l[k]]), i0 || !ltB l[k].path p⟩, by dsimp only; omega, by dsimp only; rw [hi0, hs, setR_step p b l hk']; simp only [List.append_assoc]⟩) (by dsimp only; omega) rfl ?_
   simp (disch := first|omega|(simp<;>omega)|fail) [wr3]
   first | (exact absurd (by simpa using h41) (ltB_ne c2)) | (simp [filesHV, c2, h41, hi0, ltB_irrefl]; done) | (simp [filesHV, h41, hi0, ltB_irrefl]; done)
 ·dsimp only at hk hs
  obtain rfl : k = l.length := by omega
  have hol : out.length ≤ l.length + 1 := by have := congrArg List.length hs; rw [List.length_append] at this; omega
  rw [List.drop_length] at hs
  refine HT.exit ?_
  simp (disch := first|omega|(simp<;>omega)|fail) [wr3]
  refine HT.seq ?_;refine HT.seq ?_;refine HT.region ?_;simp (disch := first|omega|(simp<;>omega)|fail) [wr3]
  refine HT.cond' ?_;simp (disch := first|omega|(simp<;>omega)|fail) [wr3]
  refine ⟨fun h50 => ?_, fun h50 => ?_⟩
  ·refine HT.region ?_;simp (disch := first|omega|(simp<;>omega)|fail) [wr3]
   refine HT.seq ?_;refine HT.region ?_;simp (disch := first|omega|(simp<;>omega)|fail) [wr3]
   refine HT.ret ?_;simp (disch := first|omega|(simp<;>omega)|fail) [wr3, hs, setR, h50]
  ·refine HT.skip ?_;simp (disch := first|omega|(simp<;>omega)|fail) [wr3]
   refine HT.seq ?_;refine HT.region ?_;simp (disch := first|omega|(simp<;>omega)|fail) [wr3]
   refine HT.ret ?_;simp (disch := first|omega|(simp<;>omega)|fail) [wr3, hs, setR, h50]
theorem setV_len (l : List File) (p : List UInt8) (b : Int) : (setV l p b).length ≤ l.length + 1 := setR_len p b l _
theorem runT_cons_some {r r1 : List File} {c : List File} {k : Nat} (hk : k < c.length) (e : stepT r c[k] = some r1) : runT r (c.drop k) = runT r1 (c.drop (k + 1)) := by
 rw [List.drop_eq_getElem_cons hk, runT, e]
theorem runT_cons_none {r : List File} {c : List File} {k : Nat} (hk : k < c.length) (e : stepT r c[k] = none) : runT r (c.drop k) = none := by
 rw [List.drop_eq_getElem_cons hk, runT, e]
theorem apply_bad {l c : List File} (h : ¬ rightT l = 0) : applyT l c = ([], rightT l) := by unfold applyT; rw [if_pos h]
theorem apply_long {l c : List File} (h : rightT l = 0) (h2 : c.length > 16) : applyT l c = ([], 4) := by unfold applyT; rw [if_neg (by simpa using h), if_pos h2]
theorem apply_none {l c : List File} (h : rightT l = 0) (h2 : ¬ c.length > 16) (h3 : runT l c = none) : applyT l c = ([], 8) := by unfold applyT; rw [if_neg (by simpa using h), if_neg h2, h3]
theorem apply_some {l c r : List File} (h : rightT l = 0) (h2 : ¬ c.length > 16) (h3 : runT l c = some r) : applyT l c = if rightT r ≠ 0 then ([], rightT r) else (r, 0) := by unfold applyT; rw [if_neg (by simpa using h), if_neg h2, h3]
theorem runT_B {B : Nat} : ∀ {cs r r' : List File}, runT r cs = some r' → (∀ f ∈ r, f.path.length ≤ B) → (∀ f ∈ cs, f.path.length ≤ B) → r'.length ≤ r.length + cs.length ∧ ∀ f ∈ r', f.path.length ≤ B
 | [], r, r', e, h, _ => by cases e; exact ⟨by simp, h⟩
 | c :: cs, r, r', e, h, hc => by
  unfold runT at e
  cases hs : stepT r c with
  | none => rw [hs] at e; cases e
  | some r1 =>
   rw [hs] at e
   unfold stepT at hs
   split at hs
   ·cases hs
   ·cases hs
    have h1 := setV_len r c.path c.blob
    have h2 := runT_B e (fun f hf => by
     rcases (setV_mem r c.path c.blob f).1 hf with ⟨a, _⟩ | ⟨_, rfl⟩
     ·exact h f a
     ·exact hc c (by simp)) (fun f hf => hc f (by simp [hf]))
    exact ⟨by rw [List.length_cons]; omega, h2.2⟩
set_option maxRecDepth 20000 in
set_option maxHeartbeats 2000000 in
theorem refApply_spec (l c : List File) (hl : FileQ l) (hc : FileQ c) : SpecT Tryz.prog 126 [.sl 2 false (filesHV l), .sl 2 false (filesHV c)] [.sl 2 false (filesHV (applyT l c).1), i64 (applyT l c).2] := by
 have hl1 := hl.1
 have hc1 := hc.1
 refine SpecT.of_HT Tryz.func126 rfl (by rw [Tryz.ntmps126]; simp) (rs := [.tmp 4, .tmp 5]) rfl (by decide) ?_
 rw [Tryz.ntmps126]
 refine HT.seq ?_;refine HT.region ?_;simp (disch := first|omega|(simp<;>omega)|fail) [wr3]
 refine HT.seq ?_;refine HT.seq ?_;refine HT.region ?_;simp (disch := first|omega|(simp<;>omega)|fail) [wr3]
 refine stepK.mk (.call1 _ _ _ _ rfl Ty.hb144 rfl (refTRight_spec l hl.b) rfl rfl) ?_
 simp (disch := first|omega|(simp<;>omega)|fail) [wr3]
 refine HT.seq ?_;refine HT.region ?_;simp (disch := first|omega|(simp<;>omega)|fail) [wr3]
 refine HT.cond' ?_;simp (disch := first|omega|(simp<;>omega)|fail) [wr3]
 refine ⟨fun h13 => ?_, fun h13 => ?_⟩
 ·refine HT.seq ?_;refine HT.region ?_;simp (disch := first|omega|(simp<;>omega)|fail) [wr3]
  refine HT.weaken (HS.le_wk 4 (.sl 2 false []) (by decide) rfl rfl (HLe.nilf 0 2 true)) ?_
  refine HT.ret ?_;simp (disch := first|omega|(simp<;>omega)|fail) [wr3, apply_bad h13]
 ·refine HT.skip ?_;simp (disch := first|omega|(simp<;>omega)|fail) [wr3]
  refine HT.seq ?_;refine HT.seq ?_;refine HT.region ?_;simp (disch := first|omega|(simp<;>omega)|fail) [wr3]
  refine HT.cond' ?_;simp (disch := first|omega|(simp<;>omega)|fail) [wr3]
  refine ⟨fun h17 => ?_, fun h17 => ?_⟩
  ·have hx := apply_long (l := l) (c := c) (by simpa using h13) (by omega)
   refine HT.seq ?_;refine HT.region ?_;simp (disch := first|omega|(simp<;>omega)|fail) [wr3]
   refine HT.weaken (HS.le_wk 4 (.sl 2 false []) (by decide) rfl rfl (HLe.nilf 0 2 true)) ?_
   refine HT.ret ?_;simp (disch := first|omega|(simp<;>omega)|fail) [wr3, hx]
  ·refine HT.skip ?_;simp (disch := first|omega|(simp<;>omega)|fail) [wr3]
   refine HT.seq ?_;refine HT.region ?_;simp (disch := first|omega|(simp<;>omega)|fail) [wr3]
   refine HT.seq ?_;refine HT.seq ?_;refine HT.region ?_;simp (disch := first|omega|(simp<;>omega)|fail) [wr3]
   refine HT.block ?_;refine HT.loopK (fun k : {k : Nat × List File // k.1 ≤ c.length ∧ runT l c = runT k.2 (c.drop k.1) ∧ k.2.length ≤ l.length + k.1} => [.s 8 (i64 k.1.1), .s 7 (.sl 2 false (filesHV k.1.2))]) [1] [] (fun k => c.length - k.1.1) (⟨⟨0, l⟩, by simp, by simp, by simp⟩) ?_ ?_
   ·simp (disch := first|omega|(simp<;>omega)|fail) [wr3]
   rintro ⟨⟨k, r⟩, hk, hr, hlr⟩
   simp (disch := first|omega|(simp<;>omega)|fail) [wr3]
   refine HT.seq ?_;refine HT.seq ?_;refine HT.region ?_;simp (disch := first|omega|(simp<;>omega)|fail) [wr3]
   refine HT.cond' ?_;simp (disch := first|omega|(simp<;>omega)|fail) [wr3]
   refine ⟨fun h22 => ?_, fun h22 => ?_⟩
   ·dsimp only at hk hr hlr
    have hk' : k < c.length := by omega
    refine HT.skip ?_;simp (disch := first|omega|(simp<;>omega)|fail) [wr3]
    refine HT.seq ?_;refine HT.block ?_;refine HT.seq ?_;refine HT.seq ?_
    by_cases c1 : ¬ c[k].blob = 0
    ·refine HT.region ?_;simp (disch := first|omega|(simp<;>omega)|fail) [wr3, c1]
     have hst : stepT r c[k] = some (setV r c[k].path c[k].blob) := by unfold stepT; rw [if_neg (fun h => c1 h.1)]
     refine HT.cond' ?_;simp (disch := first|omega|(simp<;>omega)|fail) [wr3]
     refine HT.skip ?_;simp (disch := first|omega|(simp<;>omega)|fail) [wr3]
     refine HT.draw [.batch [0, 1, 2, 3, 4, 5, 6, 7, 8, 9, 10, 11, 12]] (by kernel_rfl) ?_
     simp (disch := first|omega|(simp<;>omega)|fail) [wr3]
     refine stepK.mk (.call1 _ _ _ rfl Ty.hb146 rfl rfl (Set_spec r c[k].path c[k].blob (by omega))) ?_
     refine HT.region ?_;simp (disch := first|omega|(simp<;>omega)|fail) [wr3]
     refine Round.mk' (⟨⟨k + 1, setV r c[k].path c[k].blob⟩, by dsimp only; omega, by dsimp only; rw [hr, runT_cons_some hk' hst], by dsimp only; have := setV_len r c[k].path c[k].blob; omega⟩) (by dsimp only; omega) rfl ?_
     simp (disch := first|omega|(simp<;>omega)|fail) [wr3]
    rw [Classical.not_not] at c1
    by_cases c2 : thereV r c[k].path = true
    ·refine HT.region ?_;simp (disch := first|omega|(simp<;>omega)|fail) [wr3, c1, c2]
     refine stepK.mk (.call1 _ _ _ _ rfl Ty.hb145 rfl (there_spec r c[k].path (by omega)) rfl rfl) ?_
     simp (disch := first|omega|(simp<;>omega)|fail) [wr3, c1, c2]
     have hst : stepT r c[k] = some (setV r c[k].path c[k].blob) := by unfold stepT; rw [if_neg (fun h => by rw [c2] at h; exact absurd h.2 (by simp))]
     refine HT.cond' ?_;simp (disch := first|omega|(simp<;>omega)|fail) [wr3]
     refine HT.skip ?_;simp (disch := first|omega|(simp<;>omega)|fail) [wr3]
     refine HT.draw [.batch [0, 1, 2, 3, 4, 5, 6, 7, 8, 9, 10, 11, 12]] (by kernel_rfl) ?_
     simp (disch := first|omega|(simp<;>omega)|fail) [wr3]
     refine stepK.mk (.call1 _ _ _ rfl Ty.hb146 rfl rfl (Set_spec r c[k].path c[k].blob (by omega))) ?_
     refine HT.region ?_;simp (disch := first|omega|(simp<;>omega)|fail) [wr3]
     refine Round.mk' (⟨⟨k + 1, setV r c[k].path c[k].blob⟩, by dsimp only; omega, by dsimp only; rw [hr, runT_cons_some hk' hst], by dsimp only; have := setV_len r c[k].path c[k].blob; omega⟩) (by dsimp only; omega) rfl ?_
     simp (disch := first|omega|(simp<;>omega)|fail) [wr3]
    have hst : stepT r c[k] = none := by unfold stepT; rw [if_pos ⟨c1, by simpa using c2⟩]
    refine HT.region ?_;simp (disch := first|omega|(simp<;>omega)|fail) [wr3, c1, c2]
    refine stepK.mk (.call1 _ _ _ _ rfl Ty.hb145 rfl (there_spec r c[k].path (by omega)) rfl rfl) ?_
    simp (disch := first|omega|(simp<;>omega)|fail) [wr3, c1, c2]
    refine HT.cond' ?_;simp (disch := first|omega|(simp<;>omega)|fail) [wr3]
    refine HT.seq ?_;refine HT.region ?_;simp (disch := first|omega|(simp<;>omega)|fail) [wr3]
    refine HT.weaken (HS.le_wk 4 (.sl 2 false []) (by decide) rfl rfl (HLe.nilf 0 2 true)) ?_
    refine HT.ret ?_;simp (disch := first|omega|(simp<;>omega)|fail) [wr3, apply_none (by simpa using h13) (by omega) (hr.trans (runT_cons_none hk' hst))]
   ·dsimp only at hk hr hlr
    obtain rfl : k = c.length := by omega
    rw [List.drop_length] at hr
    have hB := runT_B (B := 140737488355328) hr hl.2 hc.2
    refine HT.exit ?_
    simp (disch := first|omega|(simp<;>omega)|fail) [wr3]
    refine HT.seq ?_;refine HT.seq ?_;refine HT.region ?_;simp (disch := first|omega|(simp<;>omega)|fail) [wr3]
    refine stepK.mk (.call1 _ _ _ _ rfl Ty.hb144 rfl (refTRight_spec r ⟨by omega, hB.2⟩) rfl rfl) ?_
    simp (disch := first|omega|(simp<;>omega)|fail) [wr3]
    refine HT.seq ?_;refine HT.region ?_;simp (disch := first|omega|(simp<;>omega)|fail) [wr3]
    refine HT.cond' ?_;simp (disch := first|omega|(simp<;>omega)|fail) [wr3]
    refine ⟨fun h56 => ?_, fun h56 => ?_⟩
    ·refine HT.seq ?_;refine HT.region ?_;simp (disch := first|omega|(simp<;>omega)|fail) [wr3]
     refine HT.weaken (HS.le_wk 4 (.sl 2 false []) (by decide) rfl rfl (HLe.nilf 0 2 true)) ?_
     refine HT.ret ?_;simp (disch := first|omega|(simp<;>omega)|fail) [wr3, apply_some (by simpa using h13) (by omega) hr, h56]
    ·refine HT.skip ?_;simp (disch := first|omega|(simp<;>omega)|fail) [wr3]
     refine HT.seq ?_;refine HT.region ?_;simp (disch := first|omega|(simp<;>omega)|fail) [wr3]
     refine HT.ret ?_;simp (disch := first|omega|(simp<;>omega)|fail) [wr3, apply_some (by simpa using h13) (by omega) hr, h56]
end Go.Hv
set_option linter.unusedVariables false
namespace Go.Hv
theorem filter_ne_perm {l : List Nat} (hn : l.Nodup) {i : Nat} (hi : i ∈ l) : (i :: l.filter (· != i)).Perm l := by
 have : l.filter (· != i) = l.erase i := by
  rw [List.Nodup.erase_eq_filter hn]
 rw [this]
 exact (List.perm_cons_erase hi).symm
theorem perm_step {d l : List Nat} {n i : Nat} (h : (d ++ l).Perm (List.range n)) (hi : i ∈ l) : ((d ++ [i]) ++ l.filter (· != i)).Perm (List.range n) ∧ (l.filter (· != i)).length < l.length := by
 have hn : l.Nodup := by
  have := (h.nodup_iff).2 List.nodup_range
  exact (List.nodup_append.1 this).2.1
 have hp := filter_ne_perm hn hi
 constructor
 ·rw [List.append_assoc]
  exact (List.Perm.append_left d hp).trans h
 ·have := hp.length_eq
  simp at this; omega
theorem map_getD_range {α : Type} (l : List α) (d : α) : (List.range l.length).map (fun i => l.getD i d) = l := by
 apply List.ext_getElem?
 intro i
 rw [List.getElem?_map]
 rcases Nat.lt_or_ge i l.length with h | h
 ·rw [List.getElem?_range h]; simp [List.getElem?_eq_getElem h]
 ·rw [List.getElem?_eq_none (by simpa using h), List.getElem?_eq_none h]; rfl
theorem perm_taken {α : Type} {l : List α} {d : List Nat} (x : α) (h : (d ++ []).Perm (List.range l.length)) : (d.map (fun i => l.getD i x)).Perm l := by
 rw [List.append_nil] at h
 have := h.map (fun i => l.getD i x)
 rwa [map_getD_range] at this
end Go.Hv
set_option linter.unusedVariables false
set_option linter.unusedSimpArgs false
/- Apply of the program (layer 25). -/
namespace Go.Hv
open Go Go.Hv Go.Proofs Go.RowKit
open Go.Proofs.YtcmomegkhoggpaaGreatDoor
def takenS (ks : List (List UInt8)) (dn : List Nat) : List (List UInt8) := dn.map fun i => ks.getD i []
theorem takenS_snoc {ks : List (List UInt8)} {dn : List Nat} {i : Nat} (hi : i < ks.length) : takenS ks dn ++ [ks[i]] = takenS ks (dn ++ [i]) := by
 simp [takenS, List.getD_eq_getElem?_getD, List.getElem?_eq_getElem hi]
@[simp] theorem takenS_length (ks : List (List UInt8)) (dn : List Nat) : (takenS ks dn).length = dn.length := by simp [takenS]
theorem sorted_all {ks s out : List (List UInt8)} (hp : s.Perm ks) (hs : s.Pairwise fun a b => ltB a b = true) (ho : out.Perm ks) : srtS out = s ∧ Lib.compact (srtS out) = s := by
 have h := srtS_of (l := out) (hp.trans ho.symm) hs
 refine ⟨h, ?_⟩
 rw [h]; exact compact_nodup (hs.imp fun h => ltB_ne h)
set_option maxRecDepth 20000 in
set_option maxHeartbeats 2000000 in
theorem paths_spec (ks : List (List UInt8)) (f : List UInt8 → Int) (s : List (List UInt8)) (hp : s.Perm ks) (hs : s.Pairwise fun a b => ltB a b = true) (hn : ks.length ≤ 100000) : Spec1 Tryz.prog 140 [.sl 1 true [[.mp (sents ks f)]]] (.sl 1 false (strsHV s)) := by
 refine Spec1.of_HT Tryz.func140 rfl (by rw [Tryz.ntmps140]; simp) rfl ?_
 rw [Tryz.ntmps140]
 refine HT.seq ?_;refine HT.region ?_;simp (disch := first|omega|(simp<;>omega)|fail) [wr3]
 refine HT.seq ?_;refine HT.region ?_;simp (disch := first|omega|(simp<;>omega)|fail) [wr3]
 refine HT.weaken (HS.le_own (t := 3) 200 9 1 _ (by decide) rfl (by decide)) ?_
 refine HT.seq ?_;refine HT.seq ?_;refine HT.region ?_;simp (disch := first|omega|(simp<;>omega)|fail) [wr3]
 refine HT.block ?_;refine HT.loopK (fun k : {k : Nat × List (List UInt8) // (k.1 = 0 ∧ k.2 = []) ∨ (k.1 = 1 ∧ k.2.Perm ks)} => [.s 9 (i64 k.1.1), .s 3 (.ref 200), .o 200 (.row 9 1 (strsHV k.1.2))]) [7, 8] [] (fun k => 1 - k.1.1) (⟨⟨0, []⟩, .inl ⟨rfl, rfl⟩⟩) ?_ ?_
 ·simp (disch := first|omega|(simp<;>omega)|fail) [wr3]
 rintro ⟨⟨k, out⟩, hk⟩
 simp (disch := first|omega|(simp<;>omega)|fail) [wr3]
 refine HT.seq ?_;refine HT.region ?_;simp (disch := first|omega|(simp<;>omega)|fail) [wr3]
 refine HT.seq ?_;refine HT.cond' ?_;simp (disch := first|omega|(simp<;>omega)|fail) [wr3]
 refine ⟨fun h10 => ?_, fun h10 => ?_⟩
 ·obtain ⟨rfl, rfl⟩ : k = 0 ∧ out = [] := by rcases hk with h | h; exact h; dsimp only at h; omega
  refine HT.skip ?_;simp (disch := first|omega|(simp<;>omega)|fail) [wr3]
  refine HT.seq ?_;refine HT.block ?_;refine HT.seq ?_;refine HT.region ?_;simp (disch := first|omega|(simp<;>omega)|fail) [wr3]
  refine HT.seq ?_;refine HT.region ?_;simp (disch := first|omega|(simp<;>omega)|fail) [wr3]
  refine HT.block ?_;refine HT.loopK (fun k : {k : List Nat × List Nat × Option (HV × HV) // (k.1 ++ k.2.1).Perm (List.range ks.length)} => [.s 3 (.ref 200), .o 200 (.row 9 1 (strsHV (takenS ks k.1.1))), .o 14 (.iter (sents ks f) k.1.2.1 k.1.2.2)]) [7, 8, 9, 14] [] (fun k => k.1.2.1.length) (⟨⟨[], List.range ks.length, none⟩, by simp⟩) ?_ ?_
  ·simp (disch := first|omega|(simp<;>omega)|fail) [wr3, takenS]
  rintro ⟨⟨dn, lf, la⟩, hp2⟩
  simp (disch := first|omega|(simp<;>omega)|fail) [wr3]
  refine HT.seq ?_;refine HT.region ?_;simp (disch := first|omega|(simp<;>omega)|fail) [wr3]
  refine ⟨fun hnil => ?_, fun i kk vv hi hkv => ?_⟩
  ·obtain rfl := hnil
   have hpt : (takenS ks dn).Perm ks := perm_taken [] hp2
   refine HT.seq ?_;refine HT.cond' ?_;simp (disch := first|omega|(simp<;>omega)|fail) [wr3]
   refine HT.exit ?_
   simp (disch := first|omega|(simp<;>omega)|fail) [wr3]
   refine HT.region ?_;simp (disch := first|omega|(simp<;>omega)|fail) [wr3]
   refine Round.mk' (⟨⟨1, takenS ks dn⟩, .inr ⟨rfl, hpt⟩⟩) (by dsimp only; omega) rfl ?_
   simp (disch := first|omega|(simp<;>omega)|fail) [wr3]
  ·have hst := perm_step hp2 hi
   have hil : (dn ++ lf).length = _ := hp2.length_eq
   have hil2 : i < ks.length := by have := (hp2.mem_iff (a := i)).1 (List.mem_append_right _ hi); simpa using this
   rw [sents_get, List.getElem?_eq_getElem hil2] at hkv
   simp only [Option.map_some, Option.some.injEq, Prod.mk.injEq] at hkv
   obtain ⟨rfl, rfl⟩ := hkv
   have hb : dn.length + lf.length = ks.length := by simpa using hil
   refine HT.seq ?_;refine HT.cond' ?_;simp (disch := first|omega|(simp<;>omega)|fail) [wr3]
   refine HT.skip ?_;simp (disch := first|omega|(simp<;>omega)|fail) [wr3]
   refine HT.block ?_;refine HT.seq ?_;refine HT.region ?_;simp (disch := first|omega|(simp<;>omega)|fail) [wr3]
   refine HT.region ?_;simp (disch := first|omega|(simp<;>omega)|fail) [wr3]
   refine Round.mk' (⟨⟨dn ++ [i], lf.filter (· != i), some (HV.str ks[i], i64 (f ks[i]))⟩, hst.1⟩) hst.2 rfl ?_
   simp (disch := first|omega|(simp<;>omega)|fail) [wr3, hil2, takenS_snoc hil2]
 ·obtain ⟨hk1, ho⟩ : k = 1 ∧ out.Perm ks := by rcases hk with h | h; dsimp only at h; omega; exact h
  have hol : out.length = ks.length := ho.length_eq
  obtain ⟨e1, e2⟩ := sorted_all hp hs ho
  have hsl : s.length = ks.length := hp.length_eq
  refine HT.exit ?_
  simp (disch := first|omega|(simp<;>omega)|fail) [wr3]
  refine HT.seq ?_;refine HT.region ?_;simp (disch := first|omega|(simp<;>omega)|fail) [wr3]
  refine stepK.mk (.callS _ _ _ _ _ _ _ rfl Ty.hb51 (by first | rfl | simp) (by simp) (by first | rfl | simp) (SortS_spec out (by omega)) rfl) ?_
  simp (disch := first|omega|(simp<;>omega)|fail) [wr3]
  refine HT.seq ?_;refine HT.region ?_;simp (disch := first|omega|(simp<;>omega)|fail) [wr3]
  refine stepK.mk (.callR _ _ _ _ _ _ _ rfl Ty.hb151 (by first | rfl | simp) (by simp) (by first | rfl | simp) (CompactS_spec (srtS out) (by rw [e1]; omega) (by rw [e2, e1]; exact Nat.le_refl _)) rfl) ?_
  simp (disch := first|omega|(simp<;>omega)|fail) [wr3]
  refine HT.ret ?_;simp (disch := first|omega|(simp<;>omega)|fail) [wr3, e2]
theorem find_file {ks : List (List UInt8)} {f : List UInt8 → Int} {r : List File} (h : MapOf ks f r) {k : Nat} (hk : k < r.length) : findHV Tryz.prog 9 (.str r[k].path) (sents ks f) 0 = some (some (ks.idxOf r[k].path, i64 r[k].blob)) := by
 rw [find_sents, if_pos ((h.keys _).2 ⟨_, List.getElem_mem hk, rfl⟩), h.vals _ (List.getElem_mem hk)]
theorem files_step {r : List File} {k : Nat} (hk : k < r.length) : r.take k ++ [r[k]] = r.take (k + 1) := (List.take_succ_eq_append_getElem hk).symm
theorem mapOf_len {ks : List (List UInt8)} {f : List UInt8 → Int} {r : List File} (h : MapOf ks f r) : (r.map File.path).Perm ks :=
 (List.perm_ext_iff_of_nodup (sortedF_nodup h.sorted) h.nodup).2 fun p => by rw [h.keys, List.mem_map]
theorem mapOf_inc {ks : List (List UInt8)} {f : List UInt8 → Int} {r : List File} (h : MapOf ks f r) : (r.map File.path).Pairwise fun a b => ltB a b = true := by
 rw [List.pairwise_map]; exact h.sorted
set_option maxRecDepth 20000 in
set_option maxHeartbeats 2000000 in
theorem files_spec (ks : List (List UInt8)) (f : List UInt8 → Int) (r : List File) (h : MapOf ks f r) (hn : r.length ≤ 100000) : Spec1 Tryz.prog 121 [.mp (sents ks f)] (.sl 2 false (filesHV r)) := by
 have hpl : r.length = ks.length := by have := (mapOf_len h).length_eq; simpa using this
 refine Spec1.of_HT Tryz.func121 rfl (by rw [Tryz.ntmps121]; simp) rfl ?_
 rw [Tryz.ntmps121]
 refine HT.seq ?_;refine HT.region ?_;simp (disch := first|omega|(simp<;>omega)|fail) [wr3]
 refine HT.seq ?_;refine HT.region ?_;simp (disch := first|omega|(simp<;>omega)|fail) [wr3]
 refine HT.weaken (HS.le_own (t := 3) 200 88 2 _ (by decide) rfl (by decide)) ?_
 refine HT.seq ?_;refine HT.seq ?_;refine HT.region ?_;simp (disch := first|omega|(simp<;>omega)|fail) [wr3]
 refine stepK.mk (.call1f _ _ _ _ _ rfl Ty.hb140 rfl rfl (paths_spec ks f (r.map File.path) (mapOf_len h) (mapOf_inc h) (by omega)) rfl) ?_
 simp (disch := first|omega|(simp<;>omega)|fail) [wr3]
 refine HT.block ?_;refine HT.loopK (fun k : {k : Nat // k ≤ r.length} => [.s 10 (i64 k), .s 3 (.ref 200), .o 200 (.row 88 2 (filesHV (r.take k)))]) [0, 8, 9] [] (fun k => r.length - k) (⟨0, by omega⟩) ?_ ?_
 ·simp (disch := first|omega|(simp<;>omega)|fail) [wr3]
 rintro ⟨k, hk⟩
 simp (disch := first|omega|(simp<;>omega)|fail) [wr3]
 refine HT.seq ?_;refine HT.region ?_;simp (disch := first|omega|(simp<;>omega)|fail) [wr3]
 refine HT.seq ?_;refine HT.cond' ?_;simp (disch := first|omega|(simp<;>omega)|fail) [wr3]
 refine ⟨fun h11 => ?_, fun h11 => ?_⟩
 ·have hk' : k < r.length := by omega
  have hf1 := find_file h hk'
  have hnz := h.nz _ (List.getElem_mem hk')
  have htl : (r.take k).length = k := by rw [List.length_take]; omega
  refine HT.skip ?_;simp (disch := first|omega|(simp<;>omega)|fail) [wr3]
  refine HT.seq ?_;refine HT.block ?_;refine HT.seq ?_;refine HT.region ?_;simp (disch := first|omega|(simp<;>omega)|fail) [wr3]
  refine HT.seq ?_;refine HT.region ?_;simp (disch := first|omega|(simp<;>omega)|fail) [wr3, hf1, tkS]
  refine HT.cond' ?_;simp (disch := first|omega|(simp<;>omega)|fail) [wr3]
  refine HT.region ?_;simp (disch := first|omega|(simp<;>omega)|fail) [wr3, hf1, tkS]
  refine HT.region ?_;simp (disch := first|omega|(simp<;>omega)|fail) [wr3]
  refine Round.mk' (⟨k + 1, by omega⟩) (by dsimp only; omega) rfl ?_
  simp (disch := first|omega|(simp<;>omega)|fail) [wr3]
  try rw [← files_step hk']
  try simp (disch := first|omega|(simp<;>omega)|fail) [wr3, filesHV_append]
 ·obtain rfl : k = r.length := by omega
  refine HT.exit ?_
  simp (disch := first|omega|(simp<;>omega)|fail) [wr3]
  refine HT.seq ?_;refine HT.region ?_;simp (disch := first|omega|(simp<;>omega)|fail) [wr3]
  refine HT.ret ?_;simp (disch := first|omega|(simp<;>omega)|fail) [wr3]
theorem stepT_put {r : List File} {c : File} (h : ¬ c.blob = 0) : stepT r c = some (setV r c.path c.blob) := by unfold stepT; rw [if_neg (fun e => h e.1)]
theorem stepT_del {r : List File} {c : File} {ks : List (List UInt8)} {f : List UInt8 → Int} (hm : MapOf ks f r) (h : c.blob = 0) (hk : c.path ∈ ks) : stepT r c = some (setV r c.path 0) := by
 unfold stepT; rw [if_neg, h]
 rintro ⟨_, e⟩
 rw [hm.there, decide_eq_true hk] at e; cases e
theorem stepT_none {r : List File} {c : File} {ks : List (List UInt8)} {f : List UInt8 → Int} (hm : MapOf ks f r) (h : c.blob = 0) (hk : c.path ∉ ks) : stepT r c = none := by
 unfold stepT; rw [if_pos]
 exact ⟨h, by rw [hm.there, decide_eq_false hk]⟩
structure ApS (l c : List File) (k : Nat × List (List UInt8) × (List UInt8 → Int) × List File) : Prop where
 le : k.1 ≤ c.length
 run : runT l c = runT k.2.2.2 (c.drop k.1)
 map : MapOf k.2.1 k.2.2.1 k.2.2.2
 len : k.2.2.2.length ≤ l.length + k.1
theorem ApS.put {l c : List File} {k : Nat} {ks : List (List UInt8)} {f : List UInt8 → Int} {r : List File} (h : ApS l c (k, ks, f, r)) (hk : k < c.length) (hb : ¬ c[k].blob = 0) :
  ApS l c (k + 1, if c[k].path ∈ ks then ks else ks ++ [c[k].path], updF f c[k].path c[k].blob, setV r c[k].path c[k].blob) where
 le := hk
 run := h.run.trans (runT_cons_some hk (stepT_put hb))
 map := h.map.put _ hb
 len := by have := h.len; have h2 := setV_len r c[k].path c[k].blob; dsimp only at this ⊢; omega
theorem ApS.del {l c : List File} {k : Nat} {ks : List (List UInt8)} {f : List UInt8 → Int} {r : List File} (h : ApS l c (k, ks, f, r)) (hk : k < c.length) (hb : c[k].blob = 0) (hm : c[k].path ∈ ks) :
  ApS l c (k + 1, ks.erase c[k].path, f, setV r c[k].path 0) where
 le := hk
 run := h.run.trans (runT_cons_some hk (stepT_del h.map hb hm))
 map := h.map.del _
 len := by have := h.len; have h2 := setV_len r c[k].path 0; dsimp only at this ⊢; omega
set_option maxRecDepth 20000 in
set_option maxHeartbeats 2000000 in
theorem TApply_spec (l c : List File) (hl : FileB 1000 l) (hc : FileQ c) (hfin : ∀ r, runT l c = some r → FileB 1000 r) : SpecT Tryz.prog 81 [.sl 2 false (filesHV l), .sl 2 false (filesHV c)] [.sl 2 false (filesHV (applyT l c).1), i64 (applyT l c).2] := by
 have hl1 := hl.1
 have hc1 := hc.1
 refine SpecT.of_HT Tryz.func81 rfl (by rw [Tryz.ntmps81]; simp) (rs := [.tmp 4, .tmp 5]) rfl (by decide) ?_
 rw [Tryz.ntmps81]
 refine HT.seq ?_;refine HT.region ?_;simp (disch := first|omega|(simp<;>omega)|fail) [wr3]
 refine HT.seq ?_;refine HT.seq ?_;refine HT.region ?_;simp (disch := first|omega|(simp<;>omega)|fail) [wr3]
 refine stepK.mk (.call1 _ _ _ _ rfl Ty.hb119 rfl (TRight_spec l ⟨by omega, fun f hf => Nat.le_trans (hl.2 f hf) (by decide)⟩) rfl rfl) ?_
 simp (disch := first|omega|(simp<;>omega)|fail) [wr3]
 refine HT.seq ?_;refine HT.region ?_;simp (disch := first|omega|(simp<;>omega)|fail) [wr3]
 refine HT.cond' ?_;simp (disch := first|omega|(simp<;>omega)|fail) [wr3]
 refine ⟨fun h17 => ?_, fun h17 => ?_⟩
 ·refine HT.seq ?_;refine HT.region ?_;simp (disch := first|omega|(simp<;>omega)|fail) [wr3]
  refine HT.weaken (HS.le_wk 4 (.sl 2 false []) (by decide) rfl rfl (HLe.nilf 0 2 true)) ?_
  refine HT.ret ?_;simp (disch := first|omega|(simp<;>omega)|fail) [wr3, apply_bad h17]
 ·have hr0 : rightT l = 0 := by simpa using h17
  refine HT.skip ?_;simp (disch := first|omega|(simp<;>omega)|fail) [wr3]
  refine HT.seq ?_;refine HT.seq ?_;refine HT.region ?_;simp (disch := first|omega|(simp<;>omega)|fail) [wr3]
  refine HT.cond' ?_;simp (disch := first|omega|(simp<;>omega)|fail) [wr3]
  refine ⟨fun h21 => ?_, fun h21 => ?_⟩
  ·have hx := apply_long (l := l) (c := c) hr0 (by omega)
   refine HT.seq ?_;refine HT.region ?_;simp (disch := first|omega|(simp<;>omega)|fail) [wr3]
   refine HT.weaken (HS.le_wk 4 (.sl 2 false []) (by decide) rfl rfl (HLe.nilf 0 2 true)) ?_
   refine HT.ret ?_;simp (disch := first|omega|(simp<;>omega)|fail) [wr3, hx]
  ·refine HT.skip ?_;simp (disch := first|omega|(simp<;>omega)|fail) [wr3]
   refine HT.seq ?_;refine HT.region ?_;simp (disch := first|omega|(simp<;>omega)|fail) [wr3]
   refine stepK.mk (.callM _ _ _ _ _ _ rfl Ty.hb120 rfl (by simp) (contents_spec l (rightT_sorted hr0).1 (by omega)) rfl rfl) ?_
   simp (disch := first|omega|(simp<;>omega)|fail) [wr3]
   refine HT.seq ?_;refine HT.seq ?_;refine HT.region ?_;simp (disch := first|omega|(simp<;>omega)|fail) [wr3]
   refine HT.block ?_;refine HT.loopK (fun k : {k : Nat × List (List UInt8) × (List UInt8 → Int) × List File // ApS l c k} => [.s 26 (i64 k.1.1), .s 7 (.mref 23), .o 23 (.map (sents k.1.2.1 k.1.2.2.1))]) [24, 25] [] (fun k => c.length - k.1.1) (⟨⟨0, l.map File.path, blobOf l, l⟩, ⟨Nat.zero_le _, rfl, mapOf_right hr0, Nat.le_refl _⟩⟩) ?_ ?_
   ·simp (disch := first|omega|(simp<;>omega)|fail) [wr3]
   rintro ⟨⟨k, ks, f, r⟩, hk⟩
   simp (disch := first|omega|(simp<;>omega)|fail) [wr3]
   refine HT.seq ?_;refine HT.region ?_;simp (disch := first|omega|(simp<;>omega)|fail) [wr3]
   refine HT.seq ?_;refine HT.cond' ?_;simp (disch := first|omega|(simp<;>omega)|fail) [wr3]
   refine ⟨fun h27 => ?_, fun h27 => ?_⟩
   ·have hkl := hk.le
    dsimp only at hkl
    have hk' : k < c.length := by omega
    refine HT.skip ?_;simp (disch := first|omega|(simp<;>omega)|fail) [wr3]
    refine HT.seq ?_;refine HT.block ?_;refine HT.seq ?_;refine HT.region ?_;simp (disch := first|omega|(simp<;>omega)|fail) [wr3]
    refine HT.seq ?_;refine HT.seq ?_;refine HT.region ?_;simp (disch := first|omega|(simp<;>omega)|fail) [wr3]
    refine HT.cond' ?_;simp (disch := first|omega|(simp<;>omega)|fail) [wr3]
    refine ⟨fun h32 => ?_, fun h32 => ?_⟩
    ·have tp : ¬ c[k].blob = 0 := h32
     refine HT.seq ?_
     by_cases cf : c[k].path ∈ ks
     ·have hf1 : findHV Tryz.prog 9 (.str c[k].path) (sents ks f) 0 = some (some (ks.idxOf c[k].path, i64 (f c[k].path))) := by rw [find_sents, if_pos cf]
      have hs1 := sents_set (f := f) hk.map.nodup cf c[k].blob
      have hg1 := sents_in (f := f) cf
      refine HT.region ?_;simp (disch := first|omega|(simp<;>omega)|fail) [wr3, hf1, hs1, hg1, tkS]
      refine HT.exit ?_
      simp (disch := first|omega|(simp<;>omega)|fail) [wr3]
      refine HT.region ?_;simp (disch := first|omega|(simp<;>omega)|fail) [wr3]
      first | (have _t := tp; refine Round.mk' (⟨_, hk.put hk' tp⟩) (by dsimp only; omega) rfl ?_) | (have _t := td; refine Round.mk' (⟨_, hk.del hk' td cf⟩) (by dsimp only; omega) rfl ?_)
      simp (disch := first|omega|(simp<;>omega)|fail) [wr3, cf]
     have hf1 : findHV Tryz.prog 9 (.str c[k].path) (sents ks f) 0 = some none := by rw [find_sents, if_neg cf]
     have hs1 := sents_snoc (f := f) cf c[k].blob
     refine HT.region ?_;simp (disch := first|omega|(simp<;>omega)|fail) [wr3, hf1, hs1, tkS]
     refine HT.exit ?_
     simp (disch := first|omega|(simp<;>omega)|fail) [wr3]
     refine HT.region ?_;simp (disch := first|omega|(simp<;>omega)|fail) [wr3]
     first | (have _t := tp; refine Round.mk' (⟨_, hk.put hk' tp⟩) (by dsimp only; omega) rfl ?_) | (have _t := td; refine Round.mk' (⟨_, hk.del hk' td cf⟩) (by dsimp only; omega) rfl ?_)
     simp (disch := first|omega|(simp<;>omega)|fail) [wr3, cf]
    ·have td : c[k].blob = 0 := by simpa using h32
     refine HT.skip ?_;simp (disch := first|omega|(simp<;>omega)|fail) [wr3]
     refine HT.seq ?_;refine HT.seq ?_
     by_cases cf : c[k].path ∈ ks
     ·have hf1 : findHV Tryz.prog 9 (.str c[k].path) (sents ks f) 0 = some (some (ks.idxOf c[k].path, i64 (f c[k].path))) := by rw [find_sents, if_pos cf]
      refine HT.region ?_;simp (disch := first|omega|(simp<;>omega)|fail) [wr3, hf1, tkS]
      refine HT.seq ?_;refine HT.region ?_;simp (disch := first|omega|(simp<;>omega)|fail) [wr3]
      refine HT.cond' ?_;simp (disch := first|omega|(simp<;>omega)|fail) [wr3]
      refine HT.skip ?_;simp (disch := first|omega|(simp<;>omega)|fail) [wr3]
      refine HT.region ?_;simp (disch := first|omega|(simp<;>omega)|fail) [wr3, hf1, tkS, sents_del]
      refine HT.region ?_;simp (disch := first|omega|(simp<;>omega)|fail) [wr3]
      first | (have _t := tp; refine Round.mk' (⟨_, hk.put hk' tp⟩) (by dsimp only; omega) rfl ?_) | (have _t := td; refine Round.mk' (⟨_, hk.del hk' td cf⟩) (by dsimp only; omega) rfl ?_)
      simp (disch := first|omega|(simp<;>omega)|fail) [wr3, cf]
     have hf1 : findHV Tryz.prog 9 (.str c[k].path) (sents ks f) 0 = some none := by rw [find_sents, if_neg cf]
     refine HT.region ?_;simp (disch := first|omega|(simp<;>omega)|fail) [wr3, hf1, tkS]
     refine HT.seq ?_;refine HT.region ?_;simp (disch := first|omega|(simp<;>omega)|fail) [wr3]
     refine HT.cond' ?_;simp (disch := first|omega|(simp<;>omega)|fail) [wr3]
     refine HT.seq ?_;refine HT.region ?_;simp (disch := first|omega|(simp<;>omega)|fail) [wr3]
     refine HT.weaken (HS.le_wk 4 (.sl 2 false []) (by decide) rfl rfl (HLe.nilf 0 2 true)) ?_
     refine HT.ret ?_;simp (disch := first|omega|(simp<;>omega)|fail) [wr3, apply_none hr0 (by omega) (hk.run.trans (runT_cons_none hk' (stepT_none hk.map td cf)))]
   ·have hkl := hk.le
    dsimp only at hkl
    obtain rfl : k = c.length := by omega
    have hrn := hk.run
    rw [List.drop_length] at hrn
    have hB := hfin r hrn
    have hlr := hk.len
    dsimp only at hlr hrn
    refine HT.exit ?_
    simp (disch := first|omega|(simp<;>omega)|fail) [wr3]
    refine HT.weaken (HS.le_frzref (id := 23) (xr := .any) (xm := .mp (sents ks f)) (by simp [frz1])) ?_
    refine HT.seq ?_;refine HT.region ?_;simp (disch := first|omega|(simp<;>omega)|fail) [wr3]
    refine stepK.mk (.call1f _ _ _ _ _ rfl Ty.hb121 rfl rfl (files_spec ks f r hk.map (by omega)) rfl) ?_
    simp (disch := first|omega|(simp<;>omega)|fail) [wr3]
    refine HT.seq ?_;refine HT.seq ?_;refine HT.region ?_;simp (disch := first|omega|(simp<;>omega)|fail) [wr3]
    refine stepK.mk (.call1 _ _ _ _ rfl Ty.hb119 rfl (TRight_spec r ⟨by omega, fun f hf => Nat.le_trans (hB.2 f hf) (by decide)⟩) rfl rfl) ?_
    simp (disch := first|omega|(simp<;>omega)|fail) [wr3]
    refine HT.seq ?_;refine HT.region ?_;simp (disch := first|omega|(simp<;>omega)|fail) [wr3]
    refine HT.cond' ?_;simp (disch := first|omega|(simp<;>omega)|fail) [wr3]
    refine ⟨fun h56 => ?_, fun h56 => ?_⟩
    ·refine HT.seq ?_;refine HT.region ?_;simp (disch := first|omega|(simp<;>omega)|fail) [wr3]
     refine HT.weaken (HS.le_wk 4 (.sl 2 false []) (by decide) rfl rfl (HLe.nilf 0 2 true)) ?_
     refine HT.ret ?_;simp (disch := first|omega|(simp<;>omega)|fail) [wr3, apply_some hr0 (by omega) hrn, h56]
    ·refine HT.skip ?_;simp (disch := first|omega|(simp<;>omega)|fail) [wr3]
     refine HT.seq ?_;refine HT.region ?_;simp (disch := first|omega|(simp<;>omega)|fail) [wr3]
     refine HT.ret ?_;simp (disch := first|omega|(simp<;>omega)|fail) [wr3, apply_some hr0 (by omega) hrn, h56]
end Go.Hv
set_option linter.unusedVariables false
set_option linter.unusedSimpArgs false
/- Histories (layer 26). -/
namespace Go.Hv
open Go Go.Hv Go.Proofs Go.RowKit
open Go.Proofs.YtcmomegkhoggpaaGreatDoor
def getHV (l : List Commit) (id : Int) : List HV := match idxC l id with
 | none => [i64 0, .sl 0 true [], .sl 0 true [], i64 0, i64 0]
 | some j => (l[j]?.getD default).enc
theorem getHV_none {l : List Commit} {id : Int} (h : idxC l id = none) : getHV l id = [i64 0, .sl 0 true [], .sl 0 true [], i64 0, i64 0] := by unfold getHV; rw [h]
theorem getHV_some {l : List Commit} {id : Int} {j : Nat} (h : idxC l id = some j) : getHV l id = (l[j]'(idxC_lt h)).enc := by unfold getHV; rw [h]; simp only [List.getElem?_eq_getElem (idxC_lt h), Option.getD_some]
theorem idxC_hit {l : List Commit} {id : Int} {k : Nat} (hk : k < l.length) (hg : UpTo (fun c => !decide (c.id = id)) l k) (h : l[k].id = id) : idxC l id = some k := by
 refine List.findIdx?_eq_some_iff_getElem.2 ⟨hk, by simpa using h, fun j hj => ?_⟩
 have := hg j _ hj (List.getElem?_eq_getElem (by omega))
 simpa using this
theorem idxC_miss {l : List Commit} {id : Int} (hg : UpTo (fun c => !decide (c.id = id)) l l.length) : idxC l id = none := by
 refine List.findIdx?_eq_none_iff.2 fun x hx => ?_
 obtain ⟨i, hi⟩ := List.mem_iff_getElem?.1 hx
 have := hg i x (getElem?_lt hi) hi
 simpa using this
set_option maxRecDepth 20000 in
theorem refGetC_spec (l : List Commit) (id : Int) (hn : l.length ≤ 140737488355328) : SpecT Tryz.prog 47 [.sl 5 false (cmsHV l), i64 id] [.agg (getHV l id), bo (idxC l id).isSome] := by
 refine SpecT.of_HT Tryz.func47 rfl (by rw [Tryz.ntmps47]; simp) (rs := [.cell 4 80, .tmp 5]) rfl (by decide) ?_
 rw [Tryz.ntmps47]
 refine HT.seq ?_;refine HT.region ?_;simp (disch := first|omega|(simp<;>omega)|fail) [wr3]
 refine HT.seq ?_;refine HT.seq ?_;refine HT.region ?_;simp (disch := first|omega|(simp<;>omega)|fail) [wr3]
 refine HT.block ?_;refine HT.loopK (fun k : {k : Nat // k ≤ l.length ∧ UpTo (fun c => !decide (c.id = id)) l k} => [.s 6 (i64 k)]) [0, 1, 4] [4] (fun k => l.length - k) (⟨0, by omega, UpTo.zero _ _⟩) ?_ ?_
 ·simp (disch := first|omega|(simp<;>omega)|fail) [wr3]
 rintro ⟨k, hk, hg⟩
 simp (disch := first|omega|(simp<;>omega)|fail) [wr3]
 refine HT.seq ?_;refine HT.seq ?_;refine HT.region ?_;simp (disch := first|omega|(simp<;>omega)|fail) [wr3]
 refine HT.cond' ?_;simp (disch := first|omega|(simp<;>omega)|fail) [wr3]
 refine ⟨fun h10 => ?_, fun h10 => ?_⟩
 ·have hk' : k < l.length := by omega
  refine HT.skip ?_;simp (disch := first|omega|(simp<;>omega)|fail) [wr3]
  refine HT.seq ?_;refine HT.block ?_;refine HT.seq ?_;refine HT.region ?_;simp (disch := first|omega|(simp<;>omega)|fail) [wr3]
  refine HT.cond' ?_;simp (disch := first|omega|(simp<;>omega)|fail) [wr3]
  refine ⟨fun h19 => ?_, fun h19 => ?_⟩
  ·have hx := idxC_hit hk' hg (by simpa using h19)
   refine HT.seq ?_;refine HT.region ?_;simp (disch := first|omega|(simp<;>omega)|fail) [wr3]
   refine HT.ret ?_;simp (disch := first|omega|(simp<;>omega)|fail) [wr3, getHV_some hx, hx]
  ·refine HT.skip ?_;simp (disch := first|omega|(simp<;>omega)|fail) [wr3]
   refine HT.region ?_;simp (disch := first|omega|(simp<;>omega)|fail) [wr3]
   refine Round.mk' (⟨k + 1, by omega, hg.succ hk' (by simpa using h19)⟩) (by dsimp only; omega) rfl ?_
   simp (disch := first|omega|(simp<;>omega)|fail) [wr3]
 ·obtain rfl : k = l.length := by omega
  have hx := idxC_miss hg
  refine HT.exit ?_
  simp (disch := first|omega|(simp<;>omega)|fail) [wr3]
  refine HT.seq ?_;refine HT.region ?_;simp (disch := first|omega|(simp<;>omega)|fail) [wr3]
  refine HT.ret ?_;simp (disch := first|omega|(simp<;>omega)|fail) [wr3, getHV_none hx, hx]
set_option maxRecDepth 20000 in
theorem GetC_spec (l : List Commit) (id : Int) (hn : l.length ≤ 140737488355328) : SpecT Tryz.prog 80 [.sl 5 false (cmsHV l), i64 id] [.agg (getHV l id), bo (idxC l id).isSome] := by
 refine SpecT.of_HT Tryz.func80 rfl (by rw [Tryz.ntmps80]; simp) (rs := [.cell 4 80, .tmp 5]) rfl (by decide) ?_
 rw [Tryz.ntmps80]
 refine HT.seq ?_;refine HT.region ?_;simp (disch := first|omega|(simp<;>omega)|fail) [wr3]
 refine HT.seq ?_;refine HT.seq ?_;refine HT.region ?_;simp (disch := first|omega|(simp<;>omega)|fail) [wr3]
 refine HT.block ?_;refine HT.loopK (fun k : {k : Nat // k ≤ l.length ∧ UpTo (fun c => !decide (c.id = id)) l k} => [.s 10 (i64 k)]) [1, 4, 8, 9] [4] (fun k => l.length - k) (⟨0, by omega, UpTo.zero _ _⟩) ?_ ?_
 ·simp (disch := first|omega|(simp<;>omega)|fail) [wr3]
 rintro ⟨k, hk, hg⟩
 simp (disch := first|omega|(simp<;>omega)|fail) [wr3]
 refine HT.seq ?_;refine HT.region ?_;simp (disch := first|omega|(simp<;>omega)|fail) [wr3]
 refine HT.seq ?_;refine HT.cond' ?_;simp (disch := first|omega|(simp<;>omega)|fail) [wr3]
 refine ⟨fun h11 => ?_, fun h11 => ?_⟩
 ·have hk' : k < l.length := by omega
  refine HT.skip ?_;simp (disch := first|omega|(simp<;>omega)|fail) [wr3]
  refine HT.seq ?_;refine HT.block ?_;refine HT.seq ?_;refine HT.region ?_;simp (disch := first|omega|(simp<;>omega)|fail) [wr3]
  refine HT.seq ?_;refine HT.region ?_;simp (disch := first|omega|(simp<;>omega)|fail) [wr3]
  refine HT.cond' ?_;simp (disch := first|omega|(simp<;>omega)|fail) [wr3]
  refine ⟨fun h17 => ?_, fun h17 => ?_⟩
  ·have hx := idxC_hit hk' hg (by simpa using h17)
   refine HT.seq ?_;refine HT.region ?_;simp (disch := first|omega|(simp<;>omega)|fail) [wr3]
   refine HT.ret ?_;simp (disch := first|omega|(simp<;>omega)|fail) [wr3, getHV_some hx, hx]
  ·refine HT.skip ?_;simp (disch := first|omega|(simp<;>omega)|fail) [wr3]
   refine HT.region ?_;simp (disch := first|omega|(simp<;>omega)|fail) [wr3]
   refine Round.mk' (⟨k + 1, by omega, hg.succ hk' (by simpa using h17)⟩) (by dsimp only; omega) rfl ?_
   simp (disch := first|omega|(simp<;>omega)|fail) [wr3]
 ·obtain rfl : k = l.length := by omega
  have hx := idxC_miss hg
  refine HT.exit ?_
  simp (disch := first|omega|(simp<;>omega)|fail) [wr3]
  refine HT.seq ?_;refine HT.region ?_;simp (disch := first|omega|(simp<;>omega)|fail) [wr3]
  refine HT.ret ?_;simp (disch := first|omega|(simp<;>omega)|fail) [wr3, getHV_none hx, hx]
theorem cmsHV_take (l : List Commit) (k : Nat) : (cmsHV l).take k = cmsHV (l.take k) := by simp [cmsHV, List.map_take]
theorem rightQ {l : List File} (h : rightT l = 0) : FileQ l := by
 obtain ⟨_, h2, h3⟩ := rightT_sorted h
 refine ⟨by omega, fun f hf => ?_⟩
 have := (h3 f hf).1
 unfold pathV at this
 simp only [Bool.and_eq_true, decide_eq_true_eq] at this
 omega
theorem rightB {l : List File} (h : rightT l = 0) : FileB 1000 l := by
 obtain ⟨_, h2, h3⟩ := rightT_sorted h
 refine ⟨by omega, fun f hf => ?_⟩
 have := (h3 f hf).1
 unfold pathV at this
 simp only [Bool.and_eq_true, decide_eq_true_eq] at this
 omega
theorem base_pos {before : List Commit} {c : Commit} (h : 0 < c.parents.length) : baseV before c = (treeV before c.parents[0]).1 := by
 obtain ⟨p, q, hp⟩ : ∃ p q, c.parents = p :: q := List.exists_cons_of_length_pos h
 have e : c.parents[0] = p := by simp only [hp]; rfl
 rw [e]
 unfold baseV
 rw [hp]
theorem base_zero {before : List Commit} {c : Commit} (h : ¬ 0 < c.parents.length) : baseV before c = [] := by
 unfold baseV
 cases hp : c.parents with
 | nil => rfl
 | cons p q => rw [hp] at h; simp at h
def TreeS (l : List Commit) : Prop := ∀ id, SpecT Tryz.prog 76 [.sl 5 false (cmsHV l), i64 id] [.sl 2 false (filesHV (treeV l id).1), i64 (treeV l id).2]
set_option maxRecDepth 20000 in
theorem after_of (bf : List Commit) (c : Commit) (rows : List (List HV)) (hrows : rows = cmsHV bf) (hT : TreeS bf) (hc : FileQ c.changes) : SpecT Tryz.prog 87 [.sl 5 false rows, .agg c.enc] [.sl 2 false (filesHV (afterV bf c).1), i64 (afterV bf c).2] := by
 subst hrows
 refine SpecT.of_HT Tryz.func87 rfl (by rw [Tryz.ntmps87]; simp) (rs := [.tmp 4, .tmp 5]) rfl (by decide) ?_
 rw [Tryz.ntmps87]
 refine HT.seq ?_;refine HT.region ?_;simp (disch := first|omega|(simp<;>omega)|fail) [wr3]
 refine HT.seq ?_;refine HT.region ?_;simp (disch := first|omega|(simp<;>omega)|fail) [wr3]
 refine HT.weaken (HS.le_wk 6 (.sl 2 false []) (by decide) rfl rfl (HLe.nilf 2 2 true)) ?_
 refine HT.seq ?_;refine HT.seq ?_;refine HT.region ?_;simp (disch := first|omega|(simp<;>omega)|fail) [wr3]
 refine HT.cond' ?_;simp (disch := first|omega|(simp<;>omega)|fail) [wr3]
 refine ⟨fun h11 => ?_, fun h11 => ?_⟩
 ·have h0 : 0 < c.parents.length := by omega
  have hb := base_pos (before := bf) h0
  have hq : FileQ (treeV bf c.parents[0]).1 := rightQ (treeV_right _ _)
  refine HT.region ?_;simp (disch := first|omega|(simp<;>omega)|fail) [wr3]
  refine stepK.mk (.callTf _ _ _ _ _ rfl Ty.hb76 rfl rfl (hT c.parents[0]) rfl) ?_
  simp (disch := first|omega|(simp<;>omega)|fail) [wr3]
  refine HT.seq ?_;refine HT.region ?_;simp (disch := first|omega|(simp<;>omega)|fail) [wr3]
  refine stepK.mk (.callTf _ _ _ _ _ rfl Ty.hb126 rfl rfl (refApply_spec _ c.changes hq hc) rfl) ?_
  simp (disch := first|omega|(simp<;>omega)|fail) [wr3]
  refine HT.ret ?_;simp (disch := first|omega|(simp<;>omega)|fail) [wr3, afterV, hb]
 ·have h0 : ¬ 0 < c.parents.length := by first | omega | (intro hq; have e : c.parents = [] := (by simpa using h11); rw [e] at hq; exact absurd hq (by simp))
  have hb := base_zero (before := bf) h0
  have hq : FileQ [] := ⟨by simp, by simp⟩
  refine HT.skip ?_;simp (disch := first|omega|(simp<;>omega)|fail) [wr3]
  refine HT.seq ?_;refine HT.region ?_;simp (disch := first|omega|(simp<;>omega)|fail) [wr3]
  refine stepK.mk (.callTf _ _ _ _ _ rfl Ty.hb126 rfl rfl (refApply_spec _ c.changes hq hc) rfl) ?_
  simp (disch := first|omega|(simp<;>omega)|fail) [wr3]
  refine HT.ret ?_;simp (disch := first|omega|(simp<;>omega)|fail) [wr3, afterV, hb]
theorem treeV_zero (l : List Commit) : treeV l 0 = ([], 0) := by unfold treeV; rw [if_pos rfl]
theorem treeV_hit {l : List Commit} {id : Int} (h0 : ¬ id = 0) {k : Nat} (hk : k < l.length) (h : idxC l id = some k) : treeV l id = ((afterV (l.take k) l[k]).1, 0) := by
 unfold treeV; rw [if_neg h0, h]; simp only; rw [files_after hk]
theorem treeV_miss {l : List Commit} {id : Int} (h0 : ¬ id = 0) (h : idxC l id = none) : treeV l id = ([], 8) := by
 unfold treeV; rw [if_neg h0, h]
def ComB (l : List Commit) : Prop := l.length ≤ 140737488355328 ∧ ∀ c ∈ l, FileQ c.changes
set_option maxRecDepth 20000 in
theorem refTree_of (l : List Commit) (id : Int) (hl : ComB l) (hA : ∀ k (hk : k < l.length), SpecT Tryz.prog 87 [.sl 5 false ((cmsHV l).take k), .agg l[k].enc] [.sl 2 false (filesHV (afterV (l.take k) l[k]).1), i64 (afterV (l.take k) l[k]).2]) : SpecT Tryz.prog 76 [.sl 5 false (cmsHV l), i64 id] [.sl 2 false (filesHV (treeV l id).1), i64 (treeV l id).2] := by
 have hn := hl.1
 refine SpecT.of_HT Tryz.func76 rfl (by rw [Tryz.ntmps76]; simp) (rs := [.tmp 4, .tmp 5]) rfl (by decide) ?_
 rw [Tryz.ntmps76]
 refine HT.seq ?_;refine HT.region ?_;simp (disch := first|omega|(simp<;>omega)|fail) [wr3]
 refine HT.seq ?_;refine HT.seq ?_;refine HT.region ?_;simp (disch := first|omega|(simp<;>omega)|fail) [wr3]
 refine HT.cond' ?_;simp (disch := first|omega|(simp<;>omega)|fail) [wr3]
 refine ⟨fun h10 => ?_, fun h10 => ?_⟩
 ·refine HT.seq ?_;refine HT.region ?_;simp (disch := first|omega|(simp<;>omega)|fail) [wr3]
  refine HT.weaken (HS.le_wk 4 (.sl 2 false []) (by decide) rfl rfl (HLe.nilf 0 2 true)) ?_
  refine HT.ret ?_;simp (disch := first|omega|(simp<;>omega)|fail) [wr3, h10, treeV_zero]
 ·have h0 : ¬ id = 0 := by simpa using h10
  refine HT.skip ?_;simp (disch := first|omega|(simp<;>omega)|fail) [wr3]
  refine HT.seq ?_;refine HT.seq ?_;refine HT.region ?_;simp (disch := first|omega|(simp<;>omega)|fail) [wr3]
  refine HT.block ?_;refine HT.loopK (fun k : {k : Nat // k ≤ l.length ∧ UpTo (fun c => !decide (c.id = id)) l k} => [.s 6 (i64 k)]) [0, 1] [] (fun k => l.length - k) (⟨0, by omega, UpTo.zero _ _⟩) ?_ ?_
  ·simp (disch := first|omega|(simp<;>omega)|fail) [wr3]
  rintro ⟨k, hk, hg⟩
  simp (disch := first|omega|(simp<;>omega)|fail) [wr3]
  refine HT.seq ?_;refine HT.seq ?_;refine HT.region ?_;simp (disch := first|omega|(simp<;>omega)|fail) [wr3]
  refine HT.cond' ?_;simp (disch := first|omega|(simp<;>omega)|fail) [wr3]
  refine ⟨fun h14 => ?_, fun h14 => ?_⟩
  ·have hk' : k < l.length := by omega
   refine HT.skip ?_;simp (disch := first|omega|(simp<;>omega)|fail) [wr3]
   refine HT.seq ?_;refine HT.block ?_;refine HT.seq ?_;refine HT.region ?_;simp (disch := first|omega|(simp<;>omega)|fail) [wr3]
   refine HT.cond' ?_;simp (disch := first|omega|(simp<;>omega)|fail) [wr3]
   refine ⟨fun h23 => ?_, fun h23 => ?_⟩
   ·have hx := treeV_hit h0 hk' (idxC_hit hk' hg (by simpa using h23))
    refine HT.seq ?_;refine HT.draw [.batch [0, 1, 2, 3, 4, 5, 6, 7, 8, 9, 10, 11, 12]] (by kernel_rfl) ?_
    simp (disch := first|omega|(simp<;>omega)|fail) [wr3]
    refine stepK.mk (.callT _ _ _ rfl Ty.hb87 rfl rfl (hA k hk')) ?_
    simp (disch := first|omega|(simp<;>omega)|fail) [wr3]
    refine HT.seq ?_;refine HT.region ?_;simp (disch := first|omega|(simp<;>omega)|fail) [wr3]
    refine HT.ret ?_;simp (disch := first|omega|(simp<;>omega)|fail) [wr3, hx]
   ·refine HT.skip ?_;simp (disch := first|omega|(simp<;>omega)|fail) [wr3]
    refine HT.region ?_;simp (disch := first|omega|(simp<;>omega)|fail) [wr3]
    refine Round.mk' (⟨k + 1, by omega, hg.succ hk' (by simpa using h23)⟩) (by dsimp only; omega) rfl ?_
    simp (disch := first|omega|(simp<;>omega)|fail) [wr3]
  ·obtain rfl : k = l.length := by omega
   have hx := idxC_miss hg
   refine HT.exit ?_
   simp (disch := first|omega|(simp<;>omega)|fail) [wr3]
   refine HT.seq ?_;refine HT.region ?_;simp (disch := first|omega|(simp<;>omega)|fail) [wr3]
   refine HT.weaken (HS.le_wk 4 (.sl 2 false []) (by decide) rfl rfl (HLe.nilf 0 2 true)) ?_
   refine HT.ret ?_;simp (disch := first|omega|(simp<;>omega)|fail) [wr3, treeV_miss h0 hx]
theorem TreeS_all : ∀ (n : Nat) (l : List Commit), l.length ≤ n → ComB l → TreeS l
 | 0, l, hn, hl => fun id => refTree_of l id hl fun k hk => absurd hk (by omega)
 | n + 1, l, hn, hl => fun id => refTree_of l id hl fun k hk =>
  after_of (l.take k) l[k] _ (cmsHV_take l k) (TreeS_all n (l.take k) (by rw [List.length_take]; omega) ⟨by rw [List.length_take]; have := hl.1; omega, fun c hc => hl.2 c (List.mem_of_mem_take hc)⟩) (hl.2 _ (List.getElem_mem hk))
theorem TreeS_spec {l : List Commit} (hl : ComB l) : TreeS l := TreeS_all _ l (Nat.le_refl _) hl
theorem after_spec (bf : List Commit) (c : Commit) (rows : List (List HV)) (hrows : rows = cmsHV bf) (hl : ComB bf) (hc : FileQ c.changes) :
  SpecT Tryz.prog 87 [.sl 5 false rows, .agg c.enc] [.sl 2 false (filesHV (afterV bf c).1), i64 (afterV bf c).2] := after_of bf c rows hrows (TreeS_spec hl) hc
end Go.Hv
set_option linter.unusedVariables false
set_option linter.unusedSectionVars false
set_option linter.unusedSimpArgs false
namespace Go.Hv
open Go Go.Hv
variable [GI]
/-! ### Numbers, strings and grams that are handed in -/
@[reducible] def intsSh : ShT := .sl 1 (.int .i64)
@[reducible] def gramsSh : ShT := .sl 2 (.st [.int .i64, intsSh])
theorem map_choiceF {α β : Type} {f : β → α} {p : β → Prop} : ∀ {es : List α}, (∀ x ∈ es, ∃ d, x = f d ∧ p d) → ∃ l : List β, es = l.map f ∧ ∀ d ∈ l, p d
 | [], _ => ⟨[], rfl, by simp⟩
 | x :: r, h => by
  obtain ⟨d, rfl, hd⟩ := h x (by simp)
  obtain ⟨l, rfl, hl⟩ := map_choiceF (es := r) (f := f) (p := p) (fun y hy => h y (by simp [hy]))
  exact ⟨d :: l, rfl, fun y hy => by rcases List.mem_cons.1 hy with rfl | hy; exact hd; exact hl y hy⟩
theorem rdF_int {B : Nat} {k : IntKind} {x : List HV} (h : RdF B (.int k) x) : ∃ n, x = [.lit (.int k n)] ∧ (Lit.int k n).wf = true := by
 cases h with | int k n hw => exact ⟨n, rfl, hw⟩
theorem rdF_str {B : Nat} {x : List HV} (h : RdF B .str x) : ∃ s, x = [.str s] ∧ s.length ≤ B := by
 cases h with | str l hl => exact ⟨l, rfl, hl⟩
theorem rdF_ints {B : Nat} {x : List HV} (h : RdF B intsSh x) : ∃ l, x = [.sl 1 false (intsHV l)] ∧ l.length ≤ B ∧ ∀ n ∈ l, (Lit.int .i64 n).wf = true := by
 cases h with
 | sl sz e es hl hz h =>
  obtain ⟨on, rfl, hon⟩ := map_choiceF (f := fun n => [HV.lit (.int .i64 n)]) (p := fun n => (Lit.int .i64 n).wf = true) (fun x hx => rdF_int (h x hx))
  exact ⟨on, rfl, by simpa using hl, hon⟩
theorem repsF_one {w : World} {dead : Nat → Prop} {c : HV} {v : Value} (h : Reps w dead [c] [v]) : IRep w dead c v := by
 cases h with | cons h1 _ => exact h1
end Go.Hv
set_option linter.unusedVariables false
set_option linter.unusedSectionVars false
set_option linter.unusedSimpArgs false
namespace Go.Hv
open Go Go.Hv
variable [GI]
/-! ### Documents and segments that are handed in -/
@[reducible] def strsShF : ShT := .sl 1 .str
@[reducible] def docShF : ShT := .st [.int .i64, .str, .str, .str, strsShF]
@[reducible] def docsShF : ShT := .sl 5 docShF
@[reducible] def postShF : ShT := .st [.int .i64, gramsSh]
@[reducible] def segShF : ShT := .st [docsShF, .sl 2 postShF]
@[reducible] def segsShF : ShT := .sl 2 segShF
def DocF (B : Nat) (d : Doc) : Prop := d.repo.length ≤ B ∧ d.path.length ≤ B ∧ d.text.length ≤ B ∧ d.on.length ≤ B ∧ ∀ s ∈ d.on, s.length ≤ B
theorem rdF_strs {B : Nat} {x : List HV} (h : RdF B strsShF x) : ∃ l, x = [.sl 1 false (strsHV l)] ∧ l.length ≤ B ∧ ∀ s ∈ l, s.length ≤ B := by
 cases h with
 | sl sz e es hl hz h =>
  obtain ⟨on, rfl, hon⟩ := map_choiceF (f := fun s => [HV.str s]) (p := fun s => s.length ≤ B) (fun x hx => rdF_str (h x hx))
  exact ⟨on, rfl, by simpa using hl, hon⟩
theorem rdF_doc {B : Nat} {x : List HV} (h : RdF B docShF x) : ∃ d : Doc, x = d.enc ∧ DocF B d := by
 cases h with
 | st fs hs h =>
  cases h with
  | cons h1 h =>
  cases h with
  | cons h2 h =>
  cases h with
  | cons h3 h =>
  cases h with
  | cons h4 h =>
  cases h with
  | cons h5 h =>
  cases h
  obtain ⟨n, rfl, hn⟩ := rdF_int h1
  obtain ⟨r, rfl, hr⟩ := rdF_str h2
  obtain ⟨p, rfl, hp⟩ := rdF_str h3
  obtain ⟨t, rfl, ht⟩ := rdF_str h4
  obtain ⟨on, rfl, ho, hos⟩ := rdF_strs h5
  exact ⟨⟨n, r, p, t, on⟩, rfl, hr, hp, ht, ho, hos⟩
theorem rdF_docs {B : Nat} {x : List HV} (h : RdF B docsShF x) : ∃ l : List Doc, x = [.sl 5 false (docsHV l)] ∧ l.length ≤ B ∧ ∀ d ∈ l, DocF B d := by
 cases h with
 | sl sz e es hl hz h =>
  obtain ⟨l, rfl, hb⟩ := map_choiceF (f := Doc.enc) (p := DocF B) (fun x hx => rdF_doc (h x hx))
  exact ⟨l, rfl, by simpa using hl, hb⟩
theorem docs_of_trodW {H : Type} {enc : TypeId × Value → H} {P : Program} {w : World} {sp : Nat → Bool} {held : Bool} {t : TypeId} {a : Option Addr} {n c : Nat} {d : DataW H} {ps : List MemPlace} {B : Nat} (hk : shOKW P docsShF t = true)
  (h : DataW.Trod enc P w 0 sp held t (.slice a n c) d ps) (hB : ∀ n ∈ d.weights P t, n ≤ B) : ∃ l : List Doc, IRep w (fun _ => False) (.sl 5 false (docsHV l)) (.slice a n c) ∧ l.length ≤ B ∧ ∀ d ∈ l, DocF B d := by
 obtain ⟨hs, h1, h2⟩ := arg_of_trodW docsShF hk h hB
 obtain ⟨l, rfl, hl, hg⟩ := rdF_docs h1
 exact ⟨l, repsF_one h2, hl, hg⟩
end Go.Hv
set_option linter.unusedVariables false
set_option linter.unusedSectionVars false
set_option linter.unusedSimpArgs false
/- Conditions: trees of a kind, a number and parts. -/
namespace Go.Hv
open Go Go.RowKit
variable [GI]
inductive NeedT where
 | mk (kind gram : Int) (subs : List NeedT)
def NeedT.kind : NeedT → Int | .mk k _ _ => k
def NeedT.gram : NeedT → Int | .mk _ g _ => g
def NeedT.subs : NeedT → List NeedT | .mk _ _ s => s
mutual
def NeedT.enc (n : NeedT) : List HV :=
 match n with
 | .mk k g s => [i64 k, i64 g, .sl 3 false (needsHV s)]
  termination_by structural n
def needsHV (l : List NeedT) : List (List HV) :=
 match l with
 | [] => []
 | x :: r => x.enc :: needsHV r
  termination_by structural l
end
theorem needsHV_map (l : List NeedT) : needsHV l = l.map NeedT.enc := by
 induction l with
 | nil => rfl
 | cons x r ih => rw [needsHV, ih]; rfl
@[simp] theorem needsHV_length (l : List NeedT) : (needsHV l).length = l.length := by rw [needsHV_map]; simp
@[simp] theorem needsHV_getElem (l : List NeedT) (k : Nat) (h : k < (needsHV l).length) : (needsHV l)[k] = (l[k]'(by simpa using h)).enc := by simp [needsHV_map]
mutual
theorem isIL_need (n : NeedT) : isIL n.enc = true := by
 match n with
 | .mk k g s => rw [NeedT.enc]; simp [isIL, isI, isILL_needs s]
theorem isILL_needs (l : List NeedT) : isILL (needsHV l) = true := by
 match l with
 | [] => rfl
 | x :: r =>
  rw [needsHV, isILL_iff]
  have h := isILL_iff.1 (isILL_needs r)
  intro y hy
  rcases List.mem_cons.1 hy with rfl | hy
  ·exact isIL_need x
  ·exact h y hy
end
attribute [simp] isIL_need isILL_needs
inductive NeedB (B : Nat) : NeedT → Prop
 | mk (k g : Int) (s : List NeedT) (hl : s.length ≤ B) (h : ∀ x ∈ s, NeedB B x) : NeedB B (.mk k g s)
theorem NeedB.len {B : Nat} {n : NeedT} (h : NeedB B n) : n.subs.length ≤ B := by cases h with | mk k g s hl h => exact hl
theorem NeedB.sub {B : Nat} {n x : NeedT} (h : NeedB B n) (hx : x ∈ n.subs) : NeedB B x := by cases h with | mk k g s hl h => exact h x hx
/-! ### Conditions that are handed in -/
variable {H : Type} {enc : TypeId × Value → H} {P : Program} {w : World} {sp : Nat → Bool} {held : Bool} {B : Nat}
end Go.Hv
set_option linter.unusedVariables false
set_option linter.unusedSectionVars false
set_option linter.unusedSimpArgs false
namespace Go.Hv
open Go Go.Hv
variable [GI]
/-! ### A segment and a condition that are handed in -/
theorem reps_at {w : World} {dead : Nat → Prop} {hs : List HV} {us : List Value} (h : Reps w dead hs us) : us.length = hs.length ∧ ∀ (j : Nat) (c : HV) (v : Value), hs[j]? = some c → us[j]? = some v → IRep w dead c v := by
 induction h with
 | nil => exact ⟨rfl, by simp⟩
 | cons a b ih =>
  refine ⟨by simp [ih.1], fun j c v h1 h2 => ?_⟩
  cases j with
  | zero => simp at h1 h2; subst h1; subst h2; exact a
  | succ j => exact ih.2 j c v (by simpa using h1) (by simpa using h2)
theorem agg_of_reps {w : World} {dead : Nat → Prop} {hs : List HV} {v : Value} (hl : hs.length ≠ 1) (h : Reps w dead hs v.cells.toList) : IRep w dead (.agg hs) v := by
 obtain ⟨h1, h2⟩ := reps_at h
 cases v with
 | agg vs => exact .agg (by simpa [Value.cells] using h1) (fun j c v hc hv => h2 j c v hc (by simpa [Value.cells] using hv))
 | _ => exact absurd h1.symm (by simpa [Value.cells] using hl)
end Go.Hv
set_option linter.unusedVariables false
set_option linter.unusedSectionVars false
set_option linter.unusedSimpArgs false
namespace Go.Hv
open Go Go.Hv
variable [GI]
/-! ### A repository, a change and a question that are handed in -/
@[reducible] def blobShF : ShT := .st [.int .i64, .str]
@[reducible] def fileShF : ShT := .st [.str, .int .i64]
@[reducible] def commitShF : ShT := .st [.int .i64, intsSh, .sl 2 fileShF, .int .i64, .int .i64]
@[reducible] def storeShF : ShT := .st [.int .i64, .sl 2 blobShF]
@[reducible] def repoShF : ShT := .st [.str, storeShF, .sl 5 commitShF, .sl 2 fileShF]
@[reducible] def deltaShF : ShT := .st [docsShF, intsSh, docsShF]
@[reducible] def askShF : ShT := .st [.str, .str, .int .i64]
theorem rdF_blob {B : Nat} {x : List HV} (h : RdF B blobShF x) : ∃ b : Blob, x = b.enc ∧ b.text.length ≤ B := by
 cases h with
 | st fs hs h =>
  cases h with
  | cons h1 h =>
  cases h with
  | cons h2 h =>
  cases h
  obtain ⟨n, rfl, hn⟩ := rdF_int h1
  obtain ⟨t, rfl, ht⟩ := rdF_str h2
  exact ⟨⟨n, t⟩, rfl, ht⟩
theorem rdF_file {B : Nat} {x : List HV} (h : RdF B fileShF x) : ∃ f : File, x = f.enc ∧ f.path.length ≤ B := by
 cases h with
 | st fs hs h =>
  cases h with
  | cons h1 h =>
  cases h with
  | cons h2 h =>
  cases h
  obtain ⟨t, rfl, ht⟩ := rdF_str h1
  obtain ⟨n, rfl, hn⟩ := rdF_int h2
  exact ⟨⟨t, n⟩, rfl, ht⟩
theorem rdF_brch {B : Nat} {x : List HV} (h : RdF B fileShF x) : ∃ f : Brch, x = f.enc ∧ f.name.length ≤ B := by
 obtain ⟨f, rfl, h2⟩ := rdF_file h
 exact ⟨⟨f.path, f.blob⟩, rfl, h2⟩
def CommitF (B : Nat) (c : Commit) : Prop := c.parents.length ≤ B ∧ c.changes.length ≤ B ∧ ∀ f ∈ c.changes, f.path.length ≤ B
theorem rdF_commit {B : Nat} {x : List HV} (h : RdF B commitShF x) : ∃ c : Commit, x = c.enc ∧ CommitF B c := by
 cases h with
 | st fs hs h =>
  cases h with
  | cons h1 h =>
  cases h with
  | cons h2 h =>
  cases h with
  | cons h3 h =>
  cases h with
  | cons h4 h =>
  cases h with
  | cons h5 h =>
  cases h
  obtain ⟨n, rfl, hn⟩ := rdF_int h1
  obtain ⟨p, rfl, hp, _⟩ := rdF_ints h2
  obtain ⟨t, rfl, ht⟩ := rdF_int h4
  obtain ⟨a, rfl, ha⟩ := rdF_int h5
  cases h3 with
  | sl sz e es hl hz h =>
  obtain ⟨c, rfl, hc⟩ := map_choiceF (f := File.enc) (p := fun f => f.path.length ≤ B) (fun x hx => rdF_file (h x hx))
  exact ⟨⟨n, p, c, t, a⟩, rfl, hp, by simpa using hl, hc⟩
structure RepoF (B : Nat) (r : Repo) : Prop where
 name : r.name.length ≤ B
 blobs : r.store.blobs.length ≤ B
 texts : ∀ b ∈ r.store.blobs, b.text.length ≤ B
 commits : r.commits.length ≤ B
 commit : ∀ c ∈ r.commits, CommitF B c
 brs : r.brs.length ≤ B
 names : ∀ b ∈ r.brs, b.name.length ≤ B
theorem rdF_repo {B : Nat} {x : List HV} (h : RdF B repoShF x) : ∃ r : Repo, x = r.enc ∧ RepoF B r := by
 cases h with
 | st fs hs h =>
  cases h with
  | cons h1 h =>
  cases h with
  | cons h2 h =>
  cases h with
  | cons h3 h =>
  cases h with
  | cons h4 h =>
  cases h
  obtain ⟨n, rfl, hn⟩ := rdF_str h1
  cases h2 with
  | st fs hs h2 =>
  cases h2 with
  | cons g1 h2 =>
  cases h2 with
  | cons g2 h2 =>
  cases h2
  obtain ⟨nx, rfl, _⟩ := rdF_int g1
  cases g2 with
  | sl sz e es hl hz h =>
  obtain ⟨b, rfl, hb⟩ := map_choiceF (f := Blob.enc) (p := fun f => f.text.length ≤ B) (fun x hx => rdF_blob (h x hx))
  cases h3 with
  | sl sz e es hl3 hz3 h3 =>
  obtain ⟨c, rfl, hc⟩ := map_choiceF (f := Commit.enc) (p := CommitF B) (fun x hx => rdF_commit (h3 x hx))
  cases h4 with
  | sl sz e es hl4 hz4 h4 =>
  obtain ⟨br, rfl, hbr⟩ := map_choiceF (f := Brch.enc) (p := fun f => f.name.length ≤ B) (fun x hx => rdF_brch (h4 x hx))
  exact ⟨⟨n, ⟨nx, b⟩, c, br⟩, rfl, hn, by simpa using hl, hb, by simpa using hl3, hc, by simpa using hl4, hbr⟩
theorem repo_of_trodW {H : Type} {enc : TypeId × Value → H} {P : Program} {w : World} {sp : Nat → Bool} {held : Bool} {t : TypeId} {v : Value} {d : DataW H} {ps : List MemPlace} {B : Nat} (hk : shOKW P repoShF t = true)
  (h : DataW.Trod enc P w 0 sp held t v d ps) (hB : ∀ n ∈ d.weights P t, n ≤ B) : ∃ r : Repo, IRep w (fun _ => False) (.agg r.enc) v ∧ RepoF B r := by
 obtain ⟨hs, h1, h2⟩ := arg_of_trodW repoShF hk h hB
 obtain ⟨s, rfl, hg⟩ := rdF_repo h1
 exact ⟨s, agg_of_reps (by simp [Repo.enc]) h2, hg⟩
structure DeltaF (B : Nat) (d : Delta) : Prop where
 new : d.new.length ≤ B
 news : ∀ x ∈ d.new, DocF B x
 dead : d.dead.length ≤ B
 moved : d.moved.length ≤ B
 moveds : ∀ x ∈ d.moved, DocF B x
structure Ask where
 repo : List UInt8
 branch : List UInt8
 id : Int
@[simp] def Ask.enc (a : Ask) : List HV := [.str a.repo, .str a.branch, i64 a.id]
end Go.Hv
