import Derived.Test.YtcmomegkhoggpaaGreatDoorHv25
set_option linter.unusedVariables false
set_option linter.unusedSectionVars false
set_option linter.unusedSimpArgs false
namespace Go.Hv
open Go Go.RowKit
variable [GI]
variable {P : Program} {D F : Nat → Prop} {σ : HS} {a : Act} {w : World} {γ γ' : Nat → Value} {bl bl' : Nat → Option Nat} {B : Nat}

/-! ### Rows of rows of one's own: the inner ones' ids begin at B -/
mutual
def lowR (B : Nat) (h : HV) : Bool :=
 match h with
 | .ref i | .mref i | .ptr i _ | .view i _ _ => decide (i < B)
 | .agg cs => lowRL B cs
 | .tup cs => lowRL B cs
 | .fn _ cs => lowRL B cs
 | _ => true
  termination_by structural h
def lowRL (B : Nat) (l : List HV) : Bool :=
 match l with
 | [] => true
 | c :: cs => lowR B c && lowRL B cs
  termination_by structural l
end
mutual
theorem below_isI (h : HV) (hi : isI h = true) : lowR B h = true := by
 cases h with
 | agg cs => simp only [lowR]; exact belowL_isI cs (by simpa [isI] using hi)
 | fn f cs => simp only [lowR]; exact belowL_isI cs (by simpa [isI] using hi)
 | cptr v => rfl
 | lit v => rfl
 | str v => rfl
 | sl a b c => rfl
 | mp a => rfl
 | _ => simp [isI] at hi
  termination_by structural h
theorem belowL_isI (l : List HV) (hi : isIL l = true) : lowRL B l = true := by
 cases l with
 | nil => rfl
 | cons c cs =>
  simp only [isIL, Bool.and_eq_true] at hi
  simp only [lowRL, below_isI c hi.1, belowL_isI cs hi.2, Bool.and_self]
  termination_by structural l
end
mutual
theorem below_sub (id : Nat) (xr xm : HV) (hr : lowR B xr = true) (hm : lowR B xm = true) (h : HV) (hb : lowR B h = true) : lowR B (HV.sub id xr xm h) = true := by
 cases h with
 | ref i => simp only [HV.sub]; split; exact hr; exact hb
 | mref i => simp only [HV.sub]; split; exact hm; exact hb
 | ptr i o => simp only [HV.sub]; split; rfl; exact hb
 | view i o n => simp only [HV.sub]; split; rfl; exact hb
 | agg cs => simp only [HV.sub, lowR]; exact belowL_sub id xr xm hr hm cs (by simpa [lowR] using hb)
 | tup cs => simp only [HV.sub, lowR]; exact belowL_sub id xr xm hr hm cs (by simpa [lowR] using hb)
 | fn f cs => simp only [HV.sub, lowR]; exact belowL_sub id xr xm hr hm cs (by simpa [lowR] using hb)
 | _ => rfl
  termination_by structural h
theorem belowL_sub (id : Nat) (xr xm : HV) (hr : lowR B xr = true) (hm : lowR B xm = true) (l : List HV) (hb : lowRL B l = true) : lowRL B (subL id xr xm l) = true := by
 cases l with
 | nil => rfl
 | cons c cs =>
  simp only [lowRL, Bool.and_eq_true] at hb
  simp only [subL, lowRL, below_sub id xr xm hr hm c hb.1, belowL_sub id xr xm hr hm cs hb.2, Bool.and_self]
  termination_by structural l
end
def refs (B sz n : Nat) : List (List HV) := (List.range n).map fun i => (List.range sz).map fun j => .ref (B + (i * sz + j))
def fam (B m : Nat) (g : Nat → HObj) : Nat → Option HObj := fun i => if B ≤ i ∧ i < B + m then some (g (i - B)) else none
@[simp] theorem refs_length (sz n : Nat) : (refs B sz n).length = n := by simp [refs]

end Go.Hv
