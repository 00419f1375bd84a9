import Derived.Test.YtcmomegkhoggpaaGreatDoorHv27
set_option linter.unusedVariables false
set_option linter.unusedSectionVars false
set_option linter.unusedSimpArgs false
namespace Go.Hv
open Go Go.RowKit
variable [GI]
variable {P : Program} {D F : Nat → Prop} {σ : HS} {a : Act} {w : World} {γ γ' : Nat → Value} {bl bl' : Nat → Option Nat} {B : Nat}

def frzs (sz n : Nat) (g : Nat → Nat × List (List HV)) : List (List HV) := (List.range n).map fun i => (List.range sz).map fun j => .sl (g (i * sz + j)).1 false (g (i * sz + j)).2
theorem frzs_get {sz n i : Nat} {g : Nat → Nat × List (List HV)} {x : List HV} (h : (frzs sz n g)[i]? = some x) : i < n ∧ x = (List.range sz).map fun j => .sl (g (i * sz + j)).1 false (g (i * sz + j)).2 := by
 unfold frzs at h
 rw [List.getElem?_map] at h
 rcases Nat.lt_or_ge i n with hlt | hge
 ·rw [List.getElem?_range hlt] at h
  exact ⟨hlt, (Option.some.inj h).symm⟩
 ·rw [List.getElem?_eq_none (by simpa using hge)] at h; cases h
@[simp] theorem frzs_length (sz n : Nat) (g : Nat → Nat × List (List HV)) : (frzs sz n g).length = n := by simp [frzs]
@[simp] theorem isILL_frzs (sz n : Nat) (g : Nat → Nat × List (List HV)) : isILL (frzs sz n g) = true := by
 rw [isILL_iff]
 intro x hx
 obtain ⟨i, hi⟩ := List.mem_iff_getElem?.1 hx
 rw [(frzs_get hi).2, isIL_iff]
 intro c hc
 obtain ⟨j, _, rfl⟩ := List.mem_map.1 hc
 rfl

@[simp] theorem fam_low {m x : Nat} {g : Nat → HObj} (h : x < B) : fam B m g x = none := by unfold fam; rw [if_neg (by omega)]
/-! ### The cells in use -/
@[simp] theorem subLL_refs_low {id sz n : Nat} (h : id < B) (a b : HV) : subLL id a b (refs B sz n) = refs B sz n := by
 unfold subLL refs
 rw [List.map_map]
 refine List.map_congr_left fun i _ => ?_
 show subL id a b ((List.range sz).map fun j => HV.ref (B + (i * sz + j))) = _
 rw [subL_map, List.map_map]
 refine List.map_congr_left fun j _ => ?_
 show HV.sub id a b (.ref (B + (i * sz + j))) = _
 simp only [HV.sub]
 rw [if_neg (by omega)]
end Go.Hv
