import Derived.Test.YtcmomegkhoggpaaGreatDoorHv4
set_option linter.unusedVariables false
set_option linter.unusedSectionVars false
set_option linter.unusedSimpArgs false
namespace Go.Hv
open Go Go.RowKit
variable [GI]
variable {P : Program} {D : Nat → Prop} {F : Nat → Prop} {σ : HS} {a : Act} {w : World} {γ : Nat → Value} {bl : Nat → Option Nat}

/-! ### Immutable values -/
mutual
def isI (h : HV) : Bool :=
 match h with
 | .lit _ | .str _ | .sl .. | .mp _ | .cptr _ => true
 | .agg cs => isIL cs
 | .fn _ cap => isIL cap
 | _ => false
  termination_by structural h
def isIL (l : List HV) : Bool :=
 match l with
 | [] => true
 | c :: cs => isI c && isIL cs
  termination_by structural l
end
theorem isIL_iff (l : List HV) : isIL l = true ↔ ∀ c ∈ l, isI c = true := by
 induction l with
 | nil => simp [isIL]
 | cons c cs ih => simp [isIL, ih]
def isILL (es : List (List HV)) : Bool := es.all isIL
def isIM (es : List (HV × HV)) : Bool := es.all fun p => isI p.2
theorem SRep.toI {dead : Nat → Prop} {h : HV} {v : Value} (r : SRep w dead γ bl h v) (hi : isI h = true) : IRep w dead h v := by
 induction r with
 | any v => simp [isI] at hi
 | imm h => exact h
 | agg hl h ih => exact .agg hl fun j c v hc hv => ih j c v hc hv ((isIL_iff _).1 (by simpa [isI] using hi) c (List.mem_of_getElem? hc))
 | tup hl h ih => simp [isI] at hi
 | ref id h1 => simp [isI] at hi
 | ptr hb => simp [isI] at hi
 | mref hb => simp [isI] at hi
 | fn hl h ih => exact .fn hl fun j c v hc hv => ih j c v hc hv ((isIL_iff _).1 (by simpa [isI] using hi) c (List.mem_of_getElem? hc))
 | view h => simp [isI] at hi

def HV.one : HV → Bool
 | .lit v => v.oneCell'
 | .any | .agg _ | .tup _ => false
 | _ => true
theorem SRep.one {dead : Nat → Prop} {h : HV} {v : Value} (r : SRep w dead γ bl h v) (hi : h.one = true) : v.oneCell' = true := by
 cases r with
 | any v => simp [HV.one] at hi
 | imm h => cases h <;> first | rfl | exact hi | (simp [HV.one] at hi)
 | agg hl h => simp [HV.one] at hi
 | tup hl h => simp [HV.one] at hi
 | ref id h1 => exact h1
 | ptr hb => rfl
 | mref hb => rfl
 | fn hl h => rfl
 | view h => rfl

def cellsHV : HV → Option (List HV)
 | .agg cs => if cs.all HV.one then some cs else none
 | h => if h.one then some [h] else none
theorem cellsHV_rep {dead : Nat → Prop} {h : HV} {v : Value} {cs : List HV} (r : SRep w dead γ bl h v) (e : cellsHV h = some cs) :
  v.cells.size = cs.length ∧ (∀ (j : Nat) (u : Value), v.cells[j]? = some u → u.oneCell' = true) ∧ ∀ (j : Nat) (c : HV) (u : Value), cs[j]? = some c → v.cells[j]? = some u → SRep w dead γ bl c u := by
 have hone : ∀ {h : HV} {v : Value}, SRep w dead γ bl h v → h.one = true → v.cells = #[v] := by
  intro h v r hi
  have := r.one hi
  cases v <;> first | rfl | (simp [Value.oneCell'] at this)
 cases h with
 | agg cs0 =>
  simp only [cellsHV, Option.ite_none_right_eq_some, Option.some.injEq] at e
  obtain ⟨hall, rfl⟩ := e
  have key : ∃ vs, v = .agg vs ∧ vs.size = cs0.length ∧ ∀ (j : Nat) (c : HV) (u : Value), cs0[j]? = some c → vs[j]? = some u → SRep w dead γ bl c u := by
   cases r with
   | imm hi =>
    cases hi with
    | agg hl h => exact ⟨_, rfl, hl, fun j c u hc hu => .imm (h j c u hc hu)⟩
   | agg hl h => exact ⟨_, rfl, hl, h⟩
  obtain ⟨vs, rfl, hl, h⟩ := key
  refine ⟨hl, fun j u hu => ?_, h⟩
  have hj : j < vs.size := by
   rcases Nat.lt_or_ge j vs.size with h' | h'
   ·exact h'
   ·simp [Value.cells, Array.getElem?_eq_none h'] at hu
  have hc : cs0[j]? = some (cs0[j]'(by omega)) := List.getElem?_eq_getElem (by omega)
  exact (h j _ u hc hu).one (List.all_eq_true.1 hall _ (List.mem_of_getElem? hc))
 | any => simp [cellsHV, HV.one] at e
 | tup cs => simp [cellsHV, HV.one] at e
 | _ =>
  simp only [cellsHV, Option.ite_none_right_eq_some, Option.some.injEq] at e
  obtain ⟨h1, rfl⟩ := e
  have hc := hone r h1
  rw [hc]
  refine ⟨rfl, fun j u hu => ?_, fun j c u hc hu => ?_⟩
  ·cases j with
   | zero => simp at hu; subst hu; exact r.one h1
   | succ j => simp at hu
  ·cases j with
   | zero => simp at hu hc; subst hu; subst hc; exact r
   | succ j => simp at hc

/-! ### A row or a map is handed on for good: it is only read from here on -/
def frz1 (L : List Ev) (id : Nat) : Option (HV × HV) :=
 match getO L id with
 | .row _ sz es => if isILL es = true then some (.sl sz false es, .any) else none
 | .map es => if isIM es = true then some (.any, .mp es) else none
 | _ => none

theorem row_irep (S : Sim D F σ a w γ bl) {id e sz : Nat} {es : List (List HV)} (ho : getO σ.log id = .row e sz es) (hI : isILL es = true) {dead : Nat → Prop} (hd : ∀ b, bl id = some b → ¬ dead b) (hdd : ∀ b, dead b → dd D σ.log bl b) :
  IRep w dead (.sl sz false es) (γ id) := by
 have R := S.hobj id
 rw [ho] at R
 obtain ⟨hz, hl, R⟩ := R
 rcases R with ⟨rfl, ⟨A, hA⟩, _⟩ | ⟨b', cap, C, fr, h1, h2, h3, h4, h5, h6, h7, h8, h9⟩
 ·rw [hA]; exact .nil (fun h => by cases h) (fun _ => rfl)
 ·rw [h1]
  have hcell : ∀ i j, i < es.length → j < sz → ∃ v, C[i * sz + j]? = some v := by
   intro i j hi hj
   have : i * sz + j < C.size := by
    rw [h7]
    have : (i + 1) * sz ≤ cap * sz := Nat.mul_le_mul_right _ (by omega)
    rw [Nat.add_mul, Nat.one_mul] at this
    omega
   exact ⟨C[i * sz + j], Array.getElem?_eq_getElem this⟩
  refine .sl (fun i j => C.getD (i * sz + j) undef) hl h5 (fun h => by cases h) (hd b' h2) (lt_of_get h3) (fun i j hi hj => ?_) (fun i j hi hj => ?_) (fun i j x c hx hc => ?_)
  ·obtain ⟨v, hv⟩ := hcell i j hi hj
   simp [World.cell?, h3, hv, Array.getD_eq_getD_getElem?]
  ·obtain ⟨v, hv⟩ := hcell i j hi hj
   show (C.getD (i * sz + j) undef).oneCell' = true
   simp only [Array.getD_eq_getD_getElem?, hv, Option.getD_some]
   exact h8 _ _ hv
  ·obtain ⟨v, hv, hr⟩ := h9 i j x c hx hc
   show IRep w dead c (C.getD (i * sz + j) undef)
   simp only [Array.getD_eq_getD_getElem?, hv, Option.getD_some]
   have hci : isI c = true := (isIL_iff _).1 (List.all_eq_true.1 hI x (List.mem_of_getElem? hx)) c (List.mem_of_getElem? hc)
   exact (hr.toI hci).mono (Nat.le_refl _) (fun _ _ _ => rfl) (fun b _ h => hdd b h)
theorem map_irep (S : Sim D F σ a w γ bl) {id : Nat} {es : List (HV × HV)} (ho : getO σ.log id = .map es) (hI : isIM es = true) {dead : Nat → Prop} (hd : ∀ b, bl id = some b → ¬ dead b) (hdd : ∀ b, dead b → dd D σ.log bl b) :
  ∃ b, bl id = some b ∧ IRep w dead (.mp es) (.map (some b)) := by
 have R := S.hobj id
 rw [ho] at R
 obtain ⟨b, ents, clock, h1, h2, h3, h4, h5, h6⟩ := R
 exact ⟨b, h1, .mp (hd b h1) h2 h3 h4 h5 (fun i k x e hx he => (h6 i k x e hx he).1.mono (Nat.le_refl _) (fun _ _ _ => rfl) (fun b _ h => hdd b h)) (fun i k x e hx he => ((h6 i k x e hx he).2.toI (List.all_eq_true.1 hI (k, x) (List.mem_of_getElem? hx))).mono (Nat.le_refl _) (fun _ _ _ => rfl) (fun b _ h => hdd b h))⟩

theorem Sim.frz1 (S : Sim D F σ a w γ bl) {id : Nat} {xr xm : HV} (e : frz1 σ.log id = some (xr, xm)) :
  Sim D F ⟨.o id .gone :: .sub id xr xm :: σ.log, σ.n⟩ a w γ bl ∧
  ∀ (h : HV) (v : Value), SRep w (dd D σ.log bl) γ bl h v → SRep w (dd D (.o id .gone :: .sub id xr xm :: σ.log) bl) γ bl (HV.sub id xr xm h) v := by
 have hlive : getO σ.log id ≠ .gone := by intro h; simp [Hv.frz1, h] at e
 have hdd : ∀ b, dd D (.o id .gone :: .sub id xr xm :: σ.log) bl b → dd D σ.log bl b := by
  rintro b (h | ⟨i, hi, hb⟩)
  ·exact .inl h
  ·by_cases e : id = i
   ·subst e; simp [getO] at hi
   ·exact .inr ⟨i, by simpa [getO, e, HObj.sub_gone] using hi, hb⟩
 have hnd : ∀ b, bl id = some b → ¬ dd D (.o id .gone :: .sub id xr xm :: σ.log) bl b := by
  rintro b hb (h | ⟨i, hi, hb'⟩)
  ·exact (S.hblk id b hlive hb).1 (S.hD b h)
  ·by_cases e : id = i
   ·subst e; simp [getO] at hi
   ·exact e (S.hinj id i b hlive (by simpa [getO, e, HObj.sub_gone] using hi) hb hb')
 have hr : SRep w (dd D (.o id .gone :: .sub id xr xm :: σ.log) bl) γ bl xr (γ id) := by
  unfold Hv.frz1 at e
  split at e
  ·next e0 sz es ho => simp only [Option.ite_none_right_eq_some, Option.some.injEq, Prod.mk.injEq] at e; obtain ⟨hI, rfl, rfl⟩ := e; exact .imm (row_irep S ho hI hnd hdd)
  ·simp only [Option.ite_none_right_eq_some, Option.some.injEq, Prod.mk.injEq] at e; obtain ⟨_, rfl, rfl⟩ := e; exact .any _
  ·cases e
 have hm : ∀ b, bl id = some b → SRep w (dd D (.o id .gone :: .sub id xr xm :: σ.log) bl) γ bl xm (.map (some b)) := by
  intro b hb
  unfold Hv.frz1 at e
  split at e
  ·simp only [Option.ite_none_right_eq_some, Option.some.injEq, Prod.mk.injEq] at e; obtain ⟨_, rfl, rfl⟩ := e; exact .any _
  ·next es ho =>
   simp only [Option.ite_none_right_eq_some, Option.some.injEq, Prod.mk.injEq] at e; obtain ⟨hI, rfl, rfl⟩ := e
   obtain ⟨b', hb', h⟩ := map_irep S ho hI hnd hdd
   obtain rfl : b' = b := by rw [hb'] at hb; exact Option.some.inj hb
   exact .imm h
  ·cases e
 refine ⟨S.new (Nat.le_refl _) (fun _ _ _ => rfl) (fun _ _ => rfl) (fun _ _ => rfl) (fun h => absurd rfl h) hr hm (fun _ _ => trivial), fun h v r => ?_⟩
 exact SRep.sub (Nat.le_refl _) (fun _ _ _ => rfl) (fun b _ h => hdd b h) (fun _ _ => rfl) (fun _ _ => rfl) hr hm r

/- The objects that a value names. -/
mutual
def idsD (h : HV) : List Nat :=
 match h with
 | .ref id => [id]
 | .mref id => [id]
 | .agg cs => idsOf cs
 | .fn _ cap => idsOf cap
 | _ => []
  termination_by structural h
def idsOf (l : List HV) : List Nat :=
 match l with
 | [] => []
 | c :: cs => idsD c ++ idsOf cs
  termination_by structural l
end
def frzAll : List Nat → List Ev → List HV → Option (List Ev × List HV)
 | [], L, cs => some (L, cs)
 | id :: r, L, cs => match frz1 L id with
  | some (xr, xm) => frzAll r (.o id .gone :: .sub id xr xm :: L) (cs.map (HV.sub id xr xm))
  | none => frzAll r L cs
theorem Sim.frzAll (ids : List Nat) : ∀ (L : List Ev) (cs : List HV) (n : Nat), Sim D F ⟨L, n⟩ a w γ bl → ∀ (vs : List Value) {L' cs'}, frzAll ids L cs = some (L', cs') → vs.length = cs.length →
  (∀ (j : Nat) (c : HV) (v : Value), cs[j]? = some c → vs[j]? = some v → SRep w (dd D L bl) γ bl c v) →
  Sim D F ⟨L', n⟩ a w γ bl ∧ cs'.length = cs.length ∧ ∀ (j : Nat) (c : HV) (v : Value), cs'[j]? = some c → vs[j]? = some v → SRep w (dd D L' bl) γ bl c v := by
 induction ids with
 | nil =>
  intro L cs n S vs L' cs' e hl h
  simp only [Hv.frzAll, Option.some.injEq, Prod.mk.injEq] at e
  obtain ⟨rfl, rfl⟩ := e
  exact ⟨S, rfl, h⟩
 | cons id r ih =>
  intro L cs n S vs L' cs' e hl h
  unfold Hv.frzAll at e
  split at e
  ·next xr xm hf =>
   obtain ⟨S', hs⟩ := S.frz1 hf
   obtain ⟨k1, k2, k3⟩ := ih _ _ n S' vs e (by simpa using hl) (fun j c v hc hv => by
    rw [List.getElem?_map] at hc
    cases hj : cs[j]? with
    | none => simp [hj] at hc
    | some c0 => simp only [hj, Option.map_some, Option.some.injEq] at hc; subst hc; exact hs _ _ (h j c0 v hj hv))
   exact ⟨k1, by simpa using k2, k3⟩
  ·exact ih _ _ n S vs e hl h
end Go.Hv
