import Derived.Test.YtcmomegkhoggpaaGreatDoorHv21
set_option linter.unusedVariables false
set_option linter.unusedSectionVars false
set_option linter.unusedSimpArgs false
namespace Go.Hv
open Go Go.RowKit
variable [GI]
variable {P : Program} {D : Nat → Prop} {F : Nat → Prop} {σ : HS} {a : Act} {w : World} {γ : Nat → Value} {bl : Nat → Option Nat}

/-! ### Operations that only fill a slot -/
def bsHV (P : Program) (L : List Ev) (t len : Nat) (parts : List (Nat × Operand)) : Option HV :=
 match slInfo P t with
 | some (e, sz, _) => match zeroHV P e with
  | some zs => if (zs.length = sz ∧ len = parts.length ∧ parts.map (·.1) = List.range parts.length ∧ parts.length * sz ≤ 16777216) ∧ idsOf (parts.map fun p => opd L p.2) = [] then
    (partsHV sz (parts.map fun p => opd L p.2)).map (.sl sz true)
   else none
  | none => none
 | none => none
theorem bsHV_build {L : List Ev} {t len : Nat} {parts : List (Nat × Operand)} {h : HV} (e : bsHV P L t len parts = some h) : buildSliceHV P L t len parts = some (L, h) := by
 unfold bsHV at e
 unfold buildSliceHV
 split at e
 ·next e0 sz by_ hT =>
  split at e
  ·next zs hz =>
   simp only [Option.ite_none_right_eq_some, Option.map_eq_some_iff] at e
   obtain ⟨⟨hc, hi⟩, es, hp, rfl⟩ := e
   simp only [hT, hz]
   rw [if_pos hc, hi]
   simp only [Hv.frzAll, hp]
  ·cases e
 ·cases e
noncomputable def pureV (P : Program) (L : List Ev) (op : Op) : Option HV :=
 match evV P L op with
 | some h => some h
 | none => match op with
  | .buildSlice t len parts => bsHV P L t len parts.toList
  | _ => none

inductive PStep (P : Program) (o : Oper) (L : List Ev) : HV → Prop
 | ev {h} (e : pureV P L o.op = some h) : PStep P o L h
 | call1 (g hs h) (hc : callee L o = some (g, hs)) (hb : hasBody P g = true) (hi : isIL hs = true) (h0 : idsOf hs = []) (hs1 : Spec1 P g hs h) : PStep P o L h
 | callT (g hs rs) (hc : callee L o = some (g, hs)) (hb : hasBody P g = true) (hi : isIL hs = true) (h0 : idsOf hs = []) (hs1 : SpecT P g hs rs) : PStep P o L (.tup rs)
 | call1r (g hs hs' h) (hc : callee L o = some (g, hs)) (hb : hasBody P g = true) (hr : rdL L hs = some hs') (hs1 : Spec1 P g hs' h) (hsc : scal h = true) : PStep P o L h
 | callTr (g hs hs' rs) (hc : callee L o = some (g, hs)) (hb : hasBody P g = true) (hr : rdL L hs = some hs') (hs1 : SpecT P g hs' rs) (hsc : scalL rs = true) : PStep P o L (.tup rs)

theorem PStep.step {o : Oper} {L : List Ev} {n : Nat} {h : HV} (s : PStep P o L h) {σ' : HS} (hp : HS.put ⟨L, n⟩ o.dst h = some σ') : Step P o ⟨L, n⟩ σ' := by
 cases s with
 | ev e =>
  unfold pureV at e
  split at e
  ·next h' hv => simp only [Option.some.injEq] at e; subst e; exact .ev (by simp only [evOp, hv]; exact hp)
  ·next hv =>
   split at e
   ·next t len parts ho =>
    refine .ev ?_
    simp only [evOp, hv]
    rw [ho]
    simp only [evE, bsHV_build e]
    exact hp
   ·cases e
 | call1 g hs h hc hb hi h0 hs1 => exact .call1f g hs hs L h hc hb (by rw [h0]; rfl) hi hs1 hp
 | callT g hs rs hc hb hi h0 hs1 => exact .callTf g hs hs L rs hc hb (by rw [h0]; rfl) hi hs1 hp
 | call1r g hs hs' h hc hb hr hs1 hsc => exact .call1 g hs hs' h hc hb hr hs1 hsc hp
 | callTr g hs hs' rs hc hb hr hs1 hsc => exact .callT g hs hs' rs hc hb hr hs1 hsc hp

theorem callee_congr {L M : List Ev} {o : Oper} (h : ∀ t, Operand.tmp t ∈ o.op.operands → get L t = get M t) : callee L o = callee M o := by
 have hx : ∀ x ∈ o.op.operands, opd L x = opd M x := fun x hx => opd_congr fun t e => h t (e ▸ hx)
 unfold callee
 split
 ·next c ho =>
  rw [ho] at hx
  split
  ·next f hf =>
   rw [← hx f (by simp [Op.operands, Call.operands, hf])]
   have : c.args.toList.map (opd L) = c.args.toList.map (opd M) := List.map_congr_left fun x hp => hx x (by
    simp only [Op.operands, Call.operands, hf]
    simp at hp
    simp [hp])
   rw [this]
  ·rfl
 ·rfl
mutual
theorem rd_congr {L M : List Ev} (ho : ∀ id, getO L id = getO M id) (h : HV) : rd L h = rd M h := by
 cases h with
 | agg cs => simp only [rd, rdL_congr ho cs]
 | fn f cs => simp only [rd, rdL_congr ho cs]
 | ref id => simp only [rd, ho]
 | mref id => simp only [rd, ho]
 | _ => rfl
  termination_by structural h
theorem rdL_congr {L M : List Ev} (ho : ∀ id, getO L id = getO M id) (l : List HV) : rdL L l = rdL M l := by
 cases l with
 | nil => rfl
 | cons c cs => simp only [rdL, rd_congr ho c, rdL_congr ho cs]
  termination_by structural l
end
theorem PStep.congr {o : Oper} {L M : List Ev} {x : HV} (s : PStep P o L x) (h : ∀ t, Operand.tmp t ∈ o.op.operands → get L t = get M t) (ho : ∀ id, getO L id = getO M id) : PStep P o M x := by
 cases s with
 | ev e =>
  refine .ev ?_
  unfold pureV at e ⊢
  have he := evV_congr (P := P) h ho
  cases hv : evV P L o.op with
  | some h' => simp only [hv] at e; simp only [← he, hv]; exact e
  | none =>
   simp only [hv] at e
   simp only [← he, hv]
   cases hop : o.op with
   | buildSlice t len parts =>
    rw [hop] at e h
    simp only at e ⊢
    have : (parts.toList.map fun p => opd L p.2) = parts.toList.map fun p => opd M p.2 := List.map_congr_left fun p hp => opd_congr fun t e => h t (by
     simp only [Op.operands]
     simp only [List.mem_toArray, List.mem_map]
     exact ⟨p, hp, e⟩)
    unfold bsHV at e ⊢
    rw [← this]
    exact e
   | _ => rw [hop] at e; simp at e
 | call1 g hs h' hc hb hi h0 hs1 => exact .call1 g hs x (by rw [← callee_congr h]; exact hc) hb hi h0 hs1
 | callT g hs rs hc hb hi h0 hs1 => exact .callT g hs rs (by rw [← callee_congr h]; exact hc) hb hi h0 hs1
 | call1r g hs hs' h' hc hb hr hs1 hsc => exact .call1r g hs hs' x (by rw [← callee_congr h]; exact hc) hb (by rw [← rdL_congr ho]; exact hr) hs1 hsc
 | callTr g hs hs' rs hc hb hr hs1 hsc => exact .callTr g hs hs' rs (by rw [← callee_congr h]; exact hc) hb (by rw [← rdL_congr ho]; exact hr) hs1 hsc

def PG (P : Program) (ops : Array Oper) (o : Oper) (L : List Ev) (h : HV) : Prop :=
 match o.guard with
 | none => PStep P o L h
 | some (j, want) => ∃ d, (ops[j]?).bind (·.dst) = some d ∧ ((get L d = .lit (.bool want) ∧ PStep P o L h) ∨ (Unwanted L d want ∧ h = .lit (.tuple #[])))
theorem PG.congr {ops : Array Oper} {o : Oper} {L M : List Ev} {x : HV} (s : PG P ops o L x) (h : ∀ t ∈ o.looksAt ops, get L t = get M t) (ho : ∀ id, getO L id = getO M id) : PG P ops o M x := by
 have h1 : ∀ t, Operand.tmp t ∈ o.op.operands → get L t = get M t := fun t ht => h t (List.mem_append_left _ (List.mem_filterMap.2 ⟨.tmp t, by simpa using ht, rfl⟩))
 unfold PG at s ⊢
 split at s
 ·exact s.congr h1 ho
 ·next j want hg =>
  obtain ⟨d, hd, hs⟩ := s
  have hdd := h d (List.mem_append_right _ (by simp [hg, hd]))
  refine ⟨d, hd, ?_⟩
  unfold Unwanted at hs ⊢
  rw [← hdd]
  rcases hs with ⟨e, hs⟩ | hs
  ·exact .inl ⟨e, hs.congr h1 ho⟩
  ·exact .inr hs

theorem PG.wpOp {ops : Array Oper} {Q : Exit → Act → World → Prop} {i : Nat} {o : Oper} {L : List Ev} {n : Nat} {h : HV} {d : Nat} (hi : ops[i]? = some o) (hd : o.dst = some d) (hdn : d < n) (s : PG P ops o L h)
  (S : Sim D F ⟨L, n⟩ a w γ bl) {K : Act → World → Prop} (hK : ∀ a' w' γ' bl', Sim D F ⟨.s d h :: L, n⟩ a' w' γ' bl' → Kept F w w' → K a' w') : wpOp P ops Q i K a w := by
 have hp : HS.put ⟨L, n⟩ o.dst h = some ⟨.s d h :: L, n⟩ := by simp [HS.put, hd, hdn]
 unfold Go.wpOp
 simp only [hi]
 unfold PG at s
 split at s
 ·next hg =>
  rw [if_pos (by simp [Region.wanted, hg])]
  exact .inl ((s.step hp).ok D F a w γ bl S K Q hK)
 ·next j want hg =>
  obtain ⟨d', hd', hs⟩ := s
  rcases hs with ⟨hb, hs⟩ | ⟨hu, rfl⟩
  ·have hy : yielded ops a.tmps j = some want := yielded_of hd' (by have := S.henv d'; simp only at this; rw [hb] at this; exact this.lit_inv)
   rw [if_pos (by simp [Region.wanted, hg, hy])]
   exact .inl ((hs.step hp).ok D F a w γ bl S K Q hK)
  ·have hy := hu.yielded S hd'
   rw [if_neg (by simp [Region.wanted, hg, hy])]
   rw [hd]
   exact hK _ _ _ _ (S.put hdn (.imm (.lit _))) (Kept.refl _ _)
end Go.Hv
