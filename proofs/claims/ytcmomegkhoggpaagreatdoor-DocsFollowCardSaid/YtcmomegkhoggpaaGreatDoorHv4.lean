import Derived.Test.YtcmomegkhoggpaaGreatDoorHv3
set_option linter.unusedVariables false
set_option linter.unusedSectionVars false
set_option linter.unusedSimpArgs false
namespace Go.Hv
open Go Go.RowKit
variable [GI]
variable {P : Program} {D : Nat → Prop} {F : Nat → Prop} {σ : HS} {a : Act} {w : World} {γ : Nat → Value} {bl : Nat → Option Nat}

theorem add_at (b off n : Nat) : (⟨b, off, none⟩ : Addr).add n = ⟨b, off + n, none⟩ := by unfold Addr.add; split <;> simp_all

/-! ### What the program's tables say, in few words -/
def isAg : TypeDesc → Bool
 | .struct _ | .array _ _ => true
 | _ => false
def slInfo (P : Program) (t : TypeId) : Option (TypeId × Nat × Nat) :=
 match P.underlying t with
 | some (.slice e) => match P.info? e with
  | some i => if i.size = 0 then none else some (e, i.size, i.bytes)
  | none => none
 | _ => none
theorem slInfo_some {t e sz by_ : Nat} (h : slInfo P t = some (e, sz, by_)) : ∃ i, P.underlying t = some (.slice e) ∧ P.info? e = some i ∧ i.size = sz ∧ i.bytes = by_ ∧ 0 < sz := by
 unfold slInfo at h
 split at h
 ·next e' hu =>
  split at h
  ·next i hi =>
   split at h
   ·cases h
   ·simp only [Option.some.injEq, Prod.mk.injEq] at h
    obtain ⟨rfl, rfl, rfl⟩ := h
    exact ⟨i, hu, hi, rfl, rfl, by omega⟩
  ·cases h
 ·cases h
def arInfo (P : Program) (t : TypeId) : Option (Nat × TypeId × Nat) :=
 match P.underlying t with
 | some (.array n e) => match P.info? e with
  | some i => if i.size = 0 ∨ n ≤ 1 then none else some (n, e, i.size)
  | none => none
 | _ => none
theorem arInfo_some {t n e sz : Nat} (h : arInfo P t = some (n, e, sz)) : ∃ i, P.underlying t = some (.array n e) ∧ P.info? e = some i ∧ i.size = sz ∧ 0 < sz ∧ 1 < n := by
 unfold arInfo at h
 split at h
 ·next n' e' hu =>
  split at h
  ·next i hi =>
   split at h
   ·cases h
   ·simp only [Option.some.injEq, Prod.mk.injEq] at h
    obtain ⟨rfl, rfl, rfl⟩ := h
    exact ⟨i, hu, hi, rfl, by omega, by omega⟩
  ·cases h
 ·cases h
def fdInfo (P : Program) (t : TypeId) (j : Nat) : Option (Nat × Nat × Bool) :=
 match P.underlying t with
 | some (.struct fs) => match fs[j]? with
  | some f => match P.info? f.type, P.underlying f.type with
   | some i, some d => if i.size = 0 then none else some (f.offset, i.size, isAg d)
   | _, _ => none
  | none => none
 | _ => none
def agInfo (P : Program) (t : TypeId) : Option (Bool × Nat) :=
 match P.info? t, P.underlying t with
 | some i, some d => some ((isAg d), i.size)
 | _, _ => none

theorem run_sizeOf_some {t : TypeId} {i : TypeInfo} (h : P.info? t = some i) : (sizeOf t).run P w = .ok i.size w := by
 simp [sizeOf, typeInfo, h]
theorem run_isAgg {t : TypeId} {d : TypeDesc} (h : P.underlying t = some d) : (isAgg t).run P w = .ok (isAg d) w := by
 unfold isAgg
 rw [Sem.run_bind, run_underlying h]
 cases d <;> rfl

/-! ### Loads -/
def ofCells (ag : Bool) (cs : List HV) : Option HV := if ag then some (.agg cs) else match cs with | [c] => some c | _ => none

def cellsAt (L : List Ev) (p : HV) (n : Nat) : Option (List HV) :=
 match p with
 | .cptr cs => if n ≤ cs.length then some (cs.take n) else none
 | .ptr id off => match getO L id with
  | .box cs => if off + n ≤ cs.length then some ((cs.drop off).take n) else none
  | .row _ sz es => if n = sz ∧ off % sz = 0 ∧ off / sz < es.length then es[off / sz]? else
    if off % sz + n ≤ sz ∧ off / sz < es.length then some (((es.getD (off / sz) []).drop (off % sz)).take n) else none
  | _ => none
 | _ => none

theorem cellsAt_rep (S : Sim D F σ a w γ bl) {p : HV} {n : Nat} {cs : List HV} (e : cellsAt σ.log p n = some cs) {v : Value} (r : SRep w (dd D σ.log bl) γ bl p v) :
  cs.length = n ∧ ∃ (b off : Nat) (f : Nat → Value), v = .pointer (some ⟨b, off, none⟩) ∧ ∀ j, j < n → w.cell? ⟨b, off + j, none⟩ = some (f j) ∧ (f j).oneCell' = true ∧ ∀ c, cs[j]? = some c → SRep w (dd D σ.log bl) γ bl c (f j) := by
 cases p with
 | cptr cs0 =>
  simp only [cellsAt, Option.ite_none_right_eq_some, Option.some.injEq] at e
  obtain ⟨hn, rfl⟩ := e
  cases r with
  | imm hi =>
   cases hi with
   | @cptr _ b off f hb hbl hc h1 h =>
    refine ⟨by simp; omega, b, off, f, rfl, fun j hj => ⟨hc j (by omega), h1 j (by omega), fun c hcj => ?_⟩⟩
    rw [List.getElem?_take] at hcj
    split at hcj
    all_goals first | exact .imm (h j c hcj) | (simp at hcj; done)
 | ptr id off =>
  simp only [cellsAt] at e
  cases r with
  | imm hi => cases hi
  | @ptr _ _ b hb =>
   have R := S.hobj id
   cases ho : getO σ.log id with
   | box cs0 =>
    simp only [ho, Option.ite_none_right_eq_some, Option.some.injEq] at e
    obtain ⟨hn, rfl⟩ := e
    rw [ho] at R
    obtain ⟨b', C, e', h1, h2, h3, h4, h5⟩ := R
    obtain rfl : b' = b := by rw [h1] at hb; exact Option.some.inj hb
    refine ⟨by simp; omega, b', off, fun j => C.getD (off + j) undef, rfl, fun j hj => ?_⟩
    have hlt : off + j < C.size := by omega
    have hg : C[off + j]? = some C[off + j] := Array.getElem?_eq_getElem hlt
    have hgd : C.getD (off + j) undef = C[off + j] := by simp [Array.getD_eq_getD_getElem?, hg]
    refine ⟨by simp [World.cell?, h2, hg, hgd], by show (C.getD (off + j) undef).oneCell' = true; rw [hgd]; exact h4 _ _ hg, fun c hc => ?_⟩
    rw [List.getElem?_take] at hc
    split at hc
    all_goals first | (simp at hc; done) | (exact absurd hj (by assumption)) | skip
    rw [List.getElem?_drop] at hc
    show SRep _ _ _ _ c (C.getD (off + j) undef)
    rw [hgd]
    exact h5 _ c _ hc hg
   | row e0 sz es =>
    rw [ho] at R
    obtain ⟨hz, hl, R⟩ := R
    have hseg : off % sz + n ≤ sz ∧ off / sz < es.length ∧ cs = ((es.getD (off / sz) []).drop (off % sz)).take n := by
     simp only [ho] at e
     split at e
     ·next hc =>
      obtain ⟨rfl, hm, hlt⟩ := hc
      refine ⟨by omega, hlt, ?_⟩
      have hx : es.getD (off / n) [] = es[off / n] := by simp [hlt]
      rw [List.getElem?_eq_getElem hlt] at e
      rw [hx, hm, List.drop_zero, List.take_of_length_le (by rw [hl _ (List.getElem_mem hlt)]; exact Nat.le_refl _)]
      exact (Option.some.inj e).symm
     ·simp only [Option.ite_none_right_eq_some, Option.some.injEq] at e
      exact ⟨e.1.1, e.1.2, e.2.symm⟩
    obtain ⟨hfit, hlt, rfl⟩ := hseg
    rcases R with ⟨rfl, _⟩ | ⟨b', cap, C, fr, h1, h2, h3, h4, h5, h6, h7, h8, h9⟩
    ·simp at hlt
    ·obtain rfl : b' = b := by rw [h2] at hb; exact Option.some.inj hb
     have hx : es.getD (off / sz) [] = es[off / sz] := by simp [hlt]
     have hxl : (es[off / sz]).length = sz := hl _ (List.getElem_mem hlt)
     rw [hx]
     have hlen : (((es[off / sz]).drop (off % sz)).take n).length = n := by simp; omega
     refine ⟨hlen, b', off, fun j => C.getD (off + j) undef, rfl, fun j hj => ?_⟩
     obtain ⟨c, hc⟩ : ∃ c, (es[off / sz])[off % sz + j]? = some c := ⟨_, List.getElem?_eq_getElem (l := es[off / sz]) (i := off % sz + j) (by omega)⟩
     obtain ⟨v, hv, hr⟩ := h9 (off / sz) (off % sz + j) _ c (List.getElem?_eq_getElem hlt) hc
     rw [show off / sz * sz + (off % sz + j) = off + j by rw [← Nat.add_assoc, Nat.mul_comm, Nat.div_add_mod]] at hv
     have hgd : C.getD (off + j) undef = v := by simp [Array.getD_eq_getD_getElem?, hv]
     refine ⟨by simp [World.cell?, h3, hv, hgd], by show (C.getD (off + j) undef).oneCell' = true; rw [hgd]; exact h8 _ _ hv, fun c' hc' => ?_⟩
     rw [List.getElem?_take, if_pos hj, List.getElem?_drop, hc] at hc'
     cases hc'
     show SRep _ _ _ _ c (C.getD (off + j) undef)
     rw [hgd]
     exact hr
   | gone => simp [ho] at e
   | map es => simp [ho] at e
   | iter es left last => simp [ho] at e
   | prow V0 ob0 t0 z0 es0 => simp [ho] at e
   | mapb es0 bs0 ck0 => simp [ho] at e
 | _ => simp [cellsAt] at e

theorem run_loadVar_cells {t : TypeId} {i : TypeInfo} {d : TypeDesc} {ag : Bool} (hi : P.info? t = some i) (hu : P.underlying t = some d) (hag : (isAg d) = ag)
  {b off : Nat} {f : Nat → Value} (hc : ∀ j, j < i.size → w.cell? ⟨b, off + j, none⟩ = some (f j)) (h1 : ag = false → i.size = 1) :
  (loadVar t ⟨b, off, none⟩).run P w = .ok (if ag then .agg ((List.range i.size).map f).toArray else f 0) w := by
 unfold loadVar
 rw [Sem.run_bind, run_isAgg hu, Result.andThen_ok, hag]
 cases ag with
 | true =>
  simp only [if_true, Sem.run_bind, run_sizeOf_some hi, Result.andThen_ok]
  rw [run_loadCells w ⟨b, off, none⟩ i.size f (fun j hj => by rw [add_at]; exact hc j hj)]
  rfl
 | false =>
  have := hc 0 (by rw [h1 rfl]; omega)
  simp only [Nat.add_zero] at this
  simp [this]

theorem load_rep {t : TypeId} {ag : Bool} {n : Nat} (hI : agInfo P t = some (ag, n)) (S : Sim D F σ a w γ bl) {p h : HV} {cs : List HV} (e : cellsAt σ.log p n = some cs) (e' : ofCells ag cs = some h) {v : Value} (r : SRep w (dd D σ.log bl) γ bl p v) :
  ∃ u, (Instr.loadAt t v).run P w = .ok u w ∧ SRep w (dd D σ.log bl) γ bl h u := by
 unfold agInfo at hI
 split at hI
 ·next i d hi hu =>
  simp only [Option.some.injEq, Prod.mk.injEq] at hI
  obtain ⟨hag, rfl⟩ := hI
  obtain ⟨hl, b, off, f, rfl, hf⟩ := cellsAt_rep S e r
  have h1 : ag = false → i.size = 1 := fun hx => by
   subst hx
   unfold ofCells at e'
   simp only [Bool.false_eq_true, if_false] at e'
   split at e'
   ·rw [← hl]; rfl
   ·cases e'
  refine ⟨_, by unfold Instr.loadAt; simp only [Instr.sureAddr, Sem.run_bind, Sem.run_pure, Result.andThen_ok]; exact run_loadVar_cells hi hu hag (fun j hj => (hf j hj).1) h1, ?_⟩
  unfold ofCells at e'
  cases ag with
  | true =>
   simp only [if_true, Option.some.injEq] at e'
   subst e'
   refine .agg (by simp [hl]) fun j c v hc hv => ?_
   have hj : j < i.size := by
    rcases Nat.lt_or_ge j cs.length with h | h
    ·omega
    ·simp [List.getElem?_eq_none h] at hc
   have : v = f j := by simpa [hj] using hv.symm
   subst this
   exact (hf j hj).2.2 c hc
  | false =>
   simp only [Bool.false_eq_true, if_false] at e' ⊢
   split at e'
   ·next c =>
    simp only [Option.some.injEq] at e'
    subst e'
    exact (hf 0 (by rw [h1 rfl]; omega)).2.2 c rfl
   ·cases e'
 ·cases hI
end Go.Hv
