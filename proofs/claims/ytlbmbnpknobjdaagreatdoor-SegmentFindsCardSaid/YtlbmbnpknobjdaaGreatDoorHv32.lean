import Derived.Test.YtlbmbnpknobjdaaGreatDoorHv31
set_option linter.unusedVariables false
set_option linter.unusedSectionVars false
set_option linter.unusedSimpArgs false
/- A family of rows is frozen into the object that holds them. -/
namespace Go.Hv
open Go Go.RowKit
variable [GI]
variable {P : Program} {D F : Nat → Prop} {σ : HS} {a : Act} {w : World} {γ : Nat → Value} {bl : Nat → Option Nat}
def FRel (B N : Nat) (g : Nat → Nat × List (List HV)) (c c' : HV) : Prop := c' = c ∨ ∃ k, k < N ∧ c = .ref (B + k) ∧ c' = .sl (g k).1 false (g k).2
def OFRel (B N : Nat) (g : Nat → Nat × List (List HV)) : HObj → HObj → Prop
  | .box cs, .box cs' => cs'.length = cs.length ∧ ∀ (j : Nat) (c c' : HV), cs[j]? = some c → cs'[j]? = some c' → FRel B N g c c'
  | .row e sz es, .row e' sz' es' => e' = e ∧ sz' = sz ∧ es'.length = es.length ∧ (∀ x ∈ es', x.length = sz) ∧ ∀ (i j : Nat) (x x' : List HV) (c c' : HV), es[i]? = some x → es'[i]? = some x' → x[j]? = some c → x'[j]? = some c' → FRel B N g c c'
  | .map es, .map es' => es'.length = es.length ∧ ∀ (i : Nat) (p p' : HV × HV), es[i]? = some p → es'[i]? = some p' → p'.1 = p.1 ∧ FRel B N g p.2 p'.2
  | _, _ => False
theorem HS.le_frzG {L : List Ev} {n id N : Nat} (B : Nat) (g : Nat → Nat × List (List HV)) (o' : HObj) (hid : id < B ∨ B + N ≤ id)
    (hg : ∀ k, k < N → ∃ e', getO L (B + k) = .row e' (g k).1 (g k).2 ∧ isILL (g k).2 = true) (ho : OFRel B N g (getO L id) o') :
    HS.le ⟨L, n⟩ ⟨.o id o' :: .os (fam B N fun _ => .gone) :: L, n⟩ := by
  intro D F a w γ bl S
  let L2 : List Ev := .o id o' :: .os (fam B N fun _ => .gone) :: L
  have hidn : ¬ (B ≤ id ∧ id < B + N) := by omega
  have hlid : getO L id ≠ .gone := by intro h; rw [h] at ho; cases o' <;> exact ho
  have hI : getO L2 id = o' := by simp [L2, getO]
  have hin : ∀ i, B ≤ i ∧ i < B + N → getO L2 i = .gone := fun i h => by
    have e1 : ¬ id = i := by omega
    simp [L2, getO, fam, e1, h]
  have hout : ∀ i, ¬ (B ≤ i ∧ i < B + N) → i ≠ id → getO L2 i = getO L i := fun i h hne => by
    have e1 : ¬ id = i := fun x => hne x.symm
    simp [L2, getO, fam, e1, h]
  have hlive : ∀ i, getO L2 i ≠ .gone → getO L i ≠ .gone ∧ ¬ (B ≤ i ∧ i < B + N) := fun i hi => by
    by_cases h1 : B ≤ i ∧ i < B + N
    · exact absurd (hin i h1) hi
    · by_cases h2 : i = id
      · subst h2; exact ⟨hlid, h1⟩
      · rw [hout i h1 h2] at hi; exact ⟨hi, h1⟩
  have hd : ∀ b, dd D L2 bl b → dd D L bl b := by
    rintro b (h | ⟨i, hi, hb⟩)
    · exact .inl h
    · exact .inr ⟨i, (hlive i hi).1, hb⟩
  have hinner : ∀ k, k < N → IRep w (dd D L2 bl) (.sl (g k).1 false (g k).2) (γ (B + k)) := fun k hk => by
    obtain ⟨e', h1, h2⟩ := hg k hk
    have hl : getO L (B + k) ≠ .gone := by rw [h1]; simp
    refine row_irep (σ := ⟨L, n⟩) S h1 h2 (fun b hb hdd => ?_) hd
    rcases hdd with h | ⟨i, hi, hb'⟩
    · exact (S.hblk (B + k) b hl hb).1 (S.hD b h)
    · have := S.hinj i (B + k) b (hlive i hi).1 hl hb' hb
      exact (hlive i hi).2 (by omega)
  have hF : ∀ c c' v, FRel B N g c c' → SRep w (dd D L bl) γ bl c v → SRep w (dd D L2 bl) γ bl c' v := by
    rintro c c' v (rfl | ⟨k, hk, rfl, rfl⟩) r
    · exact r.mono (Nat.le_refl _) (fun _ _ _ => rfl) (fun b _ h => hd b h)
    · rw [r.ref_inv]; exact .imm (hinner k hk)
  refine ⟨γ, bl, S.hG, S.hn, S.hdf, S.hD, S.hbw, fun t => (S.henv t).mono (Nat.le_refl _) (fun _ _ _ => rfl) (fun b _ h => hd b h), fun i => ?_, fun i b hi hb => S.hblk i b (hlive i hi).1 hb, fun i i' b hi hi' hb hb' => S.hinj i i' b (hlive i hi).1 (hlive i' hi').1 hb hb'⟩
  show ORel w (dd D L2 bl) γ bl i (getO L2 i)
  by_cases h1 : B ≤ i ∧ i < B + N
  · rw [hin i h1]; trivial
  by_cases h2 : i = id
  · subst h2
    rw [hI]
    have R := S.hobj i
    simp only at R
    cases hol : getO L i with
    | gone => exact absurd hol hlid
    | iter es left last => rw [hol] at ho; cases o' <;> exact ho.elim
    | prow V0 ob0 t0 z0 es0 => rw [hol] at ho; cases o' <;> exact ho.elim
    | box cs =>
      rw [hol] at ho R
      cases o' with
      | box cs' =>
        obtain ⟨hl, hc⟩ := ho
        obtain ⟨b, C, e, q1, q2, q3, q4, q5⟩ := R
        refine ⟨b, C, e, q1, q2, by omega, q4, fun j c' v hc' hv => ?_⟩
        have hj : j < cs.length := by have := getElem?_lt hc'; omega
        have hcj := List.getElem?_eq_getElem hj
        exact hF _ _ v (hc j _ c' hcj hc') (q5 j _ v hcj hv)
      | _ => exact ho.elim
    | row e sz es =>
      rw [hol] at ho R
      cases o' with
      | row e' sz' es' =>
        obtain ⟨rfl, rfl, hl, hz, hc⟩ := ho
        obtain ⟨q1, q2, q3⟩ := R
        refine ⟨q1, hz, ?_⟩
        rcases q3 with ⟨z1, z2, z3⟩ | ⟨b, cap, C, fr, z1, z2, z3, z4, z5, z6, z7, z8, z9⟩
        · subst z1; exact .inl ⟨List.eq_nil_of_length_eq_zero hl, z2, z3⟩
        · refine .inr ⟨b, cap, C, fr, by rw [hl]; exact z1, z2, z3, z4, by rw [hl]; exact z5, z6, z7, z8, fun p q x' c' hx' hc' => ?_⟩
          have hp : p < es.length := by have := getElem?_lt hx'; omega
          have hx := List.getElem?_eq_getElem hp
          have hq : q < (es[p]).length := by rw [q2 _ (List.getElem_mem hp), ← hz _ (List.mem_of_getElem? hx')]; exact getElem?_lt hc'
          have hcq := List.getElem?_eq_getElem hq
          obtain ⟨v, hv, hr⟩ := z9 p q _ _ hx hcq
          exact ⟨v, hv, hF _ _ v (hc p q _ _ _ _ hx hx' hcq hc') hr⟩
      | _ => exact ho.elim
    | map es =>
      rw [hol] at ho R
      cases o' with
      | map es' =>
        obtain ⟨hl, hc⟩ := ho
        obtain ⟨b, ents, clock, q1, q2, q3, q4, q5, q6⟩ := R
        refine ⟨b, ents, clock, q1, q2, by omega, q4, q5, fun p k x e hx he => ?_⟩
        have hp : p < es.length := by have := getElem?_lt hx; omega
        have hxp := List.getElem?_eq_getElem hp
        obtain ⟨hk, hf⟩ := hc p _ _ hxp hx
        have := q6 p es[p].1 es[p].2 e hxp he
        simp only at hk
        rw [hk]
        exact ⟨this.1.mono (Nat.le_refl _) (fun _ _ _ => rfl) (fun b _ h => hd b h), hF _ _ _ hf this.2⟩
      | _ => exact ho.elim
  · rw [hout i h1 h2]
    exact ORel.other (Nat.le_refl _) (fun _ _ _ => rfl) (fun b _ h => hd b h) rfl rfl (fun _ _ _ => rfl) (fun h => h) (fun h v r => r.mono (Nat.le_refl _) (fun _ _ _ => rfl) (fun b _ h => hd b h)) (by cases getO L i <;> simp [map_id_fun]) (S.hobj i)
end Go.Hv
