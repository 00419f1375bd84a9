import Derived.Test.YtcmomegkhoggpaaGreatDoorHv29
set_option linter.unusedVariables false
set_option linter.unusedSectionVars false
set_option linter.unusedSimpArgs false
/- A box's cell that holds an empty slice without room is a row of the walk's own. -/
namespace Go.Hv
open Go Go.RowKit
variable [GI]
theorem HS.le_boxown {L : List Ev} {n : Nat} (b j id e sz z : Nat) {cs : List HV} (hb : getO L b = .box cs) (hj : cs[j]? = some (.sl z true [])) (hne : b ≠ id) (hsz : 0 < sz) :
  HS.le ⟨L, n⟩ ⟨.o b (.box ((subL id .any .any cs).set j (.ref id))) :: .o id (.row e sz []) :: .sub id .any .any :: L, n⟩ := by
 intro D F a w γ bl S
 have R := S.hobj b
 rw [hb] at R
 obtain ⟨bb, C, e0, h1, h2, h3, h4, h5⟩ := R
 have hjl : j < cs.length := getElem?_lt hj
 have hjc : j < C.size := by omega
 obtain ⟨A, hA⟩ : ∃ A, C[j] = .slice A 0 0 := by
  have r := h5 j _ _ hj (Array.getElem?_eq_getElem hjc)
  cases r with
  | imm hi =>
   generalize C[j] = v at hi
   cases hi with
   | @nil _ _ A cap hf hA => rw [hf rfl]; exact ⟨A, rfl⟩
   | sl f hsz hc hf hb hbl hcell h1 h =>
    have := hf rfl
    simp only [List.length_nil] at this
    subst this
    exact ⟨_, rfl⟩
 have S1 := S.lay (w' := w) (id := id) (o' := .row e sz []) (hdl := .slice A 0 0) (ob := none) (Nat.le_refl _) (fun _ _ _ => rfl) (fun b hb => by cases hb) (fun _ _ =>
  ⟨hsz, by simp, .inl ⟨rfl, ⟨A, upd_same ..⟩, upd_same ..⟩⟩)
 have R1 := S1.hobj b
 have hb1 : getO (.o id (.row e sz []) :: .sub id .any .any :: L) b = .box (subL id .any .any cs) := by
  simp only [getO, if_neg (show ¬ id = b from fun h => hne h.symm), hb, HObj.sub]
 rw [hb1] at R1
 obtain ⟨bb', C', e0', k1, k2, k3, k4, k5⟩ := R1
 have hbb : bb' = bb := by
  rw [upd_other _ _ _ b hne] at k1
  rw [h1] at k1
  exact (Option.some.inj k1).symm
 subst hbb
 obtain ⟨rfl, rfl⟩ : C = C' ∧ e0 = e0' := by rw [h2] at k2; injection k2 with k2; injection k2 with q1 q2; exact ⟨q1, q2⟩
 have S2 := Sim.set S1 (w' := w) (id := b) (o' := .box ((subL id .any .any cs).set j (.ref id))) (by rw [hb1]; simp) (by simp) (Nat.le_refl _) (fun _ _ _ => rfl) (fun hS hI => by
  refine ⟨bb', C, e0, k1, k2, by rw [List.length_set]; exact k3, k4, fun i c v hc hv => ?_⟩
  rw [List.getElem?_set] at hc
  split at hc
  ·next e' =>
   subst e'
   split at hc
   ·simp only [Option.some.injEq] at hc
    subst hc
    rw [Array.getElem?_eq_getElem hjc, hA] at hv
    cases hv
    have := SRep.ref (w := w) (dead := dd D (.o id (.row e sz []) :: .sub id .any .any :: L) (upd bl id none)) (γ := upd γ id (.slice A 0 0)) (bl := upd bl id none) id (by rw [upd_same]; rfl)
    rw [upd_same] at this
    exact this
   ·cases hc
  ·exact k5 i c v hc hv)
 exact ⟨_, _, S2⟩
end Go.Hv
