import Derived.Test.YtcmomegkhoggpaaGreatDoorHv42
set_option linter.unusedVariables false
set_option linter.unusedSectionVars false
set_option linter.unusedSimpArgs false
/- A map's births are laid open, and shut again. -/
namespace Go.Hv
open Go Go.RowKit
variable [GI]
variable {P : Program}
theorem HT.mapOpen {c : Code} {L : List Ev} {n : Nat} {Q : Exit → HS → Prop} (id : Nat) {es : List (HV × HV)} (ho : getO L id = .map es)
  (H : ∀ (bs : List Nat) (ck : Nat), bs.length = es.length → bs.Nodup → (∀ b ∈ bs, b < ck) → HT P c ⟨.o id (.mapb es bs ck) :: L, n⟩ Q) : HT P c ⟨L, n⟩ Q := by
 intro D F a w γ bl S
 have hlive : getO L id ≠ .gone := by rw [ho]; simp
 have R := S.hobj id
 rw [ho] at R
 obtain ⟨b, ents, clock, h1, h2, h3, h4, h5, h6⟩ := R
 have S' : Sim D F ⟨.o id (.mapb es (ents.toList.map (·.born)) clock) :: L, n⟩ a w γ bl := by
  refine Sim.set (σ := ⟨L, n⟩) S hlive (by simp) (Nat.le_refl _) (fun k hk hne => rfl) (fun hS hI => ?_)
  exact ⟨b, ents, h1, h2, h3, rfl, h4, h5, fun i k x e hx he => ⟨hI _ _ (h6 i k x e hx he).1, hS _ _ (h6 i k x e hx he).2⟩⟩
 refine H _ clock (by simp [h3]) h4 (fun x hx => ?_) D F a w γ bl S'
 obtain ⟨e, he, rfl⟩ := List.mem_map.1 hx
 obtain ⟨i, hi⟩ := List.mem_iff_getElem?.1 he
 rw [Array.getElem?_toList] at hi
 exact h5 i e hi
theorem HS.le_mapShut {L : List Ev} {n : Nat} (id : Nat) {es : List (HV × HV)} {bs : List Nat} {ck : Nat} (ho : getO L id = .mapb es bs ck) : HS.le ⟨L, n⟩ ⟨.o id (.map es) :: L, n⟩ := by
 intro D F a w γ bl S
 have hlive : getO L id ≠ .gone := by rw [ho]; simp
 have R := S.hobj id
 rw [ho] at R
 obtain ⟨b, ents, h1, h2, h3, h4, h4', h5, h6⟩ := R
 refine ⟨γ, bl, Sim.set (σ := ⟨L, n⟩) S hlive (by simp) (Nat.le_refl _) (fun k hk hne => rfl) (fun hS hI => ?_)⟩
 exact ⟨b, ents, ck, h1, h2, h3, by rw [h4]; exact h4', h5, fun i k x e hx he => ⟨hI _ _ (h6 i k x e hx he).1, hS _ _ (h6 i k x e hx he).2⟩⟩
theorem born_at {bs : List Nat} (hn : bs.Nodup) {j n : Nat} (h : bs[j]? = some n) : bs.findIdx? (fun b : Nat => decide ((b : Int) = (n : Int))) = some j := by
 have hj := getElem?_lt h
 rw [List.getElem?_eq_getElem hj] at h
 have h := Option.some.inj h
 refine List.findIdx?_eq_some_iff_getElem.2 ⟨hj, by simp [h], fun i hi => ?_⟩
 have : bs[i] ≠ bs[j] := fun e => by have := (List.getElem_inj hn).1 e; omega
 rw [h] at this
 simpa using fun e : (bs[i] : Int) = n => this (by omega)
theorem born_new {bs : List Nat} {ck : Nat} (h : ∀ b ∈ bs, b < ck) : (bs ++ [ck]).findIdx? (fun b : Nat => decide ((b : Int) = (ck : Int))) = some bs.length := by
 refine List.findIdx?_eq_some_iff_getElem.2 ⟨by simp, by simp, fun i hi => ?_⟩
 rw [List.getElem_append_left hi]
 have := h bs[i] (List.getElem_mem hi)
 simpa using fun e : (bs[i] : Int) = ck => by omega
end Go.Hv
