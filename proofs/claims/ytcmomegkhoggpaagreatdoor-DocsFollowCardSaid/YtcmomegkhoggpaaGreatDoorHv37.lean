import Derived.Test.YtcmomegkhoggpaaGreatDoorHv32
set_option linter.unusedVariables false
set_option linter.unusedSectionVars false
set_option linter.unusedSimpArgs false
/- Contracts of functions over a pinned row. -/
namespace Go.Hv
open Go Go.RowKit
variable [GI]
variable {P : Program} {D F : Nat → Prop} {σ : HS} {a : Act} {w : World} {γ : Nat → Value} {bl : Nat → Option Nat}
theorem Does.mono {g : FuncId} {args : Array Value} {Q R : Value → World → Prop} (h : Does P g args w Q) (k : ∀ r w', Q r w' → R r w') : Does P g args w R := by
 rcases h with ⟨hb, h⟩ | ⟨r, w', h1, h2⟩
 ·exact .inl ⟨hb, h.mono fun e w' ⟨r, he, hq⟩ => ⟨r, he, k r w' hq⟩⟩
 ·exact .inr ⟨r, w', h1, k r w' h2⟩
def RetX (V : Value) (ob : Option Nat) (e sz : Nat) (es : List (List HV)) (x : Exit) (σ : HS) : Prop := (x = .normal ∨ x = .ret) ∧ isILL es = true ∧ getO σ.log 900 = .prow V ob e sz es
attribute [simp] RetX calleeX
theorem SpecX.of_HT {f : FuncId} {fn : Func} {c : Code} {xs : List HV} {V : Value} {ob : Option Nat} {e sz : Nat} {es es' : List (List HV)} (hf : P.funcs[f]? = some fn) (hb : fn.body = some c) (hn : xs.length ≤ fn.ntmps) (hr : fn.results = #[]) (hbody : hasBody P f = true)
    (H : HT P c ⟨initL 0 xs ++ [.o 900 (.prow V ob e sz es)], fn.ntmps⟩ (RetX V ob e sz es')) : SpecX P f #[] xs V ob e sz es (.lit (.tuple #[])) es' := by
  intro D w us hD hG hW hus hrep
  obtain ⟨hone, hes, hob, hO⟩ := hW
  refine .inl ⟨hbody, ?_⟩
  rw [Array.append_empty]
  let L0 : List Ev := initL 0 xs ++ [.o 900 (.prow V ob e sz es)]
  let bl0 : Nat → Option Nat := fun i => if i = 900 then ob else none
  have hg0 : ∀ t, getO L0 t = if 900 = t then .prow V ob e sz es else .gone := getO_initO _ _ _ 0
  have hdd : ∀ b, dd D L0 bl0 b → (D b ∨ ob = some b) := by
    rintro b (h | ⟨i, h1, h2⟩)
    · exact .inl h
    · by_cases hi : i = 900
      · subst hi; exact .inr (by simpa [bl0] using h2)
      · simp [bl0, hi] at h2
  have S : Sim D (fun b => b < w.heap.size ∧ ob ≠ some b) ⟨L0, fn.ntmps⟩ { tmps := us ++ Array.replicate (fn.ntmps - us.size) undef, defers := [] } w (fun _ => V) bl0 := by
    refine ⟨hG, by simp [hus]; omega, rfl, fun b hb => ⟨hD b hb, fun h => (hob b h).1 hb⟩, fun b h => h.1, fun t => ?_, fun id => ?_, fun id b h h2 => ?_, fun id id' b h h' _ _ => ?_⟩
    · show SRep w (dd D L0 bl0) (fun _ => V) bl0 (get L0 t) _
      rw [get_initO, get_initL, if_pos (Nat.zero_le _), Nat.sub_zero]
      cases ht : xs[t]? with
      | none => exact .any _
      | some x =>
        have hlt := getElem?_lt ht
        have hv : us[t]? = some (us[t]'(by omega)) := Array.getElem?_eq_getElem (by omega)
        have : (us ++ Array.replicate (fn.ntmps - us.size) undef).getD t undef = us[t]'(by omega) := by
          rw [Array.getD_eq_getD_getElem?, Array.getElem?_append_left (by omega), hv]; rfl
        rw [this]
        exact .imm ((hrep t x _ ht hv).mono (Nat.le_refl _) (fun _ _ _ => rfl) (fun b _ h => hdd b h))
    · show ORel w (dd D L0 bl0) (fun _ => V) bl0 id (getO L0 id)
      rw [hg0]
      split
      · next h =>
        subst h
        have h1 : ORel w (dd D L0 bl0) (fun _ => V) bl0 900 (.row e sz es) := ORel.idx hes rfl (by simp [bl0]) (ORel.dead hes (fun b _ h => hdd b h) hO)
        exact ⟨⟨rfl, by simp [bl0]⟩, h1⟩
      · trivial
    · have h : getO L0 id ≠ .gone := h
      rw [hg0] at h
      split at h
      · next e' => subst e'; have h2 : ob = some b := by simpa [bl0] using h2
                   exact ⟨fun h => h.2 h2, (hob b h2).2⟩
      · exact absurd rfl h
    · have h : getO L0 id ≠ .gone := h
      have h' : getO L0 id' ≠ .gone := h'
      rw [hg0] at h h'
      split at h
      · split at h'
        · omega
        · exact absurd rfl h'
      · exact absurd rfl h
  refine calls_of_wp hf hb (Code.wp_mono ?_ (H D _ _ w _ _ S))
  rintro x a' w' ⟨σ', ⟨hx, hIL, h2⟩, hB, γ', bl', S'⟩
  have hu : (results fn a'.tmps).run P w' = .ok (.tuple #[]) w' := results_many (rs := []) (vs := []) hr (by decide) rfl rfl
  have hlive : getO σ'.log 900 ≠ .gone := by rw [h2]; simp
  have R := S'.hobj 900
  rw [h2] at R
  obtain ⟨⟨hV, hbo⟩, R⟩ := R
  have R' : ORel w' (dd D σ'.log bl') γ' bl' 900 (.row e sz es') := R
  have fin : ∃ r, Ending.returned (.tuple #[]) = .returned r ∧ Kept (fun b => b < w.heap.size ∧ ob ≠ some b) w w' ∧ RowW w' D V ob e sz es' ∧ IRep w' (fun b => D b ∨ ob = some b) (.lit (.tuple #[])) r := by
    refine ⟨_, rfl, hB, ⟨hone, hIL, fun b hb => ⟨(hob b hb).1, (S'.hblk 900 b hlive (hbo.trans hb)).2⟩, ORel.idx hIL hV.symm hbo.symm (ORel.dead hIL ?_ R')⟩, .lit _⟩
    rintro b _ (h | h)
    · exact .inl h
    · exact .inr ⟨900, hlive, hbo.trans h⟩
  rcases hx with rfl | rfl
  · exact ⟨S'.hdf, _, hu, fin⟩
  · exact ⟨S'.hdf, _, hu, fin⟩
end Go.Hv
