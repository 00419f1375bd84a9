import Derived.Test.YtcmomegkhoggpaaGreatDoorHv25
set_option linter.unusedVariables false
set_option linter.unusedSectionVars false
set_option linter.unusedSimpArgs false
namespace Go.Hv
open Go Go.RowKit
variable [GI]
variable {P : Program} {D : Nat → Prop} {F : Nat → Prop} {σ : HS} {a : Act} {w : World} {γ : Nat → Value} {bl : Nat → Option Nat} {ops : Array Oper}

/-! ### Trees of a drawn region: a batch with a way out, and a choice told branch by branch -/
theorem RunA.pre {n : Nat} : ∀ {pre post : List (Nat × HV)} {L L' : List Ev}, RunA P ops n (pre ++ post) L L' → ∃ M, RunA P ops n pre L M
 | [], post, L, L', _ => ⟨L, rfl⟩
 | (i, h) :: pre, post, L, L', hr => by
  obtain ⟨o, d, ho, hd, hdn, hp, hr⟩ := hr
  obtain ⟨M, h1⟩ := RunA.pre hr
  exact ⟨M, o, d, ho, hd, hdn, hp, h1⟩
theorem RunA.fn {n : Nat} : ∀ {vs : List (Nat × HV)} {L L1 L2 : List Ev}, RunA P ops n vs L L1 → RunA P ops n vs L L2 → L1 = L2
 | [], L, L1, L2, h1, h2 => by simp only [RunA] at h1 h2; rw [h1, h2]
 | (i, h) :: r, L, L1, L2, h1, h2 => by
  obtain ⟨o, d, ho, hd, _, _, h1⟩ := h1
  obtain ⟨o', d', ho', hd', _, _, h2⟩ := h2
  rw [ho] at ho'; cases ho'
  rw [hd] at hd'; cases hd'
  exact RunA.fn h1 h2
inductive PT where
 | lin (l : List Ph)
 | pre (p : Ph) (t : PT)
 | alt (l : List Nat) (t : Nat → PT)
 | till (S R : List Nat) (t : Nat → PT)
def allL : List Nat → (Nat → Prop) → Prop
 | [], _ => True
 | i :: r, f => f i ∧ allL r f
def evR (P : Program) (ops : Array Oper) (f : Nat → HS → Prop) : List Nat → Nat → HS → Prop
 | [], k, σ => f k σ
 | i :: r, k, σ => f k σ ∧ match ops[i]? with
  | some o => evPG P ops o σ fun σ' => evR P ops f r (k + 1) σ'
  | none => False
def evPh (P : Program) (ops : Array Oper) (p : Ph) (σ : HS) (K : HS → Prop) : Prop :=
 match p with
 | .take i => match ops[i]? with
  | some o => evPG P ops o σ K
  | none => False
 | .batch B => evPs P ops B σ K
 | .one i => match ops[i]? with
  | some o => evG P ops o σ K
  | none => False
def evPT (P : Program) (ops : Array Oper) : PT → HS → (HS → Prop) → Prop
 | .lin l, σ, K => evPl P ops l σ K
 | .pre p t, σ, K => evPh P ops p σ fun σ' => evPT P ops t σ' K
 | .alt l t, σ, K => allL l fun i => match ops[i]? with
  | some o => evG P ops o σ fun σ' => evPT P ops (t i) σ' K
  | none => False
 | .till S R t, σ, K => evPs P ops S σ fun σ' => evR P ops (fun r σ' => evPT P ops (t r) σ' K) R 0 σ'
attribute [simp ↓] evPT evPh allL evR
end Go.Hv
