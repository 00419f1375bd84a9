import Derived.Test.YtcmomegkhoggpaaGreatDoorHv11
import Derived.Lib.Strings
set_option linter.unusedVariables false
set_option linter.unusedSectionVars false
set_option linter.unusedSimpArgs false
namespace Go.Hv
open Go Go.RowKit
variable [GI]
variable {P : Program} {D : Nat → Prop} {F : Nat → Prop} {σ : HS} {a : Act} {w : World} {γ : Nat → Value} {bl : Nat → Option Nat}

theorem len_run (S : Sim D F σ a w γ bl) {t : Nat} {k : Option TK} (hk : tk P t = k) {x h : HV} {v : Value} (e : lenHV σ.log k x = some h) (r : SRep w (dd D σ.log bl) γ bl x v) (hsl : (∀ l, x ≠ .str l) → ∃ e0, P.underlying t = some (.slice e0)) :
  ∃ u, (Builtin.len_ #[t] 3 #[v]).run P w = .ok u w ∧ SRep w (dd D σ.log bl) γ bl h u := by
 unfold lenHV at e
 split at e
 ·next l =>
  cases r.str_inv
  simp only [Option.some.injEq] at e
  subst e
  obtain ⟨d, hu, hd⟩ := tk_some hk
  simp only at hd
  subst hd
  exact ⟨_, by simp [Builtin.len_, run_underlying hu]; rfl, .imm (.lit _)⟩
 ·next id lo n =>
  simp only [Option.some.injEq] at e
  subst e
  obtain ⟨e0, hu⟩ := hsl (by intro l h; cases h)
  cases r with
  | imm hI => cases hI
  | view h => exact ⟨_, by simp [Builtin.len_, run_underlying hu]; rfl, .imm (.lit _)⟩
 ·split at e
  ·next sz es he =>
   simp only [Option.some.injEq] at e
   subst e
   obtain ⟨A, cap, rfl⟩ := rowOf_len S he r
   obtain ⟨e0, hu⟩ := hsl (by intro l h; subst h; simp [rowOf] at he)
   exact ⟨_, by simp [Builtin.len_, run_underlying hu]; rfl, .imm (.lit _)⟩
  ·cases e

def lenOK (P : Program) (t : Nat) (x : HV) : Bool :=
 match x with
 | .str _ => true
 | _ => (slInfo P t).isSome
theorem len_run' (S : Sim D F σ a w γ bl) {t : Nat} {x h : HV} {v : Value} (e : lenHV σ.log (tk P t) x = some h) (ho : lenOK P t x = true) (r : SRep w (dd D σ.log bl) γ bl x v) (ty : Nat) :
  ∃ u, (Builtin.len_ #[t] ty #[v]).run P w = .ok u w ∧ SRep w (dd D σ.log bl) γ bl h u := by
 have : ∀ ty, Builtin.len_ #[t] ty #[v] = Builtin.len_ #[t] 3 #[v] := fun _ => rfl
 rw [this]
 by_cases hx : ∃ l, x = .str l
 ·obtain ⟨l, rfl⟩ := hx
  exact len_run S rfl e r (fun h => absurd rfl (h l))
 ·refine len_run S rfl e r (fun _ => ?_)
  have : (slInfo P t).isSome = true := by
   cases x with
   | str l => exact absurd ⟨l, rfl⟩ hx
   | _ => exact ho
  obtain ⟨⟨e0, sz, by_⟩, hT⟩ := Option.isSome_iff_exists.1 this
  obtain ⟨i, ht, _⟩ := slInfo_some hT
  exact ⟨e0, ht⟩

theorem convert_run (S : Sim D F σ a w γ bl) {src dst : Nat} {x h : HV} {v : Value} (e : convertHV P σ.log src dst x = some h) (r : SRep w (dd D σ.log bl) γ bl x v) :
  ∃ u, (convert src dst v).run P w = .ok u w ∧ SRep w (dd D σ.log bl) γ bl h u := by
 unfold convertHV at e
 split at e
 ·next ks k _ n hs hd =>
  cases r.lit_inv
  simp only [Option.some.injEq] at e
  subst e
  obtain ⟨d1, hu1, _⟩ := tk_some hs
  obtain ⟨d2, hu2, h2⟩ := tk_some hd
  simp only at h2
  subst h2
  exact ⟨_, by simp [convert, run_underlying hu1, run_underlying hu2, Conv.intToInt], .imm (.lit _)⟩
 ·next l hs hd =>
  cases r.str_inv
  simp only [Option.some.injEq] at e
  subst e
  obtain ⟨d1, hu1, h1⟩ := tk_some hs
  obtain ⟨d2, hu2, h2⟩ := tk_some hd
  simp only at h1 h2
  subst h1; subst h2
  exact ⟨_, by simp [convert, run_underlying hu1, run_underlying hu2], .imm (.str _)⟩
 ·next x hs hd =>
  split at e
  ·next l hl =>
   simp only [Option.some.injEq] at e
   subst e
   obtain ⟨d1, hu1, e0, rfl, hu0⟩ := tk_some hs
   obtain ⟨d2, hu2, h2⟩ := tk_some hd
   simp only at h2
   subst h2
   unfold bytesOfHV at hl
   split at hl
   ·next sz es he =>
    simp only [Option.ite_none_right_eq_some] at hl
    obtain ⟨hs1, hl⟩ := hl
    have hes := unbytes_eq es l hl
    subst hes
    obtain ⟨full, hr⟩ := rowOf_rep S he (isILL_bytes l) r
    have hsz : l = [] ∨ sz = 1 := .inr hs1
    obtain ⟨A, cap, rfl, _, _⟩ := isl_len hr
    have := bytesToString_rep (P := P) hr hsz
    exact ⟨_, by simp [convert, run_underlying hu1, run_underlying hu2, run_underlying hu0, this], .imm (.str _)⟩
   ·cases hl
  ·cases e
 ·cases e

theorem run_sliceBound {k : IntKind} {i : Int} {y : Nat} {c : BoundsCode} (h0 : 0 ≤ i) (h1 : i ≤ y) : (Instr.sliceBound (.int k i) y c).run P w = .ok i.toNat w := by
 simp [Instr.sliceBound, asIntOf, h0, h1]

theorem boundOf_rep (S : Sim D F σ a w γ bl) {o : Option Operand} {b : Option Int} (e : boundOf σ.log o = some b) :
  (o = none ∧ b = none) ∨ ∃ x k i, o = some x ∧ b = some i ∧ a.eval x = .int k i := by
 unfold boundOf at e
 split at e
 ·simp only [Option.some.injEq] at e; exact .inl ⟨rfl, e.symm⟩
 ·next x =>
  split at e
  ·next k i hx =>
   simp only [Option.some.injEq] at e
   subst e
   have := S.opd x
   rw [hx] at this
   exact .inr ⟨x, k, i, rfl, rfl, this.lit_inv⟩
  ·cases e

def capOf (m : Option Int) (cap : Nat) : Nat := match m with | some m => m.toNat | none => cap
theorem run_sliceBounds (S : Sim D F σ a w γ bl) {isS : Bool} {lo hi mx : Option Operand} {l h m : Option Int} (el : boundOf σ.log lo = some l) (eh : boundOf σ.log hi = some h) (em : boundOf σ.log mx = some m)
  {len cap : Nat} (hlc : len ≤ cap) (h0 : 0 ≤ l.getD 0) (h1 : l.getD 0 ≤ h.getD len) (h2 : h.getD len ≤ len) (hm : m = none ∨ (h ≠ none ∧ m = h)) :
  (Instr.sliceBounds isS len cap (lo.map a.eval) (hi.map a.eval) (mx.map a.eval)).run P w = .ok ((l.getD 0).toNat, (h.getD len).toNat, capOf m cap) w := by
 unfold Instr.sliceBounds
 rcases boundOf_rep S el with ⟨rfl, rfl⟩ | ⟨xl, kl, il, rfl, rfl, hl⟩ <;>
 rcases boundOf_rep S eh with ⟨rfl, rfl⟩ | ⟨xh, kh, ih, rfl, rfl, hh⟩ <;>
 rcases boundOf_rep S em with ⟨rfl, rfl⟩ | ⟨xm, km, im, rfl, rfl, hmx⟩ <;>
 simp only [Option.getD_some, Option.getD_none, Option.map_some, Option.map_none, capOf] at * <;>
 first
 | (rcases hm with hm | ⟨hm, _⟩ <;> first | cases hm | exact absurd rfl hm)
 | skip
 ·simp
 ·simp [hh, run_sliceBound (P := P) (w := w) (show 0 ≤ ih by omega) (show ih ≤ (cap : Nat) by omega)]
 ·have : im = ih := by rcases hm with hm | ⟨_, hm⟩; cases hm; exact Option.some.inj hm
  subst this
  simp [hh, hmx, run_sliceBound (P := P) (w := w) (show 0 ≤ im by omega) (show im ≤ (cap : Nat) by omega), run_sliceBound (P := P) (w := w) (y := im.toNat) (show 0 ≤ im by omega) (show im ≤ (im.toNat : Nat) by omega)]
 ·simp [hl, run_sliceBound (P := P) (w := w) (show 0 ≤ il by omega) (show il ≤ (len : Nat) by omega)]
 ·simp [hl, hh, run_sliceBound (P := P) (w := w) (show 0 ≤ ih by omega) (show ih ≤ (cap : Nat) by omega), run_sliceBound (P := P) (w := w) (y := ih.toNat) (show 0 ≤ il by omega) (show il ≤ (ih.toNat : Nat) by omega)]
 ·have : im = ih := by rcases hm with hm | ⟨_, hm⟩; cases hm; exact Option.some.inj hm
  subst this
  simp [hl, hh, hmx, run_sliceBound (P := P) (w := w) (show 0 ≤ im by omega) (show im ≤ (cap : Nat) by omega), run_sliceBound (P := P) (w := w) (y := im.toNat) (show 0 ≤ im by omega) (show im ≤ (im.toNat : Nat) by omega), run_sliceBound (P := P) (w := w) (y := im.toNat) (show 0 ≤ il by omega) (show il ≤ (im.toNat : Nat) by omega)]
end Go.Hv
