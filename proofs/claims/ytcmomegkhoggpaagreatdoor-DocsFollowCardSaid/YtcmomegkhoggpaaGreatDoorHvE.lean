import Derived.Test.YtcmomegkhoggpaaGreatDoorHv13
import Derived.DeepKeys
set_option linter.unusedVariables false
set_option linter.unusedSectionVars false
set_option linter.unusedSimpArgs false
namespace Go.Hv
open Go Go.RowKit
variable [GI]
variable {P : Program} {D F : Nat → Prop} {σ : HS} {a : Act} {w : World} {γ : Nat → Value} {bl : Nat → Option Nat}

/-! ### Structs of scalars are compared -/
def keyH (P : Program) : Nat → TypeId → List HV → Option (List Lit)
 | 0, _, _ => none
 | d + 1, t, cs => match P.underlying t with
  | some .bool => match cs with
   | [.lit (.bool b)] => some [.bool b]
   | _ => none
  | some (.int q) => match cs with
   | [.lit (.int q' n)] => if q' = q ∧ (Lit.int q n).wf = true then some [.int q n] else none
   | _ => none
  | some .string => match cs with
   | [.str l] => if l.length ≤ maxLen then some [.string l] else none
   | _ => none
  | some (.struct fs) => if cs.length = P.cellsOf t ∧ fs.all (·.name != "_") = true then (fs.toList.mapM fun f => keyH P d f.type ((cs.drop f.offset).take (P.cellsOf f.type))).map List.flatten else none
  | _ => none
theorem mapM_some_congr {α β : Type} {f g : α → Option β} : ∀ {l : List α} {r : List β}, (∀ x ∈ l, ∀ y, f x = some y → g x = some y) → l.mapM f = some r → l.mapM g = some r
 | [], r, _, h => by simpa using h
 | x :: l, r, hx, h => by
  simp only [List.mapM_cons, Option.bind_eq_bind, Option.bind_eq_some_iff, Option.pure_def, Option.some.injEq] at h ⊢
  obtain ⟨y, h1, ys, h2, rfl⟩ := h
  exact ⟨y, hx x (by simp) y h1, ys, mapM_some_congr (fun z hz => hx z (by simp [hz])) h2, rfl⟩
theorem keyH_ok {dead : Nat → Prop} : ∀ (d : Nat) (t : TypeId) (cs : List HV) (vs : List Value) (K : List Lit), keyH P d t cs = some K → vs.length = cs.length →
  (∀ (j : Nat) (c : HV) (v : Value), cs[j]? = some c → vs[j]? = some v → SRep w dead γ bl c v) → P.keyLits d t vs = some K
 | 0, t, cs, vs, K, h, _, _ => by simp [keyH] at h
 | d + 1, t, cs, vs, K, h, hl, hr => by
  have one : ∀ c, cs = [c] → ∃ v, vs = [v] ∧ SRep w dead γ bl c v := fun c hc => by
   subst hc
   match vs, hl with
   | [v], _ => exact ⟨v, rfl, hr 0 c v rfl rfl⟩
  unfold keyH at h
  unfold Program.keyLits
  split at h
  ·next hu =>
   split at h
   ·next b hc =>
    obtain ⟨v, rfl, r⟩ := one _ rfl
    rw [r.lit_inv]
    simp only [hu]
    exact h
   ·cases h
  ·next q hu =>
   split at h
   ·next q' n =>
    obtain ⟨v, rfl, r⟩ := one _ rfl
    rw [r.lit_inv]
    simp only [hu]
    exact h
   ·cases h
  ·next hu =>
   split at h
   ·next l =>
    obtain ⟨v, rfl, r⟩ := one _ rfl
    rw [r.str_inv]
    simp only [hu]
    exact h
   ·cases h
  ·next fs hu =>
   simp only [Option.ite_none_right_eq_some, Option.map_eq_some_iff] at h
   obtain ⟨⟨h1, h2⟩, ls, h3, rfl⟩ := h
   simp only [hu]
   have hm := mapM_some_congr (g := fun f => P.keyLits d f.type ((vs.drop f.offset).take (P.cellsOf f.type))) (fun f hf y hy => keyH_ok d f.type _ ((vs.drop f.offset).take (P.cellsOf f.type)) y hy (by simp [hl]) (fun j c v hc hv => by
    rw [List.getElem?_take] at hc hv
    split at hc
    ·next hj =>
     rw [if_pos hj] at hv
     rw [List.getElem?_drop] at hc hv
     exact hr _ c v hc hv
    ·cases hc)) h3
   rw [if_pos ⟨by rw [hl]; exact h1, h2⟩, hm]
   rfl
  ·cases h

def aggKey (P : Program) (t : TypeId) : Bool := P.keyTypeAt 10 t && !(P.eqGuardType P.depth t) && (match P.underlying t with | some (.struct _) => true | _ => false)
open Classical in
noncomputable def aggEq (P : Program) (t : TypeId) (cs ds : List HV) : Option Bool :=
 if aggKey P t = true then match keyH P 10 t cs, keyH P 10 t ds with
  | some x, some y => some (decide (x = y))
  | _, _ => none
 else none
noncomputable def evAgg (P : Program) (op : BinOp) (t : TypeId) (x y : HV) : Option HV :=
 match op, x, y with
 | .eql, .agg cs, .agg ds => (aggEq P t cs ds).map fun b => .lit (.bool b)
 | .neq, .agg cs, .agg ds => (aggEq P t cs ds).map fun b => .lit (.bool (!b))
 | _, _, _ => none
theorem agg_inv {dead : Nat → Prop} {cs : List HV} {v : Value} (r : SRep w dead γ bl (.agg cs) v) : ∃ vs : Array Value, v = .agg vs ∧ vs.size = cs.length ∧ ∀ (j : Nat) (c : HV) (u : Value), cs[j]? = some c → vs[j]? = some u → SRep w dead γ bl c u := by
 cases r with
 | imm hi =>
  cases hi with
  | agg hl h => exact ⟨_, rfl, hl, fun j c u hc hu => .imm (h j c u hc hu)⟩
 | agg hl h => exact ⟨_, rfl, hl, h⟩
open Classical in
theorem aggEq_run {dead : Nat → Prop} {t : TypeId} {cs ds : List HV} {b : Bool} {u v : Value} (e : aggEq P t cs ds = some b) (hu : SRep w dead γ bl (.agg cs) u) (hv : SRep w dead γ bl (.agg ds) v) :
  (Op.equal t u v).run P w = .ok b w ∧ (∀ X Y (op : BinOp), (eqGuard op t X Y u v).run P w = .ok () w) ∧ ∃ us vs, u = .agg us ∧ v = .agg vs := by
 unfold aggEq at e
 split at e
 ·next hk =>
  simp only [aggKey, Bool.and_eq_true, Bool.not_eq_true'] at hk
  obtain ⟨⟨hk1, hk2⟩, hk3⟩ := hk
  split at e
  ·next x y hx hy =>
   simp only [Option.some.injEq] at e
   subst e
   obtain ⟨us, rfl, ul, ur⟩ := agg_inv hu
   obtain ⟨vs, rfl, vl, vr⟩ := agg_inv hv
   have h1 := keyH_ok (P := P) 10 t cs us.toList x hx (by simpa using ul) (fun j c v hc hv => ur j c v hc (by simpa using hv))
   have h2 := keyH_ok (P := P) 10 t ds vs.toList y hy (by simpa using vl) (fun j c v hc hv => vr j c v hc (by simpa using hv))
   have hform : ∀ (zs : Array Value) (K : List Lit), P.keyLits 10 t zs.toList = some K → (Value.agg zs).formed P t = true := by
    intro zs K h
    split at hk3
    ·next fs hut =>
     unfold Program.keyLits at h
     simp only [hut, Option.ite_none_right_eq_some] at h
     simp only [Value.formed, hut, beq_iff_eq]
     simpa using h.1.1
    ·cases hk3
   obtain ⟨r, hr, hiff⟩ := run_equalIn_deep 9990 10 t hk1 w 10 10 (.agg us) (.agg vs) x y (hform us x h1) (hform vs y h2) h1 h2
   refine ⟨?_, fun X Y op => ?_, us, vs, rfl, rfl⟩
   ·have : r = decide (x = y) := by
     rw [Bool.eq_iff_iff, hiff]; simp
    rw [← this]; exact hr
   ·unfold eqGuard
    cases op <;> simp [hk2]
  ·cases e
 ·cases e
theorem evAgg_ok {dead : Nat → Prop} {op : BinOp} {t : TypeId} {x y h : HV} {u v : Value} (e : evAgg P op t x y = some h) (hx : SRep w dead γ bl x u) (hy : SRep w dead γ bl y v) (X Y : Operand) :
  ∃ r, (do eqGuard op t X Y u v; binOp op t u v : Sem Value).run P w = .ok r w ∧ SRep w dead γ bl h r := by
 unfold evAgg at e
 split at e
 ·next cs ds =>
  simp only [Option.map_eq_some_iff] at e
  obtain ⟨b, hb, rfl⟩ := e
  obtain ⟨h1, h2, us, vs, rfl, rfl⟩ := aggEq_run hb hx hy
  refine ⟨.bool b, ?_, .imm (.lit _)⟩
  rw [Sem.run_bind, h2]
  show (do pure (.bool (← Op.equal t (.agg us) (.agg vs))) : Sem Value).run P w = _
  rw [Sem.run_bind, h1]; rfl
 ·next cs ds =>
  simp only [Option.map_eq_some_iff] at e
  obtain ⟨b, hb, rfl⟩ := e
  obtain ⟨h1, h2, us, vs, rfl, rfl⟩ := aggEq_run hb hx hy
  refine ⟨.bool (!b), ?_, .imm (.lit _)⟩
  rw [Sem.run_bind, h2]
  show (do pure (.bool (!(← Op.equal t (.agg us) (.agg vs)))) : Sem Value).run P w = _
  rw [Sem.run_bind, h1]; rfl
 ·cases e
end Go.Hv
