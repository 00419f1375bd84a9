import Derived.Test.YtcmomegkhoggpaaGreatDoorHv16
import Derived.Deep.LoopGhost
set_option linter.unusedVariables false
set_option linter.unusedSectionVars false
set_option linter.unusedSimpArgs false
namespace Go.Hv
open Go Go.RowKit
variable [GI]
variable {P : Program} {D : Nat → Prop} {F : Nat → Prop} {σ : HS} {a : Act} {w : World} {γ : Nat → Value} {bl : Nat → Option Nat}

/-! ### Contracts -/
def PSpec (P : Program) (f : FuncId) (args : List HV) (R : (Nat → Prop) → (Nat → Prop) → Value → World → Prop) : Prop :=
 ∀ (D : Nat → Prop) (w : World) (vs : Array Value), (∀ b, D b → b < w.heap.size) → GI.G w → vs.size = args.length → (∀ (j : Nat) (c : HV) (v : Value), args[j]? = some c → vs[j]? = some v → IRep w D c v) →
  Calls P f vs w fun e w' => ∃ v, e = .returned v ∧ Kept (fun b => b < w.heap.size) w w' ∧ R D (fun b => b < w.heap.size) v w'
def Spec1 (P : Program) (f : FuncId) (args : List HV) (h : HV) : Prop := PSpec P f args fun D _ v w' => IRep w' D h v
def SpecT (P : Program) (f : FuncId) (args hs : List HV) : Prop := PSpec P f args fun D _ v w' => ∃ vs, v = .tuple vs ∧ vs.size = hs.length ∧ ∀ (j : Nat) (c : HV) (u : Value), hs[j]? = some c → vs[j]? = some u → IRep w' D c u
def SpecO (P : Program) (f : FuncId) (args : List HV) (e sz : Nat) (es : List (List HV)) : Prop := PSpec P f args fun D F v w' => v.oneCell' = true ∧ ∃ ob : Option Nat,
 isILL es = true ∧ (∀ b, ob = some b → ¬ F b ∧ b < w'.heap.size) ∧ ORel w' (fun b => D b ∨ ob = some b) (fun _ => v) (fun _ => ob) 0 (.row e sz es)

def SpecM (P : Program) (f : FuncId) (args : List HV) (es : List (HV × HV)) : Prop := PSpec P f args fun D F v w' => ∃ b, v = .map (some b) ∧ isIM es = true ∧ ¬ F b ∧ b < w'.heap.size ∧
 ORel w' (fun x => D x ∨ x = b) (fun _ => v) (fun _ => some b) 0 (.map es)

def SpecR (P : Program) (f : FuncId) (e sz : Nat) (es : List (List HV)) (xs : List HV) (es' : List (List HV)) : Prop :=
 ∀ (D : Nat → Prop) (w : World) (v : Value) (us : Array Value) (ob : Option Nat), (∀ b, D b → b < w.heap.size) → (∀ b, ob = some b → ¬ D b) → GOK (fun b => b < w.heap.size ∧ ob ≠ some b) w → v.oneCell' = true → isILL es = true →
  ORel w (fun b => D b ∨ ob = some b) (fun _ => v) (fun _ => ob) 0 (.row e sz es) → us.size = xs.length → (∀ (j : Nat) (c : HV) (u : Value), xs[j]? = some c → us[j]? = some u → IRep w (fun b => D b ∨ ob = some b) c u) →
  Calls P f (#[v] ++ us) w fun x w' => ∃ r ob', x = .returned r ∧ r.oneCell' = true ∧ Kept (fun b => b < w.heap.size ∧ ob ≠ some b) w w' ∧ isILL es' = true ∧ (∀ b, ob' = some b → b < w'.heap.size ∧ (w.heap.size ≤ b ∨ ob = some b)) ∧
   ORel w' (fun b => D b ∨ ob' = some b) (fun _ => r) (fun _ => ob') 0 (.row e sz es')
def SpecS (P : Program) (f : FuncId) (e sz : Nat) (es : List (List HV)) (xs : List HV) (es' : List (List HV)) : Prop :=
 ∀ (D : Nat → Prop) (w : World) (v : Value) (us : Array Value) (ob : Option Nat), (∀ b, D b → b < w.heap.size) → (∀ b, ob = some b → ¬ D b) → GOK (fun b => b < w.heap.size ∧ ob ≠ some b) w → v.oneCell' = true → isILL es = true →
  ORel w (fun b => D b ∨ ob = some b) (fun _ => v) (fun _ => ob) 0 (.row e sz es) → us.size = xs.length → (∀ (j : Nat) (c : HV) (u : Value), xs[j]? = some c → us[j]? = some u → IRep w (fun b => D b ∨ ob = some b) c u) →
  Calls P f (#[v] ++ us) w fun x w' => x = .returned (.tuple #[]) ∧ Kept (fun b => b < w.heap.size ∧ ob ≠ some b) w w' ∧ isILL es' = true ∧ ORel w' (fun b => D b ∨ ob = some b) (fun _ => v) (fun _ => ob) 0 (.row e sz es')
theorem SRep.ref_inv {w : World} {dead : Nat → Prop} {γ : Nat → Value} {bl : Nat → Option Nat} {id : Nat} {v : Value} (r : SRep w dead γ bl (.ref id) v) : v = γ id := by
 cases r with
 | imm hi => cases hi
 | ref _ _ => rfl
theorem ORel.idx {w : World} {dead : Nat → Prop} {γ γ' : Nat → Value} {bl bl' : Nat → Option Nat} {i j e sz : Nat} {es : List (List HV)} (hI : isILL es = true) (hγ : γ' j = γ i) (hb : bl' j = bl i) (h : ORel w dead γ bl i (.row e sz es)) : ORel w dead γ' bl' j (.row e sz es) := by
 obtain ⟨q1, q2, q3⟩ := h
 refine ⟨q1, q2, ?_⟩
 rcases q3 with ⟨z1, z2, z3⟩ | ⟨b, cap, C, fr, z1, z2, z3, z4, z5, z6, z7, z8, z9⟩
 ·exact .inl ⟨z1, by rw [hγ]; exact z2, by rw [hb]; exact z3⟩
 ·exact .inr ⟨b, cap, C, fr, by rw [hγ]; exact z1, by rw [hb]; exact z2, z3, z4, z5, z6, z7, z8, fun p q x c hx hc => by
   obtain ⟨u, hu, hr⟩ := z9 p q x c hx hc
   exact ⟨u, hu, .imm (hr.toI ((isIL_iff _).1 (List.all_eq_true.1 hI x (List.mem_of_getElem? hx)) c (List.mem_of_getElem? hc)))⟩⟩
theorem ORel.dead {w : World} {dead dead' : Nat → Prop} {γ : Nat → Value} {bl : Nat → Option Nat} {i e sz : Nat} {es : List (List HV)} (hI : isILL es = true) (hd : ∀ b, b < w.heap.size → dead' b → dead b) (h : ORel w dead γ bl i (.row e sz es)) : ORel w dead' γ bl i (.row e sz es) := by
 obtain ⟨q1, q2, q3⟩ := h
 refine ⟨q1, q2, ?_⟩
 rcases q3 with ⟨z1, z2, z3⟩ | ⟨b, cap, C, fr, z1, z2, z3, z4, z5, z6, z7, z8, z9⟩
 ·exact .inl ⟨z1, z2, z3⟩
 ·exact .inr ⟨b, cap, C, fr, z1, z2, z3, z4, z5, z6, z7, z8, fun p q x c hx hc => by
   obtain ⟨u, hu, hr⟩ := z9 p q x c hx hc
   exact ⟨u, hu, .imm ((hr.toI ((isIL_iff _).1 (List.all_eq_true.1 hI x (List.mem_of_getElem? hx)) c (List.mem_of_getElem? hc))).mono (Nat.le_refl _) (fun _ _ _ => rfl) hd)⟩⟩

/- Told by scalars alone: whatever the world. -/
mutual
def scal (h : HV) : Bool :=
 match h with
 | .lit _ | .str _ => true
 | .agg cs => scalL cs
 | _ => false
  termination_by structural h
def scalL (l : List HV) : Bool :=
 match l with
 | [] => true
 | c :: cs => scal c && scalL cs
  termination_by structural l
end
theorem scalL_iff (l : List HV) : scalL l = true ↔ ∀ c ∈ l, scal c = true := by
 induction l with
 | nil => simp [scalL]
 | cons c cs ih => simp [scalL, ih]
theorem IRep.scal {w w' : World} {dead dead' : Nat → Prop} {h : HV} {v : Value} (r : IRep w dead h v) (hs : Hv.scal h = true) : IRep w' dead' h v := by
 induction r with
 | lit v => exact .lit v
 | str l => exact .str l
 | agg hl h ih => exact .agg hl fun j c v hc hv => ih j c v hc hv ((scalL_iff _).1 (by simpa [Hv.scal] using hs) c (List.mem_of_getElem? hc))
 | nil => simp [Hv.scal] at hs
 | sl => simp [Hv.scal] at hs
 | mnil => simp [Hv.scal] at hs
 | mp => simp [Hv.scal] at hs
 | mpbnil => simp [Hv.scal] at hs
 | mpb => simp [Hv.scal] at hs
 | cptr => simp [Hv.scal] at hs
 | fn => simp [Hv.scal] at hs

/- A value read for good, nothing given away. -/
mutual
def rd (L : List Ev) (h : HV) : Option HV :=
 match h with
 | .lit v => some (.lit v)
 | .str l => some (.str l)
 | .sl a b c => some (.sl a b c)
 | .mp a => some (.mp a)
 | .cptr a => some (.cptr a)
 | .agg cs => (rdL L cs).map .agg
 | .fn f cap => (rdL L cap).map (.fn f)
 | .ref id => match getO L id with
  | .row _ sz es => if isILL es = true then some (.sl sz false es) else none
  | _ => none
 | .mref id => match getO L id with
  | .map es => if isIM es = true then some (.mp es) else none
  | _ => none
 | _ => none
  termination_by structural h
def rdL (L : List Ev) (l : List HV) : Option (List HV) :=
 match l with
 | [] => some []
 | c :: cs => match rd L c, rdL L cs with
  | some c', some cs' => some (c' :: cs')
  | _, _ => none
  termination_by structural l
end
theorem rdL_get {L : List Ev} : ∀ {l l' : List HV}, rdL L l = some l' → l'.length = l.length ∧ ∀ (j : Nat) (c' : HV), l'[j]? = some c' → ∃ c, l[j]? = some c ∧ rd L c = some c'
 | [], l', h => by simp only [rdL, Option.some.injEq] at h; subst h; simp
 | c :: cs, l', h => by
  simp only [rdL] at h
  split at h
  ·next c' cs' h1 h2 =>
   simp only [Option.some.injEq] at h
   subst h
   obtain ⟨k1, k2⟩ := rdL_get h2
   refine ⟨by simp [k1], fun j x hx => ?_⟩
   cases j with
   | zero => simp at hx; subst hx; exact ⟨c, rfl, h1⟩
   | succ j => simpa using k2 j x (by simpa using hx)
  ·cases h

theorem rd_rep (S : Sim D F σ a w γ bl) {h h' : HV} {v : Value} (e : rd σ.log h = some h') (r : SRep w (dd D σ.log bl) γ bl h v) : IRep w D h' v := by
 have imm : ∀ {h h' : HV} {v : Value}, IRep w (dd D σ.log bl) h v → rd σ.log h = some h' → IRep w D h' v := by
  intro h h' v r
  induction r generalizing h' with
  | lit v => intro e; simp only [rd, Option.some.injEq] at e; subst e; exact .lit v
  | str l => intro e; simp only [rd, Option.some.injEq] at e; subst e; exact .str l
  | @agg cs vs hl hh ih =>
   intro e
   simp only [rd, Option.map_eq_some_iff] at e
   obtain ⟨cs', hc, rfl⟩ := e
   obtain ⟨k1, k2⟩ := rdL_get hc
   refine .agg (by rw [hl, k1]) fun j c v hcj hv => ?_
   obtain ⟨c0, h0, h1⟩ := k2 j c hcj
   exact ih j c0 v h0 hv h1
  | nil hf hA => intro e; simp only [rd, Option.some.injEq] at e; subst e; exact .nil hf hA
  | sl f hsz hc hf hb hbl hcell h1 h ih => intro e; simp only [rd, Option.some.injEq] at e; subst e; exact (IRep.sl f hsz hc hf hb hbl hcell h1 h).mono (Nat.le_refl _) (fun _ _ _ => rfl) (fun b _ h => .inl h)
  | mnil => intro e; simp only [rd, Option.some.injEq] at e; subst e; exact .mnil
  | mp hb hm hl hck hbo hk hx ihk ihx => intro e; simp only [rd, Option.some.injEq] at e; subst e; exact (IRep.mp hb hm hl hck hbo hk hx).mono (Nat.le_refl _) (fun _ _ _ => rfl) (fun b _ h => .inl h)
  | mpbnil => intro e; simp [rd] at e
  | mpb => intro e; simp [rd] at e
  | cptr f hb hbl hc h1 h ih => intro e; simp only [rd, Option.some.injEq] at e; subst e; exact (IRep.cptr f hb hbl hc h1 h).mono (Nat.le_refl _) (fun _ _ _ => rfl) (fun b _ h => .inl h)
  | @fn f cap vs hl hh ih =>
   intro e
   simp only [rd, Option.map_eq_some_iff] at e
   obtain ⟨cs', hc, rfl⟩ := e
   obtain ⟨k1, k2⟩ := rdL_get hc
   refine .fn (by rw [hl, k1]) fun j c v hcj hv => ?_
   obtain ⟨c0, h0, h1⟩ := k2 j c hcj
   exact ih j c0 v h0 hv h1
 have hlow : ∀ id b, getO σ.log id ≠ .gone → bl id = some b → ¬ D b := fun id b hl hb h => by exact (S.hblk id b hl hb).1 (S.hD b h)
 induction r generalizing h' with
 | any v => simp [rd] at e
 | imm hi => exact imm hi e
 | @agg cs vs hl hh ih =>
  simp only [rd, Option.map_eq_some_iff] at e
  obtain ⟨cs', hc, rfl⟩ := e
  obtain ⟨k1, k2⟩ := rdL_get hc
  refine .agg (by rw [hl, k1]) fun j c v hcj hv => ?_
  obtain ⟨c0, h0, h1⟩ := k2 j c hcj
  exact ih j c0 v h0 hv h1
 | tup hl hh ih => simp [rd] at e
 | ref id h1 =>
  simp only [rd] at e
  cases ho : getO σ.log id with
  | row e0 sz es =>
   simp only [ho, Option.ite_none_right_eq_some, Option.some.injEq] at e
   obtain ⟨hI, rfl⟩ := e
   exact row_irep S ho hI (fun b hb => hlow id b (by rw [ho]; simp) hb) (fun b h => .inl h)
  | gone => simp [ho] at e
  | box cs => simp [ho] at e
  | map es => simp [ho] at e
  | iter es left last => simp [ho] at e
  | prow V0 ob0 t0 z0 es0 => simp [ho] at e
  | mapb es0 bs0 ck0 => simp [ho] at e
 | ptr hb => simp [rd] at e
 | view h => simp [rd] at e
 | @mref id b hb =>
  simp only [rd] at e
  cases ho : getO σ.log id with
  | map es =>
   simp only [ho, Option.ite_none_right_eq_some, Option.some.injEq] at e
   obtain ⟨hI, rfl⟩ := e
   obtain ⟨b', hb', h⟩ := map_irep S ho hI (dead := D) (fun b hb => hlow id b (by rw [ho]; simp) hb) (fun b h => .inl h)
   obtain rfl : b' = b := by rw [hb'] at hb; exact Option.some.inj hb
   exact h
  | gone => simp [ho] at e
  | box cs => simp [ho] at e
  | iter es left last => simp [ho] at e
  | prow V0 ob0 t0 z0 es0 => simp [ho] at e
  | mapb es0 bs0 ck0 => simp [ho] at e
  | row e0 sz es => simp [ho] at e
 | @fn f cap vs hl hh ih =>
  simp only [rd, Option.map_eq_some_iff] at e
  obtain ⟨cs', hc, rfl⟩ := e
  obtain ⟨k1, k2⟩ := rdL_get hc
  refine .fn (by rw [hl, k1]) fun j c v hcj hv => ?_
  obtain ⟨c0, h0, h1⟩ := k2 j c hcj
  exact ih j c0 v h0 hv h1

/-! ### Calls of functions -/
def hasBody (P : Program) (f : FuncId) : Bool :=
 match P.funcs[f]? with
 | some fn => fn.body.isSome && !(fn.name == "runtime.NumGoroutine")
 | none => false
theorem callFunc_run {f : FuncId} (h : hasBody P f = true) (args : Array Value) : (callFunc f args).run P w = .ok (.enter f args) w := by
 unfold hasBody at h
 split at h
 ·next fn hf =>
  simp only [Bool.and_eq_true, Bool.not_eq_true'] at h
  obtain ⟨h1, h2⟩ := h
  unfold callFunc
  have hb : fn.body.isNone = false := by cases hb : fn.body <;> simp [hb] at h1 ⊢
  have hn : ¬ (fn.name == "runtime.NumGoroutine") = true := by rw [h2]; simp
  rw [Sem.run_bind]
  show Result.andThen (.ok P w) _ = _
  simp only [Result.andThen_ok, hf]
  rw [if_neg hn, if_neg (by rw [hb]; simp)]
  rfl
 ·cases h

def callee (L : List Ev) (o : Oper) : Option (FuncId × List HV) :=
 match o.op with
 | .call c => match c.callee with
  | .value f => match opd L f with
   | .fn (.func g) caps => some (g, c.args.toList.map (opd L) ++ caps)
   | _ => none
  | _ => none
 | _ => none

theorem callee_run (S : Sim D F σ a w γ bl) {o : Oper} {g : FuncId} {hs : List HV} (e : callee σ.log o = some (g, hs)) (hb : hasBody P g = true) :
  ∃ vs : Array Value, (execOp a.eval o).run P w = .ok (.enter g vs) w ∧ vs.size = hs.length ∧ ∀ (j : Nat) (c : HV) (v : Value), hs[j]? = some c → vs[j]? = some v → SRep w (dd D σ.log bl) γ bl c v := by
 unfold callee at e
 split at e
 ·next c ho =>
  split at e
  ·next f hf =>
   split at e
   ·next g' caps hg =>
    simp only [Option.some.injEq, Prod.mk.injEq] at e
    obtain ⟨rfl, rfl⟩ := e
    have r := S.opd f
    rw [hg] at r
    generalize hv : a.eval f = v at r
    have r2 : ∃ vs, v = .func (.func g') #[] vs ∧ vs.size = caps.length ∧ ∀ (j : Nat) (c : HV) (u : Value), caps[j]? = some c → vs[j]? = some u → SRep w (dd D σ.log bl) γ bl c u := by
     cases r with
     | imm hi => cases hi with | fn hl hh => exact ⟨_, rfl, hl, fun j c u hc hu => .imm (hh j c u hc hu)⟩
     | fn hl hh => exact ⟨_, rfl, hl, hh⟩
    obtain ⟨vs, rfl, hl, hh⟩ := r2
    ·refine ⟨c.args.map a.eval ++ vs, ?_, by simp [hl], fun j x v hx hv => ?_⟩
     ·simp only [execOp, ho, resolve, hf, hv, Deferred.ofValue, Sem.run_bind, Sem.run_pure, Result.andThen_ok, invoke, Array.empty_append]
      exact callFunc_run hb _
     ·by_cases hj : j < c.args.size
      ·rw [List.getElem?_append_left (by simpa using hj)] at hx
       rw [Array.getElem?_append_left (by simpa using hj)] at hv
       simp only [List.getElem?_map, Array.getElem?_map, Array.getElem?_toList] at hx hv
       rw [Array.getElem?_eq_getElem hj] at hx hv
       simp only [Option.map_some, Option.some.injEq] at hx hv
       subst hx; subst hv
       exact S.opd _
      ·rw [List.getElem?_append_right (by simpa using hj)] at hx
       rw [Array.getElem?_append_right (by simpa using hj)] at hv
       simp only [List.length_map, Array.length_toList] at hx
       simp only [Array.size_map] at hv
       exact hh _ x v hx hv
   ·cases e
  ·cases e
 ·cases e

/-! ### Rows that are pinned: their handle and their block are told -/
@[reducible] def GI.box (G0 : GI) (b : Nat) (v : Value) : GI where
 G w := G0.G w ∧ w.cell? ⟨b, 0, none⟩ = some v
 foot x := G0.foot x ∨ x = b
 lt w x h hx := by
  rcases hx with hx | rfl
  ·exact G0.lt w x h.1 hx
  ·rcases Nat.lt_or_ge x w.heap.size with h' | h'
   ·exact h'
   ·have := h.2
    simp [World.cell?, Array.getElem?_eq_none h'] at this
 mono w w' hs hb h := by
  refine ⟨G0.mono w w' hs (fun b hb' => hb b (.inl hb')) h.1, ?_⟩
  have e := hb b (.inr rfl)
  have h2 := h.2
  simp only [World.cell?] at h2 ⊢
  rw [e]; exact h2
def RowW (w : World) (D : Nat → Prop) (V : Value) (ob : Option Nat) (e sz : Nat) (es : List (List HV)) : Prop :=
 V.oneCell' = true ∧ isILL es = true ∧ (∀ b, ob = some b → ¬ D b ∧ b < w.heap.size) ∧ ORel w (fun b => D b ∨ ob = some b) (fun _ => V) (fun _ => ob) 0 (.row e sz es)
def Does (P : Program) (g : FuncId) (args : Array Value) (w : World) (Q : Value → World → Prop) : Prop :=
 (hasBody P g = true ∧ Calls P g args w fun e w' => ∃ r, e = .returned r ∧ Q r w') ∨ ∃ r w', (callFunc g args).run P w = .ok (.value r) w' ∧ Q r w'
def SpecX (P : Program) (g : FuncId) (vs : Array Value) (args : List HV) (V : Value) (ob : Option Nat) (e sz : Nat) (es : List (List HV)) (res : HV) (es' : List (List HV)) : Prop :=
 ∀ (D : Nat → Prop) (w : World) (us : Array Value), (∀ b, D b → b < w.heap.size) → GOK (fun b => b < w.heap.size ∧ ob ≠ some b) w → RowW w D V ob e sz es → us.size = args.length →
  (∀ (j : Nat) (c : HV) (u : Value), args[j]? = some c → us[j]? = some u → IRep w (fun b => D b ∨ ob = some b) c u) →
  Does P g (us ++ vs) w fun r w' => Kept (fun b => b < w.heap.size ∧ ob ≠ some b) w w' ∧ RowW w' D V ob e sz es' ∧ IRep w' (fun b => D b ∨ ob = some b) res r
def calleeX (L : List Ev) (o : Oper) : Option (FuncId × Array Value × List HV) :=
 match o.op with
 | .call c => match c.callee with
  | .value f => match opd L f with
   | .fn (.func g) [] => some (g, #[], c.args.toList.map (opd L))
   | .lit (.func (.func g) first vs) => if first.size = 0 then some (g, vs, c.args.toList.map (opd L)) else none
   | _ => none
  | _ => none
 | _ => none
theorem calleeX_run (S : Sim D F σ a w γ bl) {o : Oper} {g : FuncId} {vs : Array Value} {hs : List HV} (e : calleeX σ.log o = some (g, vs, hs)) :
    ∃ us : Array Value, (execOp a.eval o).run P w = (callFunc g (us ++ vs)).run P w ∧ us.size = hs.length ∧ ∀ (j : Nat) (c : HV) (v : Value), hs[j]? = some c → us[j]? = some v → SRep w (dd D σ.log bl) γ bl c v := by
  unfold calleeX at e
  split at e
  · next c ho =>
    split at e
    · next f hf =>
      have key : ∀ vs', a.eval f = .func (.func g) #[] vs' → hs = c.args.toList.map (opd σ.log) → vs' = vs → ∃ us : Array Value, (execOp a.eval o).run P w = (callFunc g (us ++ vs)).run P w ∧ us.size = hs.length ∧ ∀ (j : Nat) (c : HV) (v : Value), hs[j]? = some c → us[j]? = some v → SRep w (dd D σ.log bl) γ bl c v := by
        intro vs' hv hh hvs
        subst hh; subst hvs
        refine ⟨c.args.map a.eval, ?_, by simp, fun j x v hx hv => ?_⟩
        · simp only [execOp, ho, resolve, hf, hv, Deferred.ofValue, Sem.run_bind, Sem.run_pure, Result.andThen_ok, invoke, Array.empty_append]
        · simp only [List.getElem?_map, Array.getElem?_map, Array.getElem?_toList] at hx hv
          cases hj : c.args[j]? with
          | none => simp [hj] at hx
          | some y =>
            simp only [hj, Option.map_some, Option.some.injEq] at hx hv
            subst hx; subst hv
            exact S.opd _
      have r := S.opd f
      split at e
      · next g' hg =>
        simp only [Option.some.injEq, Prod.mk.injEq] at e
        obtain ⟨rfl, rfl, rfl⟩ := e
        rw [hg] at r
        generalize hv : a.eval f = v at r
        refine key #[] ?_ rfl rfl
        rw [hv]
        cases r with
        | imm hi => cases hi with | fn hl hh => have : _ = (#[] : Array Value) := Array.eq_empty_of_size_eq_zero (by simpa using hl)
                                                rw [this]
        | fn hl hh => have : _ = (#[] : Array Value) := Array.eq_empty_of_size_eq_zero (by simpa using hl)
                      rw [this]
      · next g' first vs' hg =>
        simp only [Option.ite_none_right_eq_some, Option.some.injEq, Prod.mk.injEq] at e
        obtain ⟨h0, rfl, rfl, rfl⟩ := e
        obtain rfl : first = #[] := Array.eq_empty_of_size_eq_zero h0
        rw [hg] at r
        exact key _ r.lit_inv rfl rfl
      · cases e
    · cases e
  · cases e
inductive Step (P : Program) (o : Oper) (σ : HS) : HS → Prop
 | ev {σ'} (h : evOp P o σ = some σ') : Step P o σ σ'
 | call1 {σ'} (g hs hs' h) (hc : callee σ.log o = some (g, hs)) (hb : hasBody P g = true) (hr : rdL σ.log hs = some hs') (hs1 : Spec1 P g hs' h) (hsc : scal h = true) (hp : σ.put o.dst h = some σ') : Step P o σ σ'
 | callT {σ'} (g hs hs' rs) (hc : callee σ.log o = some (g, hs)) (hb : hasBody P g = true) (hr : rdL σ.log hs = some hs') (hs1 : SpecT P g hs' rs) (hsc : scalL rs = true) (hp : σ.put o.dst (.tup rs) = some σ') : Step P o σ σ'
 | call1f {σ'} (g hs hs' L' h) (hc : callee σ.log o = some (g, hs)) (hb : hasBody P g = true) (hr : frzAll (idsOf hs) σ.log hs = some (L', hs')) (hi : isIL hs' = true) (hs1 : Spec1 P g hs' h) (hp : HS.put ⟨L', σ.n⟩ o.dst h = some σ') : Step P o σ σ'
 | callTf {σ'} (g hs hs' L' rs) (hc : callee σ.log o = some (g, hs)) (hb : hasBody P g = true) (hr : frzAll (idsOf hs) σ.log hs = some (L', hs')) (hi : isIL hs' = true) (hs1 : SpecT P g hs' rs) (hp : HS.put ⟨L', σ.n⟩ o.dst (.tup rs) = some σ') : Step P o σ σ'
 | callO {σ'} (g hs hs' L' d e sz es) (hc : callee σ.log o = some (g, hs)) (hb : hasBody P g = true) (hr : frzAll (idsOf hs) σ.log hs = some (L', hs')) (hi : isIL hs' = true) (hs1 : SpecO P g hs' e sz es) (hd : o.dst = some d)
   (hp : HS.put ⟨.o d (.row e sz es) :: .sub d .any .any :: L', σ.n⟩ o.dst (.ref d) = some σ') : Step P o σ σ'
 | callM {σ'} (g hs hs' L' d es) (hc : callee σ.log o = some (g, hs)) (hb : hasBody P g = true) (hr : frzAll (idsOf hs) σ.log hs = some (L', hs')) (hi : isIL hs' = true) (hs1 : SpecM P g hs' es) (hd : o.dst = some d)
   (hp : HS.put ⟨.o d (.map es) :: .sub d .any .any :: L', σ.n⟩ o.dst (.mref d) = some σ') : Step P o σ σ'
 | callR {σ'} (g id xs e sz es es') (hc : callee σ.log o = some (g, .ref id :: xs)) (hb : hasBody P g = true) (ho : getO σ.log id = .row e sz es) (hes : isILL es = true) (hi : isIL xs = true) (hs1 : SpecR P g e sz es xs es')
   (hp : HS.put ⟨.o id (.row e sz es') :: .sub id .any .any :: σ.log, σ.n⟩ o.dst (.ref id) = some σ') : Step P o σ σ'
 | callS {σ'} (g id xs e sz es es') (hc : callee σ.log o = some (g, .ref id :: xs)) (hb : hasBody P g = true) (ho : getO σ.log id = .row e sz es) (hes : isILL es = true) (hi : isIL xs = true) (hs1 : SpecS P g e sz es xs es')
   (hp : HS.put ⟨.o id (.row e sz es') :: σ.log, σ.n⟩ o.dst .any = some σ') : Step P o σ σ'
 | callX {σ'} (g vs hs id V ob e sz es es' h) (hc : calleeX σ.log o = some (g, vs, hs)) (ho : getO σ.log id = .prow V ob e sz es) (hes : isILL es = true) (hi : isIL hs = true) (hs1 : SpecX P g vs hs V ob e sz es h es')
   (hp : HS.put ⟨.o id (.prow V ob e sz es') :: σ.log, σ.n⟩ o.dst h = some σ') : Step P o σ σ'
 | callSt {σ'} (g gl r B V ob e sz es es' t) (hc : callee σ.log o = some (g, [.lit (.iface t V), .fn (.func gl) [.ptr B 0]])) (hbody : hasBody P g = true) (hr : getO σ.log r = .prow V ob e sz es) (hB : getO σ.log B = .box [.ref r]) (hes : isILL es = true)
   (hs1 : ∀ bB, ob ≠ some bB → @SpecX (GI.box inferInstance bB V) P g #[] [.lit (.iface t V), .lit (.func (.func gl) #[] #[.pointer (some ⟨bB, 0, none⟩)])] V ob e sz es (.lit (.tuple #[])) es')
   (hp : HS.put ⟨.o r (.row e sz es') :: σ.log, σ.n⟩ o.dst .any = some σ') : Step P o σ σ'


theorem Step.ok {o : Oper} {σ σ' : HS} (s : Step P o σ σ') : OpOK P o σ σ' := by
  cases s with
  | ev h => exact evOp_ok h
  | call1 g hs hs' h hc hb hr hs1 hsc hp =>
    intro D F a w γ bl S next Q hk
    obtain ⟨vs, hrun, hsz, hrep⟩ := callee_run (P := P) S hc hb
    obtain ⟨k1, k2⟩ := rdL_get hr
    have hcall := hs1 D w vs (fun b h => S.hbw b (S.hD b h)) S.hG.g (by rw [hsz, k1]) (fun j c v hcj hv => by
      obtain ⟨c0, h0, h1⟩ := k2 j c hcj
      exact rd_rep S h1 (hrep j c0 v h0 hv))
    unfold Oper.wp
    rw [hrun]
    refine hcall.mono ?_
    rintro e w' ⟨v, rfl, hB, hI⟩
    have S' := S.world hB.size (fun b hb => hB.block b hb)
    exact hk _ _ _ _ (S'.put? hp (.imm (hI.scal hsc))) (hB.mono S.hbw)
  | callT g hs hs' rs hc hb hr hs1 hsc hp =>
    intro D F a w γ bl S next Q hk
    obtain ⟨vs, hrun, hsz, hrep⟩ := callee_run (P := P) S hc hb
    obtain ⟨k1, k2⟩ := rdL_get hr
    have hcall := hs1 D w vs (fun b h => S.hbw b (S.hD b h)) S.hG.g (by rw [hsz, k1]) (fun j c v hcj hv => by
      obtain ⟨c0, h0, h1⟩ := k2 j c hcj
      exact rd_rep S h1 (hrep j c0 v h0 hv))
    unfold Oper.wp
    rw [hrun]
    refine hcall.mono ?_
    rintro e w' ⟨v, rfl, hB, us, rfl, hl, hI⟩
    have S' := S.world hB.size (fun b hb => hB.block b hb)
    exact hk _ _ _ _ (S'.put? hp (.tup hl (fun j c u hc hu => .imm ((hI j c u hc hu).scal ((scalL_iff _).1 hsc c (List.mem_of_getElem? hc)))))) (hB.mono S.hbw)
  | call1f g hs hs' L' h hc hb hr hi hs1 hp =>
    intro D F a w γ bl S next Q hk
    obtain ⟨vs, hrun, hsz, hrep⟩ := callee_run (P := P) S hc hb
    obtain ⟨S1, k1, k2⟩ := Sim.frzAll _ σ.log hs σ.n S vs.toList hr (by simpa using hsz) (fun j c v hc hv => hrep j c v hc (by rwa [Array.getElem?_toList] at hv))
    have hdlt : ∀ b, dd D L' bl b → b < w.heap.size := by
      rintro b (h | ⟨i, h1, h2⟩)
      · exact S.hbw b (S.hD b h)
      · exact (S1.hblk i b h1 h2).2
    have hcall := hs1 (dd D L' bl) w vs hdlt S.hG.g (by rw [hsz, k1]) (fun j c v hcj hv => (k2 j c v hcj (by rwa [Array.getElem?_toList])).toI ((isIL_iff _).1 hi c (List.mem_of_getElem? hcj)))
    unfold Oper.wp
    rw [hrun]
    refine hcall.mono ?_
    rintro e w' ⟨v, rfl, hB, hI⟩
    have S' := S1.world hB.size (fun b hb => hB.block b hb)
    exact hk _ _ _ _ (S'.put? hp (.imm hI)) (hB.mono S.hbw)
  | callTf g hs hs' L' rs hc hb hr hi hs1 hp =>
    intro D F a w γ bl S next Q hk
    obtain ⟨vs, hrun, hsz, hrep⟩ := callee_run (P := P) S hc hb
    obtain ⟨S1, k1, k2⟩ := Sim.frzAll _ σ.log hs σ.n S vs.toList hr (by simpa using hsz) (fun j c v hc hv => hrep j c v hc (by rwa [Array.getElem?_toList] at hv))
    have hdlt : ∀ b, dd D L' bl b → b < w.heap.size := by
      rintro b (h | ⟨i, h1, h2⟩)
      · exact S.hbw b (S.hD b h)
      · exact (S1.hblk i b h1 h2).2
    have hcall := hs1 (dd D L' bl) w vs hdlt S.hG.g (by rw [hsz, k1]) (fun j c v hcj hv => (k2 j c v hcj (by rwa [Array.getElem?_toList])).toI ((isIL_iff _).1 hi c (List.mem_of_getElem? hcj)))
    unfold Oper.wp
    rw [hrun]
    refine hcall.mono ?_
    rintro e w' ⟨v, rfl, hB, us, rfl, hl, hI⟩
    have S' := S1.world hB.size (fun b hb => hB.block b hb)
    exact hk _ _ _ _ (S'.put? hp (.tup hl (fun j c u hc hu => .imm (hI j c u hc hu)))) (hB.mono S.hbw)
  | callO g hs hs' L' d e sz es hc hb hr hi hs1 hd hp =>
    intro D F a w γ bl S next Q hk
    obtain ⟨vs, hrun, hsz, hrep⟩ := callee_run (P := P) S hc hb
    obtain ⟨S1, k1, k2⟩ := Sim.frzAll _ σ.log hs σ.n S vs.toList hr (by simpa using hsz) (fun j c v hc hv => hrep j c v hc (by rwa [Array.getElem?_toList] at hv))
    have hdlt : ∀ b, dd D L' bl b → b < w.heap.size := by
      rintro b (h | ⟨i, h1, h2⟩)
      · exact S.hbw b (S.hD b h)
      · exact (S1.hblk i b h1 h2).2
    have hcall := hs1 (dd D L' bl) w vs hdlt S.hG.g (by rw [hsz, k1]) (fun j c v hcj hv => (k2 j c v hcj (by rwa [Array.getElem?_toList])).toI ((isIL_iff _).1 hi c (List.mem_of_getElem? hcj)))
    unfold Oper.wp
    rw [hrun]
    refine hcall.mono ?_
    rintro e0 w' ⟨v, rfl, hB, hone, ob, hIL, hob, hO⟩
    have S' : Sim D F ⟨.o d (.row e sz es) :: .sub d .any .any :: L', σ.n⟩ a w' (upd γ d v) (upd bl d ob) := by
      refine Sim.lay (σ := ⟨L', σ.n⟩) S1 hB.size (fun b hb _ => hB.block b hb) (fun b hb => .inl ⟨Nat.le_of_not_lt (hob b hb).1, (hob b hb).2⟩) (fun hS hI => ?_)
      have hdd : ∀ b, b < w'.heap.size → dd D (.o d (.row e sz es) :: .sub d .any .any :: L') (upd bl d ob) b → (dd D L' bl b ∨ ob = some b) := by
        rintro b _ (h | ⟨i, h1, h2⟩)
        · exact .inl (.inl h)
        · by_cases hi : i = d
          · subst hi; rw [upd_same] at h2; exact .inr h2
          · have hi' : ¬ d = i := fun x => hi x.symm
            rw [upd_other _ _ _ i hi] at h2
            exact .inl (.inr ⟨i, by simpa [getO, hi', HObj.sub_gone] using h1, h2⟩)
      obtain ⟨q1, q2, q3⟩ := hO
      refine ⟨q1, q2, ?_⟩
      rcases q3 with ⟨z1, z2, z3⟩ | ⟨b, cap, C, fr, z1, z2, z3, z4, z5, z6, z7, z8, z9⟩
      · exact .inl ⟨z1, by rw [upd_same]; exact z2, by rw [upd_same]; exact z3⟩
      · exact .inr ⟨b, cap, C, fr, by rw [upd_same]; exact z1, by rw [upd_same]; exact z2, z3, z4, z5, z6, z7, z8, fun i j x c hx hc => by
          obtain ⟨u, hu, hr⟩ := z9 i j x c hx hc
          exact ⟨u, hu, .imm ((hr.toI ((isIL_iff _).1 (List.all_eq_true.1 hIL x (List.mem_of_getElem? hx)) c (List.mem_of_getElem? hc))).mono (Nat.le_refl _) (fun _ _ _ => rfl) hdd)⟩⟩
    refine hk _ _ _ _ (S'.put? hp ?_) (hB.mono S.hbw)
    have h2 := SRep.ref (w := w') (dead := dd D (.o d (.row e sz es) :: .sub d .any .any :: L') (upd bl d ob)) (γ := upd γ d v) (bl := upd bl d ob) d (by rw [upd_same]; exact hone)
    rw [upd_same] at h2
    exact h2
  | callM g hs hs' L' d es hc hb hr hi hs1 hd hp =>
    intro D F a w γ bl S next Q hk
    obtain ⟨vs, hrun, hsz, hrep⟩ := callee_run (P := P) S hc hb
    obtain ⟨S1, k1, k2⟩ := Sim.frzAll _ σ.log hs σ.n S vs.toList hr (by simpa using hsz) (fun j c v hc hv => hrep j c v hc (by rwa [Array.getElem?_toList] at hv))
    have hdlt : ∀ b, dd D L' bl b → b < w.heap.size := by
      rintro b (h | ⟨i, h1, h2⟩)
      · exact S.hbw b (S.hD b h)
      · exact (S1.hblk i b h1 h2).2
    have hcall := hs1 (dd D L' bl) w vs hdlt S.hG.g (by rw [hsz, k1]) (fun j c v hcj hv => (k2 j c v hcj (by rwa [Array.getElem?_toList])).toI ((isIL_iff _).1 hi c (List.mem_of_getElem? hcj)))
    unfold Oper.wp
    rw [hrun]
    refine hcall.mono ?_
    rintro e0 w' ⟨v, rfl, hB, b, rfl, hIM, hob, hbl, hO⟩
    have S' : Sim D F ⟨.o d (.map es) :: .sub d .any .any :: L', σ.n⟩ a w' (upd γ d (.map (some b))) (upd bl d (some b)) := by
      refine Sim.lay (σ := ⟨L', σ.n⟩) S1 hB.size (fun b hb _ => hB.block b hb) (fun b' hb => .inl (by cases hb; exact ⟨Nat.le_of_not_lt hob, hbl⟩)) (fun hS hI => ?_)
      have hdd : ∀ x, x < w'.heap.size → dd D (.o d (.map es) :: .sub d .any .any :: L') (upd bl d (some b)) x → (dd D L' bl x ∨ x = b) := by
        rintro x _ (h | ⟨i, h1, h2⟩)
        · exact .inl (.inl h)
        · by_cases hi : i = d
          · subst hi; rw [upd_same] at h2; exact .inr (Option.some.inj h2).symm
          · have hi' : ¬ d = i := fun x => hi x.symm
            rw [upd_other _ _ _ i hi] at h2
            exact .inl (.inr ⟨i, by simpa [getO, hi', HObj.sub_gone] using h1, h2⟩)
      obtain ⟨b', ents, clock, q1, q2, q3, q4, q5, q6⟩ := hO
      obtain rfl := Option.some.inj q1
      exact ⟨b, ents, clock, upd_same .., q2, q3, q4, q5, fun i k x e hx he => ⟨(q6 i k x e hx he).1.mono (Nat.le_refl _) (fun _ _ _ => rfl) hdd,
        .imm (((q6 i k x e hx he).2.toI (List.all_eq_true.1 hIM (k, x) (List.mem_of_getElem? hx))).mono (Nat.le_refl _) (fun _ _ _ => rfl) hdd)⟩⟩
    exact hk _ _ _ _ (S'.put? hp (.mref (upd_same ..))) (hB.mono S.hbw)
  | callR g id xs e sz es es' hc hb ho hes hi hs1 hp =>
    intro D F a w γ bl S next Q hk
    obtain ⟨vs, hrun, hsz, hrep⟩ := callee_run (P := P) S hc hb
    have hlive : getO σ.log id ≠ .gone := by rw [ho]; simp
    have hv0 : vs[0]? = some (γ id) := by
      have h0 : 0 < vs.size := by rw [hsz]; simp
      have r := hrep 0 (.ref id) vs[0] rfl (Array.getElem?_eq_getElem h0)
      have : vs[0] = γ id := r.ref_inv
      rw [Array.getElem?_eq_getElem h0, this]
    have hone : (γ id).oneCell' = true := by
      have r := hrep 0 (.ref id) _ rfl hv0
      exact r.one rfl
    have R := S.hobj id
    rw [ho] at R
    have hvs : vs = #[γ id] ++ vs.extract 1 vs.size := by
      apply Array.ext_getElem?
      intro j
      rw [Array.getElem?_append]
      split
      · next h => have : j = 0 := by simpa using h
                  subst this; simp [hv0]
      · next h =>
        have hj : 1 ≤ j := by simp at h; omega
        rw [Array.getElem?_extract]
        simp only [List.size_toArray, List.length_cons, List.length_nil, Nat.zero_add]
        rcases Nat.lt_or_ge j vs.size with h2 | h2
        · rw [if_pos (by simp; omega), show 1 + (j - 1) = j by omega]
        · rw [if_neg (by simp; omega), Array.getElem?_eq_none h2]
    have hdd : ∀ b, ((dd D σ.log bl b ∧ bl id ≠ some b) ∨ bl id = some b) ↔ dd D σ.log bl b := fun b => by
      constructor
      · rintro (⟨h, _⟩ | h)
        · exact h
        · exact .inr ⟨id, hlive, h⟩
      · intro h
        by_cases e : bl id = some b
        · exact .inr e
        · exact .inl ⟨h, e⟩
    have hdlt : ∀ b, dd D σ.log bl b → b < w.heap.size := by
      rintro b (h | ⟨i, h1, h2⟩)
      · exact S.hbw b (S.hD b h)
      · exact (S.hblk i b h1 h2).2
    have hcall := hs1 (fun b => dd D σ.log bl b ∧ bl id ≠ some b) w (γ id) (vs.extract 1 vs.size) (bl id) (fun b h => hdlt b h.1) (fun b h => fun h' => h'.2 h) ⟨fun b hb => ⟨S.hbw b (S.hG.sub b hb), fun e => (S.hblk id b hlive e).1 (S.hG.sub b hb)⟩, S.hG.g⟩ hone hes
      (ORel.dead hes (fun b _ h => (hdd b).1 h) (ORel.idx (γ' := fun _ => γ id) (bl' := fun _ => bl id) (j := 0) hes rfl rfl R)) (by simp [hsz]) (fun j c u hc hu => by
        rw [Array.getElem?_extract] at hu
        split at hu
        · rw [Nat.add_comm] at hu
          exact ((hrep (j + 1) c u (by simpa using hc) hu).toI ((isIL_iff _).1 hi c (List.mem_of_getElem? hc))).mono (Nat.le_refl _) (fun _ _ _ => rfl) (fun b _ h => (hdd b).1 h)
        · cases hu)
    rw [← hvs] at hcall
    unfold Oper.wp
    rw [hrun]
    refine hcall.mono ?_
    rintro x w' ⟨r, ob', rfl, hr1, hB, hIL, hob, hO⟩
    have S' : Sim D F ⟨.o id (.row e sz es') :: .sub id .any .any :: σ.log, σ.n⟩ a w' (upd γ id r) (upd bl id ob') := by
      refine Sim.lay S hB.size (fun b hb hne => hB.block b ⟨hb, fun h => hne ⟨hlive, h⟩⟩) (fun b hb => ?_) (fun hS hI => ?_)
      · obtain ⟨h1, h2⟩ := hob b hb
        rcases h2 with h2 | h2
        · exact .inl ⟨h2, h1⟩
        · exact .inr ⟨hlive, h2⟩
      refine ORel.idx hIL (by rw [upd_same]) (by rw [upd_same]) (ORel.dead hIL ?_ hO)
      rintro b _ (h | ⟨i, h1, h2⟩)
      · refine .inl ⟨.inl h, fun hb => ?_⟩
        exact (S.hblk id b hlive hb).1 (S.hD b h)
      · by_cases hi : i = id
        · subst hi; rw [upd_same] at h2; exact .inr h2
        · have hi' : ¬ id = i := fun x => hi x.symm
          rw [upd_other _ _ _ i hi] at h2
          have hli : getO σ.log i ≠ .gone := by simpa [getO, hi', HObj.sub_gone] using h1
          exact .inl ⟨.inr ⟨i, hli, h2⟩, fun hb => hi (S.hinj i id b hli hlive h2 hb)⟩
    refine hk _ _ _ _ (S'.put? hp ?_) ⟨hB.os, hB.tape, hB.output, hB.size, fun b hb => hB.block b ⟨S.hbw b hb, fun h => (S.hblk id b hlive h).1 hb⟩⟩
    have h2 := SRep.ref (w := w') (dead := dd D (.o id (.row e sz es') :: .sub id .any .any :: σ.log) (upd bl id ob')) (γ := upd γ id r) (bl := upd bl id ob') id (by rw [upd_same]; exact hr1)
    rw [upd_same] at h2
    exact h2
  | callS g id xs e sz es es' hc hb ho hes hi hs1 hp =>
    intro D F a w γ bl S next Q hk
    obtain ⟨vs, hrun, hsz, hrep⟩ := callee_run (P := P) S hc hb
    have hlive : getO σ.log id ≠ .gone := by rw [ho]; simp
    have hv0 : vs[0]? = some (γ id) := by
      have h0 : 0 < vs.size := by rw [hsz]; simp
      have r := hrep 0 (.ref id) vs[0] rfl (Array.getElem?_eq_getElem h0)
      have : vs[0] = γ id := r.ref_inv
      rw [Array.getElem?_eq_getElem h0, this]
    have hone : (γ id).oneCell' = true := by
      have r := hrep 0 (.ref id) _ rfl hv0
      exact r.one rfl
    have R := S.hobj id
    rw [ho] at R
    have hvs : vs = #[γ id] ++ vs.extract 1 vs.size := by
      apply Array.ext_getElem?
      intro j
      rw [Array.getElem?_append]
      split
      · next h => have : j = 0 := by simpa using h
                  subst this; simp [hv0]
      · next h =>
        have hj : 1 ≤ j := by simp at h; omega
        rw [Array.getElem?_extract]
        simp only [List.size_toArray, List.length_cons, List.length_nil, Nat.zero_add]
        rcases Nat.lt_or_ge j vs.size with h2 | h2
        · rw [if_pos (by simp; omega), show 1 + (j - 1) = j by omega]
        · rw [if_neg (by simp; omega), Array.getElem?_eq_none h2]
    have hdd : ∀ b, ((dd D σ.log bl b ∧ bl id ≠ some b) ∨ bl id = some b) ↔ dd D σ.log bl b := fun b => by
      constructor
      · rintro (⟨h, _⟩ | h)
        · exact h
        · exact .inr ⟨id, hlive, h⟩
      · intro h
        by_cases e : bl id = some b
        · exact .inr e
        · exact .inl ⟨h, e⟩
    have hdlt : ∀ b, dd D σ.log bl b → b < w.heap.size := by
      rintro b (h | ⟨i, h1, h2⟩)
      · exact S.hbw b (S.hD b h)
      · exact (S.hblk i b h1 h2).2
    have hcall := hs1 (fun b => dd D σ.log bl b ∧ bl id ≠ some b) w (γ id) (vs.extract 1 vs.size) (bl id) (fun b h => hdlt b h.1) (fun b h => fun h' => h'.2 h) ⟨fun b hb => ⟨S.hbw b (S.hG.sub b hb), fun e => (S.hblk id b hlive e).1 (S.hG.sub b hb)⟩, S.hG.g⟩ hone hes
      (ORel.dead hes (fun b _ h => (hdd b).1 h) (ORel.idx (γ' := fun _ => γ id) (bl' := fun _ => bl id) (j := 0) hes rfl rfl R)) (by simp [hsz]) (fun j c u hc hu => by
        rw [Array.getElem?_extract] at hu
        split at hu
        · rw [Nat.add_comm] at hu
          exact ((hrep (j + 1) c u (by simpa using hc) hu).toI ((isIL_iff _).1 hi c (List.mem_of_getElem? hc))).mono (Nat.le_refl _) (fun _ _ _ => rfl) (fun b _ h => (hdd b).1 h)
        · cases hu)
    rw [← hvs] at hcall
    unfold Oper.wp
    rw [hrun]
    refine hcall.mono ?_
    rintro x w' ⟨rfl, hB, hIL, hO⟩
    have S' : Sim D F ⟨.o id (.row e sz es') :: σ.log, σ.n⟩ a w' γ bl := by
      refine Sim.set S hlive (by simp) hB.size (fun b hb hne => hB.block b ⟨hb, hne⟩) (fun hS hI => ?_)
      exact ORel.idx (i := 0) (γ := fun _ => γ id) (bl := fun _ => bl id) hIL rfl rfl (ORel.dead hIL (fun b _ h => (hdd b).2 h) hO)
    exact hk _ _ _ _ (S'.put? hp (.any _)) ⟨hB.os, hB.tape, hB.output, hB.size, fun b hb => hB.block b ⟨S.hbw b hb, fun h => (S.hblk id b hlive h).1 hb⟩⟩
  | callX g vs hs id V ob e sz es es' h hc ho hes hi hs1 hp =>
    intro D F a w γ bl S next Q hk
    obtain ⟨us, hrun, hsz, hrep⟩ := calleeX_run (P := P) S hc
    have hlive : getO σ.log id ≠ .gone := by rw [ho]; simp
    have R := S.hobj id
    rw [ho] at R
    obtain ⟨⟨rfl, rfl⟩, R⟩ := R
    have hone : (γ id).oneCell' = true := by
      rcases R.2.2 with ⟨_, ⟨A, hA⟩, _⟩ | ⟨b, cap, C, fr, h1, _⟩
      · rw [hA]; rfl
      · rw [h1]; rfl
    have hdd : ∀ b, ((dd D σ.log bl b ∧ bl id ≠ some b) ∨ bl id = some b) ↔ dd D σ.log bl b := fun b => by
      constructor
      · rintro (⟨h, _⟩ | h)
        · exact h
        · exact .inr ⟨id, hlive, h⟩
      · intro h
        by_cases e : bl id = some b
        · exact .inr e
        · exact .inl ⟨h, e⟩
    have hdlt : ∀ b, dd D σ.log bl b → b < w.heap.size := by
      rintro b (h | ⟨i, h1, h2⟩)
      · exact S.hbw b (S.hD b h)
      · exact (S.hblk i b h1 h2).2
    have R' : ORel w (dd D σ.log bl) γ bl id (.row e sz es) := R
    have hdoes := hs1 (fun b => dd D σ.log bl b ∧ bl id ≠ some b) w us (fun b h => hdlt b h.1) ⟨fun b hb => ⟨S.hbw b (S.hG.sub b hb), fun e => (S.hblk id b hlive e).1 (S.hG.sub b hb)⟩, S.hG.g⟩
      ⟨hone, hes, fun b hb => ⟨fun h => h.2 hb, (S.hblk id b hlive hb).2⟩, ORel.dead hes (fun b _ h => (hdd b).1 h) (ORel.idx (γ' := fun _ => γ id) (bl' := fun _ => bl id) (j := 0) hes rfl rfl R')⟩ hsz (fun j c u hcj hu =>
        ((hrep j c u hcj hu).toI ((isIL_iff _).1 hi c (List.mem_of_getElem? hcj))).mono (Nat.le_refl _) (fun _ _ _ => rfl) (fun b _ h => (hdd b).1 h))
    have fin : ∀ r w', Kept (fun b => b < w.heap.size ∧ bl id ≠ some b) w w' → RowW w' (fun b => dd D σ.log bl b ∧ bl id ≠ some b) (γ id) (bl id) e sz es' → IRep w' (fun b => (dd D σ.log bl b ∧ bl id ≠ some b) ∨ bl id = some b) h r → next (a.put o.dst r) w' := by
      intro r w' hB hW hI
      obtain ⟨_, hIL, _, hO⟩ := hW
      have S' : Sim D F ⟨.o id (.prow (γ id) (bl id) e sz es') :: σ.log, σ.n⟩ a w' γ bl := by
        refine Sim.set S hlive (by simp) hB.size (fun b hb hne => hB.block b ⟨hb, hne⟩) (fun hS hI => ?_)
        exact ⟨⟨rfl, rfl⟩, ORel.idx (i := 0) (γ := fun _ => γ id) (bl := fun _ => bl id) hIL rfl rfl (ORel.dead hIL (fun b _ h => (hdd b).2 h) hO)⟩
      have hdd2 : ∀ b, dd D (.o id (.prow (γ id) (bl id) e sz es') :: σ.log) bl b → dd D σ.log bl b := by
        rintro b (h | ⟨i, h1, h2⟩)
        · exact .inl h
        · by_cases e : id = i
          · subst e; exact .inr ⟨id, hlive, h2⟩
          · exact .inr ⟨i, by simpa [getO, e] using h1, h2⟩
      exact hk _ _ _ _ (S'.put? hp (.imm (hI.mono (Nat.le_refl _) (fun _ _ _ => rfl) (fun b _ h => (hdd b).2 (hdd2 b h))))) ⟨hB.os, hB.tape, hB.output, hB.size, fun b hb => hB.block b ⟨S.hbw b hb, fun h => (S.hblk id b hlive h).1 hb⟩⟩
    unfold Oper.wp
    rw [hrun]
    rcases hdoes with ⟨hb, hcall⟩ | ⟨r, w', hr, hB, hW, hI⟩
    · rw [callFunc_run hb]
      refine hcall.mono ?_
      rintro x w' ⟨r, rfl, hB, hW, hI⟩
      exact fin r w' hB hW hI
    · rw [hr]
      exact fin r w' hB hW hI
  | callSt g gl r B V ob e sz es es' t hc hbody hr hB hes hs1 hp =>
    rename_i G0
    intro D F a w γ bl S next Q hk
    have hRl : getO σ.log r ≠ .gone := by rw [hr]; simp
    have hBl : getO σ.log B ≠ .gone := by rw [hB]; simp
    have hne : r ≠ B := by rintro rfl; rw [hr] at hB; cases hB
    have R := S.hobj r
    rw [hr] at R
    obtain ⟨⟨rfl, rfl⟩, R⟩ := R
    have RB := S.hobj B
    rw [hB] at RB
    obtain ⟨bB, C, eB, b1, b2, b3, b4, b5⟩ := RB
    have hob : bl r ≠ some bB := fun h => hne (S.hinj r B bB hRl hBl h b1)
    have hone : (γ r).oneCell' = true := by
      rcases R.2.2 with ⟨_, ⟨A, hA⟩, _⟩ | ⟨b, cap, C, fr, h1, _⟩
      · rw [hA]; rfl
      · rw [h1]; rfl
    have hCs : C.size = 1 := b3
    have hC0 : C[0]? = some (γ r) := by
      have h := Array.getElem?_eq_getElem (show 0 < C.size by omega)
      have := b5 0 (.ref r) _ rfl h
      rw [h, this.ref_inv]
    have hcell : w.cell? ⟨bB, 0, none⟩ = some (γ r) := by simp [World.cell?, b2, hC0]
    obtain ⟨vs, hrun, hsz, hrep⟩ := callee_run (P := P) S hc hbody
    have h0 := Array.getElem?_eq_getElem (show 0 < vs.size by rw [hsz]; simp)
    have h1 := Array.getElem?_eq_getElem (show 1 < vs.size by rw [hsz]; simp)
    have e0 : vs[0]? = some (.iface t (γ r)) := by rw [h0, (hrep 0 _ _ rfl h0).lit_inv]
    have e1 : vs[1]? = some (.func (.func gl) #[] #[.pointer (some ⟨bB, 0, none⟩)]) := by
      have rr := hrep 1 _ _ rfl h1
      rw [h1]
      have : ∀ (caps : List HV) (us : Array Value), us.size = caps.length → caps = [.ptr B 0] → (∀ (j : Nat) (c : HV) (u : Value), caps[j]? = some c → us[j]? = some u → SRep w (dd D σ.log bl) γ bl c u) → us = #[.pointer (some ⟨bB, 0, none⟩)] := by
        intro caps us hl hcap hh
        subst hcap
        have g0 := Array.getElem?_eq_getElem (show 0 < us.size by rw [hl]; simp)
        have hp0 := hh 0 _ _ rfl g0
        have hp1 : us[0]'(by rw [hl]; simp) = .pointer (some ⟨bB, 0, none⟩) := by
          generalize us[0]'(by rw [hl]; simp) = v at hp0
          cases hp0 with
          | imm hi => cases hi
          | ptr hb => rw [b1] at hb; cases hb; rfl
        apply Array.ext_getElem?
        intro k
        match k with
        | 0 => rw [g0, hp1]; rfl
        | k + 1 => rw [Array.getElem?_eq_none (by rw [hl]; simp), Array.getElem?_eq_none (by simp)]
      generalize vs[1]'(by rw [hsz]; simp) = v at rr
      cases rr with
      | imm hi => cases hi with | fn hl hh => exact congrArg _ (congrArg _ (this _ _ hl rfl fun j c u hc hu => .imm (hh j c u hc hu)))
      | fn hl hh => exact congrArg _ (congrArg _ (this _ _ hl rfl hh))
    obtain rfl : vs = #[.iface t (γ r), .func (.func gl) #[] #[.pointer (some ⟨bB, 0, none⟩)]] := by
      apply Array.ext_getElem?
      intro k
      match k with
      | 0 => rw [e0]; rfl
      | 1 => rw [e1]; rfl
      | k + 2 => rw [Array.getElem?_eq_none (by rw [hsz]; simp), Array.getElem?_eq_none (by simp)]
    have hdd : ∀ b, ((dd D σ.log bl b ∧ bl r ≠ some b) ∨ bl r = some b) ↔ dd D σ.log bl b := fun b => by
      constructor
      · rintro (⟨h, _⟩ | h)
        · exact h
        · exact .inr ⟨r, hRl, h⟩
      · intro h
        by_cases e : bl r = some b
        · exact .inr e
        · exact .inl ⟨h, e⟩
    have hdlt : ∀ b, dd D σ.log bl b → b < w.heap.size := by
      rintro b (h | ⟨i, h1, h2⟩)
      · exact S.hbw b (S.hD b h)
      · exact (S.hblk i b h1 h2).2
    have R' : ORel w (dd D σ.log bl) γ bl r (.row e sz es) := R
    have hgok : @GOK (GI.box G0 bB (γ r)) (fun b => b < w.heap.size ∧ bl r ≠ some b) w := by
      refine @GOK.mk (GI.box G0 bB (γ r)) _ _ (fun b hb => ?_) ⟨S.hG.g, hcell⟩
      rcases hb with hb | rfl
      · exact ⟨S.hbw b (S.hG.sub b hb), fun e => (S.hblk r b hRl e).1 (S.hG.sub b hb)⟩
      · exact ⟨(S.hblk B _ hBl b1).2, hob⟩
    have hdoes := hs1 bB hob (fun b => dd D σ.log bl b ∧ bl r ≠ some b) w #[.iface t (γ r), .func (.func gl) #[] #[.pointer (some ⟨bB, 0, none⟩)]] (fun b h => hdlt b h.1) hgok
      ⟨hone, hes, fun b hb => ⟨fun h => h.2 hb, (S.hblk r b hRl hb).2⟩, ORel.dead hes (fun b _ h => (hdd b).1 h) (ORel.idx (γ' := fun _ => γ r) (bl' := fun _ => bl r) (j := 0) hes rfl rfl R')⟩ rfl (fun j c u hcj hu => by
        match j with
        | 0 => simp at hcj hu; subst hcj; subst hu; exact .lit _
        | 1 => simp at hcj hu; subst hcj; subst hu; exact .lit _
        | j + 2 => simp at hcj)
    rw [Array.append_empty] at hdoes
    have fin : ∀ x w', Kept (fun b => b < w.heap.size ∧ bl r ≠ some b) w w' → ORel w' (fun b => (dd D σ.log bl b ∧ bl r ≠ some b) ∨ bl r = some b) (fun _ => γ r) (fun _ => bl r) 0 (.row e sz es') → isILL es' = true → next (a.put o.dst x) w' := by
      intro x w' hB' hO hIL
      have S' : Sim D F ⟨.o r (.row e sz es') :: σ.log, σ.n⟩ a w' γ bl := by
        refine Sim.set S hRl (by simp) hB'.size (fun b hb hne => hB'.block b ⟨hb, hne⟩) (fun hS hI => ?_)
        exact ORel.idx (i := 0) (γ := fun _ => γ r) (bl := fun _ => bl r) hIL rfl rfl (ORel.dead hIL (fun b _ h => (hdd b).2 h) hO)
      exact hk _ _ _ _ (S'.put? hp (.any _)) ⟨hB'.os, hB'.tape, hB'.output, hB'.size, fun b hb => hB'.block b ⟨S.hbw b hb, fun h => (S.hblk r b hRl h).1 hb⟩⟩
    unfold Oper.wp
    rw [hrun]
    rcases hdoes with ⟨hb, hcall⟩ | ⟨x, w', hx, hB', hW, hI⟩
    · refine hcall.mono ?_
      rintro y w' ⟨x, rfl, hB', hW, hI⟩
      exact fin x w' hB' hW.2.2.2 hW.2.1
    · rw [callFunc_run hbody] at hx; cases hx
end Go.Hv
