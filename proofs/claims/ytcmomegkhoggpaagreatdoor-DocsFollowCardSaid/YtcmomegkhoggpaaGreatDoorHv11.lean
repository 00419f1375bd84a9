import Derived.Test.YtcmomegkhoggpaaGreatDoorHv10
set_option linter.unusedVariables false
set_option linter.unusedSectionVars false
set_option linter.unusedSimpArgs false
namespace Go.Hv
open Go Go.RowKit
variable [GI]
variable {P : Program} {D : Nat → Prop} {F : Nat → Prop} {σ : HS} {a : Act} {w : World} {γ : Nat → Value} {bl : Nat → Option Nat}

/-! ### Operations that only reckon or read -/
def fieldAddrHV (P : Program) (s j : Nat) (x : HV) : Option HV :=
 match fdInfo P s j with
 | some (off, _, _) => match x with
  | .ptr id o => some (.ptr id (o + off))
  | .cptr cs => some (.cptr (cs.drop off))
  | _ => none
 | none => none
def fieldHV (P : Program) (s j : Nat) (x : HV) : Option HV :=
 match fdInfo P s j with
 | some (off, n, ag) => match x with
  | .agg cs => if off + n ≤ cs.length then ofCells ag ((cs.drop off).take n) else none
  | _ => none
 | none => none
def indexAddrHV (P : Program) (L : List Ev) (t : Nat) (x i : HV) : Option HV :=
 match i with
 | .lit (.int _ i) => match slInfo P t with
  | some (_, sz, _) => match x with
   | .sl sz' _ es => if 0 ≤ i ∧ i < es.length ∧ sz' = sz then some (.cptr (es.getD i.toNat [])) else none
   | .ref id => match getO L id with
    | .row _ sz' es => if 0 ≤ i ∧ i < es.length ∧ sz' = sz then some (.ptr id (i.toNat * sz)) else none
    | _ => none
   | .view id lo n => if 0 ≤ i ∧ i < n then some (.ptr id (lo + i.toNat * sz)) else none
   | _ => none
  | none => match arInfo P t with
   | some (n, _, sz) => match x with
    | .ptr id off => if 0 ≤ i ∧ i < n then some (.ptr id (off + i.toNat * sz)) else none
    | .cptr cs => if 0 ≤ i ∧ i < n then some (.cptr (cs.drop (i.toNat * sz))) else none
    | _ => none
   | none => none
 | _ => none
def indexHV (P : Program) (t : Nat) (x i : HV) : Option HV :=
 match x, i with
 | .str l, .lit (.int _ i) => match tk P t with
  | some .string => if 0 ≤ i ∧ i < l.length then some (.lit (.int .u8 ((l.getD i.toNat 0).toNat : Int))) else none
  | _ => none
 | _, _ => none
def extractHV (x : HV) (i : Nat) : Option HV :=
 match x with
 | .tup cs => cs[i]?
 | _ => none
def boundOf (L : List Ev) : Option Operand → Option (Option Int)
 | none => some none
 | some x => match opd L x with
  | .lit (.int _ i) => some (some i)
  | _ => none
def sliceStrHV (P : Program) (t : Nat) (x : HV) (lo hi : Option Int) (mx : Bool) : Option HV :=
 match x, tk P t with
 | .str l, some .string => if mx = false ∧ 0 ≤ lo.getD 0 ∧ lo.getD 0 ≤ hi.getD l.length ∧ hi.getD l.length ≤ l.length then some (.str ((l.take (hi.getD l.length).toNat).drop (lo.getD 0).toNat)) else none
 | _, _ => none
def sliceSlHV (P : Program) (t : Nat) (x : HV) (lo hi mx : Option Int) : Option HV :=
 match x, slInfo P t with
 | .sl sz' full es, some (_, sz, _) =>
  if (sz' = sz ∨ es = []) ∧ 0 ≤ lo.getD 0 ∧ lo.getD 0 ≤ hi.getD es.length ∧ hi.getD es.length ≤ es.length ∧ (mx = none ∨ (hi ≠ none ∧ mx = hi)) then
   some (.sl sz (mx.isSome || (full && decide (hi.getD es.length = es.length))) ((es.take (hi.getD es.length).toNat).drop (lo.getD 0).toNat))
  else none
 | _, _ => none
def nilCheckHV : HV → Option HV
 | .ptr i o => some (.ptr i o)
 | .cptr cs => some (.cptr cs)
 | .fn (.func f) c => some (.fn (.func f) c)
 | _ => none
def lenHV (L : List Ev) (t : Option TK) (x : HV) : Option HV :=
 match x, t with
 | .str l, some .string => some (.lit (.int .i64 l.length))
 | .view _ _ n, _ => some (.lit (.int .i64 n))
 | x, _ => match rowOf L x with
  | some (_, es) => some (.lit (.int .i64 es.length))
  | none => none
def convertHV (P : Program) (L : List Ev) (src dst : Nat) (x : HV) : Option HV :=
 match tk P src, tk P dst, x with
 | some _, some (.int k), .lit (.int _ n) => some (.lit (.int k (k.wrap n)))
 | some .string, some .string, .str l => some (.str l)
 | some .bytes, some .string, x => match bytesOfHV L x with
  | some l => some (.str l)
  | none => none
 | _, _, _ => none

theorem extract_run {cs : List HV} {i : Nat} {h : HV} {dead : Nat → Prop} {v : Value} (e : extractHV (.tup cs) i = some h) (r : SRep w dead γ bl (.tup cs) v) : ∃ u, (Instr.extract v i).run P w = .ok u w ∧ SRep w dead γ bl h u := by
 simp only [extractHV] at e
 cases r with
 | imm hi => cases hi
 | @tup _ vs hl hh =>
  have hi := getElem?_lt e
  have hv : vs[i]? = some (vs[i]'(by omega)) := Array.getElem?_eq_getElem (by omega)
  exact ⟨_, by simp [Instr.extract, hv], hh i h _ e hv⟩

theorem fieldAddr_run (S : Sim D F σ a w γ bl) {s j : Nat} {x h : HV} {v : Value} (e : fieldAddrHV P s j x = some h) (r : SRep w (dd D σ.log bl) γ bl x v) : ∃ u, (Instr.fieldAt s v j).run P w = .ok u w ∧ SRep w (dd D σ.log bl) γ bl h u := by
 unfold fieldAddrHV at e
 split at e
 ·next off n ag hf =>
  unfold fdInfo at hf
  split at hf
  ·next fs hu =>
   split at hf
   ·next f hfj =>
    split at hf
    ·next i d hi hd =>
     split at hf
     ·cases hf
     ·next hsz =>
      simp only [Option.some.injEq, Prod.mk.injEq] at hf
      obtain ⟨rfl, rfl, rfl⟩ := hf
      have hrun : ∀ (b o : Nat), (Instr.fieldAt s (.pointer (some ⟨b, o, none⟩)) j).run P w = .ok (.pointer (some ⟨b, o + f.offset, none⟩)) w := by
       intro b o
       unfold Instr.fieldAt
       rw [Sem.run_bind, run_underlying hu, Result.andThen_ok]
       simp only [hfj, Instr.sureAddr, Sem.run_bind, Sem.run_pure, Result.andThen_ok, fieldPlace, run_sizeOf_some hi]
       rw [if_neg hsz]
       simp [add_at]
      split at e
      ·next id o =>
       simp only [Option.some.injEq] at e
       subst e
       cases r with
       | imm hi => cases hi
       | ptr hb => exact ⟨_, hrun _ _, .ptr hb⟩
      ·next cs =>
       simp only [Option.some.injEq] at e
       subst e
       cases r with
       | imm hi =>
        cases hi with
        | @cptr _ b o g hb hbl hc h1 h =>
         refine ⟨_, hrun _ _, .imm (.cptr (fun k => g (f.offset + k)) hb hbl (fun k hk => ?_) (fun k hk => ?_) (fun k c hk => ?_))⟩
         ·have := hc (f.offset + k) (by simp at hk; omega)
          rwa [← Nat.add_assoc] at this
         ·exact h1 _ (by simp at hk; omega)
         ·rw [List.getElem?_drop] at hk; exact h _ c hk
      ·cases e
    ·cases hf
   ·cases hf
  ·cases hf
 ·cases e

theorem indexAddr_run (S : Sim D F σ a w γ bl) {t : Nat} {x y h : HV} {v u : Value} (e : indexAddrHV P σ.log t x y = some h) (rx : SRep w (dd D σ.log bl) γ bl x v) (ry : SRep w (dd D σ.log bl) γ bl y u) :
  ∃ r, (Instr.indexAt t v u).run P w = .ok r w ∧ SRep w (dd D σ.log bl) γ bl h r := by
 unfold indexAddrHV at e
 split at e
 ·next k i =>
  cases ry.lit_inv
  split at e
  ·next e0 sz by_ hT =>
   obtain ⟨inf, ht, hi, rfl, rfl, hsz⟩ := slInfo_some hT
   have hrun : ∀ (b o len cap : Nat), 0 ≤ i → i < len → (Instr.indexAt t (.slice (some ⟨b, o, none⟩) len cap) (.int k i)).run P w = .ok (.pointer (some ⟨b, o + i.toNat * inf.size, none⟩)) w := by
    intro b o len cap h0 h1
    unfold Instr.indexAt
    simp only [asIntOf, Sem.run_bind, Sem.run_pure, Result.andThen_ok, run_underlying ht]
    by_cases hl : decide (len ≤ 1) = true
    ·simp [hl, run_underlying ht, h0, h1, run_sizeOf_some hi, add_at]
    ·simp [hl, run_underlying ht, h0, h1, run_sizeOf_some hi, add_at]
   cases x with
   | sl sz' f es =>
    simp only [Option.ite_none_right_eq_some, Option.some.injEq] at e
    obtain ⟨⟨h0, h1, rfl⟩, rfl⟩ := e
    have hlt : i.toNat < es.length := by omega
    have hg : es[i.toNat]? = some (es.getD i.toNat []) := by simp [List.getD, List.getElem?_eq_getElem hlt]
    cases rx with
    | imm hI =>
     cases hI with
     | nil => simp at hlt
     | @sl _ _ _ cap b off g hsz' hc hf hb hbl hcell hone hh =>
      refine ⟨_, hrun _ _ _ _ h0 h1, .imm (.cptr (fun j => g i.toNat j) hb hbl (fun j hj => ?_) (fun j hj => ?_) (fun j c hc => hh _ _ _ c hg hc))⟩
      ·have hl := hsz' _ (List.mem_of_getElem? hg)
       have := hcell i.toNat j hlt (by omega)
       rwa [← Nat.add_assoc] at this
      ·have hl := hsz' _ (List.mem_of_getElem? hg)
       exact hone _ _ hlt (by omega)
   | ref id =>
    cases ho : getO σ.log id with
    | row e1 sz' es =>
     simp only [ho, Option.ite_none_right_eq_some, Option.some.injEq] at e
     obtain ⟨⟨h0, h1, rfl⟩, rfl⟩ := e
     have R := S.hobj id
     rw [ho] at R
     obtain ⟨hz, hl, R⟩ := R
     cases rx with
     | imm hI => cases hI
     | ref _ hone =>
      rcases R with ⟨rfl, _⟩ | ⟨b, cap, C, fr, g1, g2, _⟩
      ·simp at h1; omega
      ·rw [g1]
       have := hrun b 0 es.length cap h0 h1
       rw [Nat.zero_add] at this
       exact ⟨_, this, .ptr g2⟩
    | gone => simp [ho] at e
    | box cs => simp [ho] at e
    | map es => simp [ho] at e
    | iter es left last => simp [ho] at e
    | prow V0 ob0 t0 z0 es0 => simp [ho] at e
    | mapb es0 bs0 ck0 => simp [ho] at e
   | view id lo n =>
    simp only [Option.ite_none_right_eq_some, Option.some.injEq] at e
    obtain ⟨⟨h0, h1⟩, rfl⟩ := e
    cases rx with
    | imm hI => cases hI
    | view h =>
     obtain ⟨b, hb, rfl⟩ := h (by omega)
     exact ⟨_, hrun _ _ _ _ h0 h1, .ptr hb⟩
   | _ => simp at e
  ·split at e
   ·next n e0 sz hT =>
    obtain ⟨inf, ht, hi, rfl, hsz, hn⟩ := arInfo_some hT
    have hrun : ∀ (b o : Nat), 0 ≤ i → i < n → (Instr.indexAt t (.pointer (some ⟨b, o, none⟩)) (.int k i)).run P w = .ok (.pointer (some ⟨b, o + i.toNat * inf.size, none⟩)) w := by
     intro b o h0 h1
     unfold Instr.indexAt
     have hl : decide (n ≤ 1) = false := by simp; omega
     simp [asIntOf, run_underlying ht, Instr.sureAddr, hl, h0, h1, run_sizeOf_some hi, add_at]
    cases x with
    | ptr id off =>
     simp only [Option.ite_none_right_eq_some, Option.some.injEq] at e
     obtain ⟨⟨h0, h1⟩, rfl⟩ := e
     cases rx with
     | imm hI => cases hI
     | ptr hb => exact ⟨_, hrun _ _ h0 h1, .ptr hb⟩
    | cptr cs =>
     simp only [Option.ite_none_right_eq_some, Option.some.injEq] at e
     obtain ⟨⟨h0, h1⟩, rfl⟩ := e
     cases rx with
     | imm hI =>
      cases hI with
      | @cptr _ b o g hb hbl hc hone hh =>
       refine ⟨_, hrun _ _ h0 h1, .imm (.cptr (fun j => g (i.toNat * inf.size + j)) hb hbl (fun j hj => ?_) (fun j hj => ?_) (fun j c hc => ?_))⟩
       ·have := hc (i.toNat * inf.size + j) (by simp at hj; omega)
        rwa [← Nat.add_assoc] at this
       ·exact hone _ (by simp at hj; omega)
       ·rw [List.getElem?_drop] at hc; exact hh _ c hc
    | _ => simp at e
   ·cases e
 ·cases e

theorem index_run {t : Nat} {x y h : HV} {dead : Nat → Prop} {v u : Value} (e : indexHV P t x y = some h) (rx : SRep w dead γ bl x v) (ry : SRep w dead γ bl y u) :
  ∃ r, (Instr.index t v u).run P w = .ok r w ∧ SRep w dead γ bl h r := by
 unfold indexHV at e
 split at e
 ·next l k i =>
  cases ry.lit_inv; cases rx.str_inv
  split at e
  ·next ht =>
   obtain ⟨d, hu, hd⟩ := tk_some ht
   simp only at hd
   subst hd
   simp only [Option.ite_none_right_eq_some, Option.some.injEq] at e
   obtain ⟨⟨h0, h1⟩, rfl⟩ := e
   have hlt : i.toNat < l.length := by omega
   refine ⟨_, ?_, .imm (.lit _)⟩
   unfold Instr.index
   have hs : (⟨l.toArray⟩ : ByteArray)[i.toNat]? = some (l.getD i.toNat 0) := by
    have : i.toNat < (⟨l.toArray⟩ : ByteArray).size := hlt
    rw [getElem?_pos (⟨l.toArray⟩ : ByteArray) i.toNat this]
    simp [List.getD, List.getElem?_eq_getElem hlt]
    rfl
   simp [asIntOf, run_underlying hu, h0, hs]
  ·cases e
 ·cases e
end Go.Hv
