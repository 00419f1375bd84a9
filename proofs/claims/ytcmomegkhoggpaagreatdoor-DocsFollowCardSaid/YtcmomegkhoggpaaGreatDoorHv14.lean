import Derived.Test.YtcmomegkhoggpaaGreatDoorHvM
set_option linter.unusedVariables false
set_option linter.unusedSectionVars false
set_option linter.unusedSimpArgs false
namespace Go.Hv
open Go Go.RowKit
variable [GI]
variable {P : Program} {D : Nat → Prop} {F : Nat → Prop} {σ : HS} {a : Act} {w : World} {γ : Nat → Value} {bl : Nat → Option Nat}

def loadHV (P : Program) (L : List Ev) (t : Nat) (p : HV) : Option HV :=
 match agInfo P t with
 | some (ag, n) => match cellsAt L p n with
  | some cs => ofCells ag cs
  | none => none
 | none => none
def buildHV (P : Program) (t : Nat) (parts : List (Nat × HV)) : Option HV :=
 match zeroHV P t, places P t with
 | some zs, some ps => (fillHV (ps[·]?) zs parts).map .agg
 | _, _ => none
def sliceHV (P : Program) (L : List Ev) (t : Nat) (x : HV) (lo hi mx : Option Operand) : Option HV :=
 match boundOf L lo, boundOf L hi, boundOf L mx with
 | some l, some h, some m => match x with
  | .str s => sliceStrHV P t (.str s) l h m.isSome
  | .sl a b c => sliceSlHV P t (.sl a b c) l h m
  | _ => none
 | _, _, _ => none
def minHV : HV → HV → Option HV
 | .lit (.int k x), .lit (.int _ y) => some (.lit (.int k (if y < x then y else x)))
 | _, _ => none
def maxHV : HV → HV → Option HV
 | .lit (.int k x), .lit (.int _ y) => some (.lit (.int k (if x < y then y else x)))
 | _, _ => none
def builtinHV (P : Program) (L : List Ev) (b : Builtin) (args : List HV) (ts : List TypeId) : Option HV :=
 match b, args, ts with
 | .len, [x], [t] => if lenOK P t x then lenHV L (tk P t) x else mapLenHV P L t x
 | .min, [x, y], _ => minHV x y
 | .max, [x, y], _ => maxHV x y
 | _, _, _ => none

noncomputable def evV (P : Program) (L : List Ev) (op : Op) : Option HV :=
 match op with
 | .move x => some (opd L x)
 | .assign x => some (opd L x)
 | .pick c a b => match opd L c with
  | .lit (.bool t) => some (pickHV t (opd L a) (opd L b))
  | _ => none
 | .binOp op t x y _ => match evBin (match tk P t with | some .bool => true | _ => false) op (opd L x) (opd L y) with
  | some h => some h
  | none => evAgg P op t (opd L x) (opd L y)
 | .unOp op _ x => evUn op (opd L x)
 | .convert s d x => convertHV P L s d (opd L x)
 | .nilCheck x => nilCheckHV (opd L x)
 | .fieldAddr s x j => fieldAddrHV P s j (opd L x)
 | .field s x j => fieldHV P s j (opd L x)
 | .indexAddr t x i => indexAddrHV P L t (opd L x) (opd L i)
 | .index t x i => indexHV P t (opd L x) (opd L i)
 | .extract x i => extractHV (opd L x) i
 | .load t p => loadHV P L t (opd L p)
 | .lookup t x k ok => lookupHV P L t (opd L x) (opd L k) ok
 | .entry x => entryHV L (opd L x)
 | .slice t x lo hi mx => sliceHV P L t (opd L x) lo hi mx
 | .build t parts => buildHV P t (parts.toList.map fun p => (p.1, opd L p.2))
 | .makeFunc f first cap => if first.size = 0 then some (.fn f (cap.toList.map (opd L))) else none
 | .call c => match c.callee with
  | .builtin b => builtinHV P L b (c.args.toList.map (opd L)) c.argTypes.toList
  | _ => none
 | _ => none

theorem Result_value {s : Sem Value} {v : Value} (h : s.run P w = .ok v w) : (do pure (Next.value (← s)) : Sem Next).run P w = .ok (.value v) w := by
 rw [Sem.run_bind, h]; rfl

theorem max2_run {k k' : IntKind} {x y : Int} : (Builtin.max2 (.int k x) (.int k' y)).run P w = .ok (.int k (if x < y then y else x)) w := rfl
theorem min2_run {k k' : IntKind} {x y : Int} : (Builtin.min2 (.int k x) (.int k' y)).run P w = .ok (.int k (if y < x then y else x)) w := rfl

theorem evV_run (S : Sim D F σ a w γ bl) {o : Oper} {h : HV} (e : evV P σ.log o.op = some h) : ∃ v, (execOp a.eval o).run P w = .ok (.value v) w ∧ SRep w (dd D σ.log bl) γ bl h v := by
 unfold evV at e
 split at e
 ·next x ho => simp only [Option.some.injEq] at e; subst e; exact ⟨a.eval x, by simp only [execOp, ho]; rfl, S.opd x⟩
 ·next x ho => simp only [Option.some.injEq] at e; subst e; exact ⟨a.eval x, by simp only [execOp, ho]; rfl, S.opd x⟩
 ·next c x y ho =>
  split at e
  ·next t hc =>
   simp only [Option.some.injEq] at e
   subst e
   have := S.opd c
   rw [hc] at this
   exact ⟨_, by simp only [execOp, ho, this.lit_inv, asBool]; rfl, pickHV_rep (S.opd x) (S.opd y)⟩
  ·cases e
 ·next op t x y yt ho =>
  split at e
  ·next h' hb =>
   simp only [Option.some.injEq] at e
   subst e
   obtain ⟨v, hr, hv⟩ := evBin_ok (P := P) (t := t) hb (fun h => by
    split at h
    ·next ht => obtain ⟨d, hu, hd⟩ := tk_some ht; simp only at hd; subst hd; exact hu
    ·cases h) (S.opd x) (S.opd y) x y
   exact ⟨v, by simp only [execOp, ho]; exact Result_value hr, hv⟩
  ·obtain ⟨v, hr, hv⟩ := evAgg_ok (P := P) e (S.opd x) (S.opd y) x y
   exact ⟨v, by simp only [execOp, ho]; exact Result_value hr, hv⟩
 ·next op t x ho =>
  obtain ⟨v, hr, hv⟩ := evUn_ok (P := P) e (S.opd x)
  exact ⟨v, by simp only [execOp, ho]; exact Result_value hr, hv⟩
 ·next s d x ho =>
  obtain ⟨v, hr, hv⟩ := convert_run S e (S.opd x)
  exact ⟨v, by simp only [execOp, ho]; exact Result_value hr, hv⟩
 ·next x ho =>
  have r := S.opd x
  unfold nilCheckHV at e
  split at e
  ·next i of hx =>
   rw [hx] at r
   simp only [Option.some.injEq] at e
   subst e
   generalize hv : a.eval x = v at r
   cases r with
   | imm hi => cases hi
   | ptr hb => exact ⟨_, by simp only [execOp, ho, hv]; rfl, .ptr hb⟩
  ·next cs hx =>
   rw [hx] at r
   simp only [Option.some.injEq] at e
   subst e
   generalize hv : a.eval x = v at r
   cases r with
   | imm hi =>
    cases hi with
    | cptr f hb hbl hc h1 h => exact ⟨_, by simp only [execOp, ho, hv]; rfl, .imm (.cptr f hb hbl hc h1 h)⟩
  ·next f c hx =>
   rw [hx] at r
   simp only [Option.some.injEq] at e
   subst e
   generalize hv : a.eval x = v at r
   cases r with
   | imm hi => cases hi with | fn hl h => exact ⟨_, by simp only [execOp, ho, hv]; rfl, .imm (.fn hl h)⟩
   | fn hl h => exact ⟨_, by simp only [execOp, ho, hv]; rfl, .fn hl h⟩
  ·cases e
 ·next s x j ho =>
  obtain ⟨v, hr, hv⟩ := fieldAddr_run S e (S.opd x)
  exact ⟨v, by simp only [execOp, ho]; exact Result_value hr, hv⟩
 ·next s x j ho =>
  obtain ⟨v, hr, hv⟩ := field_run (P := P) e (S.opd x)
  exact ⟨v, by simp only [execOp, ho]; exact Result_value hr, hv⟩
 ·next t x i ho =>
  obtain ⟨v, hr, hv⟩ := indexAddr_run S e (S.opd x) (S.opd i)
  exact ⟨v, by simp only [execOp, ho]; exact Result_value hr, hv⟩
 ·next t x i ho =>
  obtain ⟨v, hr, hv⟩ := index_run (P := P) e (S.opd x) (S.opd i)
  exact ⟨v, by simp only [execOp, ho]; exact Result_value hr, hv⟩
 ·next x i ho =>
  have r := S.opd x
  cases hx : opd σ.log x with
  | tup cs =>
   rw [hx] at e r
   obtain ⟨v, hr, hv⟩ := extract_run (P := P) e r
   exact ⟨v, by simp only [execOp, ho]; exact Result_value hr, hv⟩
  | _ => rw [hx] at e; simp [extractHV] at e
 ·next t p ho =>
  unfold loadHV at e
  split at e
  ·next ag n hI =>
   split at e
   ·next cs hc =>
    obtain ⟨v, hr, hv⟩ := load_rep (P := P) hI S hc e (S.opd p)
    exact ⟨v, by simp only [execOp, ho]; exact Result_value hr, hv⟩
   ·cases e
  ·cases e
 ·next t x k ok ho =>
  obtain ⟨v, hr, hv⟩ := lookup_run S e (S.opd x) (S.opd k)
  exact ⟨v, by simp only [execOp, ho]; exact Result_value hr, hv⟩
 ·next x ho =>
  obtain ⟨v, hr, hv⟩ := entry_run (P := P) S e (S.opd x)
  exact ⟨v, by simp only [execOp, ho]; exact Result_value hr, hv⟩
 ·next t x lo hi mx ho =>
  unfold sliceHV at e
  split at e
  ·next l hh m el eh em =>
   have r := S.opd x
   cases hx : opd σ.log x with
   | str s =>
    rw [hx] at e r
    obtain ⟨v, hr, hv⟩ := sliceStr_run (P := P) S el eh em e r
    exact ⟨v, by simp only [execOp, ho]; exact Result_value hr, hv⟩
   | sl sz f es =>
    rw [hx] at e r
    obtain ⟨v, hr, hv⟩ := sliceSl_run (P := P) S el eh em e (r.toI rfl)
    exact ⟨v, by simp only [execOp, ho]; exact Result_value hr, .imm hv⟩
   | _ => rw [hx] at e; simp at e
  ·cases e
 ·next t parts ho =>
  unfold buildHV at e
  split at e
  ·next zs ps hz hp =>
   simp only [Option.map_eq_some_iff] at e
   obtain ⟨cs, hf, rfl⟩ := e
   obtain ⟨C, hr, hv⟩ := build_rep (P := P) (dead := dd D σ.log bl) (γ := γ) (bl := bl) (w := w) hz hp (vs := parts.map fun p => (p.1, a.eval p.2)) hf (by simp) (fun k x y hx hy => by
    simp only [List.getElem?_map, Array.toList_map] at hx hy
    cases hk : parts.toList[k]? with
    | none => simp [hk] at hx
    | some p => simp only [hk, Option.map_some, Option.some.injEq] at hx hy; subst hx; subst hy; exact S.opd p.2)
   exact ⟨_, by simp only [execOp, ho]; exact Result_value hr, hv⟩
  ·cases e
 ·next f first cap ho =>
  simp only [Option.ite_none_right_eq_some, Option.some.injEq] at e
  obtain ⟨h0, rfl⟩ := e
  have hf : first = #[] := Array.eq_empty_of_size_eq_zero h0
  subst hf
  refine ⟨.func f #[] (cap.map a.eval), by simp [execOp, ho, Instr.makeFunc], .fn (by simp) (fun j c v hc hv => ?_)⟩
  simp only [List.getElem?_map, Array.getElem?_map, Array.getElem?_toList] at hc hv
  cases hk : cap[j]? with
  | none => simp [hk] at hc
  | some p => simp only [hk, Option.map_some, Option.some.injEq] at hc hv; subst hc; subst hv; exact S.opd p
 ·next c ho =>
  split at e
  ·next b hb =>
   unfold builtinHV at e
   have hargs : ∀ {xs : List HV}, c.args.toList.map (opd σ.log) = xs → ∀ (k : Nat) (x : HV), xs[k]? = some x → ∃ p, c.args.toList[k]? = some p ∧ opd σ.log p = x := by
    intro xs hxs k x hx
    subst hxs
    rw [List.getElem?_map] at hx
    cases hk : c.args.toList[k]? with
    | none => simp [hk] at hx
    | some p => simp only [hk, Option.map_some, Option.some.injEq] at hx; exact ⟨p, rfl, hx⟩
   split at e
   ·next x t hxs hts =>
    obtain ⟨p, hp, hpx⟩ := hargs hxs 0 x rfl
    have hca : c.args = #[p] := by
     have : c.args.toList = [p] := by
      have hl : c.args.toList.length = 1 := by have := congrArg List.length hxs; simpa using this
      match hm : c.args.toList, hl with
      | [q], _ => rw [hm] at hp; simp at hp; rw [hp]
     exact Array.ext' this
    have hct : c.argTypes = #[t] := Array.ext' hts
    have r := S.opd p
    rw [hpx] at r
    obtain ⟨v, hr, hv⟩ : ∃ u, (Builtin.len_ #[t] o.type #[a.eval p]).run P w = .ok u w ∧ SRep w (dd D σ.log bl) γ bl h u := by
     split at e
     ·next hlo => exact len_run' (P := P) S e hlo r o.type
     ·exact mapLen_run (P := P) S e r o.type
    refine ⟨v, ?_, hv⟩
    simp only [execOp, ho, resolve, hb, Sem.run_bind, Sem.run_pure, Result.andThen_ok, invoke, builtin, hca, hct]
    simp [hr]
   ·next _ x y hxs =>
    obtain ⟨p, hp, hpx⟩ := hargs hxs 0 x rfl
    obtain ⟨q, hq, hqy⟩ := hargs hxs 1 y rfl
    have hca : c.args = #[p, q] := by
     have : c.args.toList = [p, q] := by
      have hl : c.args.toList.length = 2 := by have := congrArg List.length hxs; simpa using this
      match hm : c.args.toList, hl with
      | [q1, q2], _ => rw [hm] at hp hq; simp at hp hq; rw [hp, hq]
     exact Array.ext' this
    have r1 := S.opd p
    have r2 := S.opd q
    rw [hpx] at r1
    rw [hqy] at r2
    unfold minHV at e
    split at e
    ·simp only [Option.some.injEq] at e
     subst e
     have h1 := r1.lit_inv
     have h2 := r2.lit_inv
     refine ⟨_, ?_, .imm (.lit _)⟩
     simp only [execOp, ho, resolve, hb, Sem.run_bind, Sem.run_pure, Result.andThen_ok, invoke, builtin, hca]
     simp [Builtin.min_, h1, h2, min2_run]
    ·cases e
   ·next _ x y hxs =>
    obtain ⟨p, hp, hpx⟩ := hargs hxs 0 x rfl
    obtain ⟨q, hq, hqy⟩ := hargs hxs 1 y rfl
    have hca : c.args = #[p, q] := by
     have : c.args.toList = [p, q] := by
      have hl : c.args.toList.length = 2 := by have := congrArg List.length hxs; simpa using this
      match hm : c.args.toList, hl with
      | [q1, q2], _ => rw [hm] at hp hq; simp at hp hq; rw [hp, hq]
     exact Array.ext' this
    have r1 := S.opd p
    have r2 := S.opd q
    rw [hpx] at r1
    rw [hqy] at r2
    unfold maxHV at e
    split at e
    ·simp only [Option.some.injEq] at e
     subst e
     have h1 := r1.lit_inv
     have h2 := r2.lit_inv
     refine ⟨_, ?_, .imm (.lit _)⟩
     simp only [execOp, ho, resolve, hb, Sem.run_bind, Sem.run_pure, Result.andThen_ok, invoke, builtin, hca]
     simp [Builtin.max_, h1, h2, max2_run]
    ·cases e
   ·cases e
  ·cases e
 ·cases e
end Go.Hv
