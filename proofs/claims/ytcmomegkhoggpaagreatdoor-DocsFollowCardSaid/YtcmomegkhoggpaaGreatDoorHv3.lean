import Derived.Test.YtcmomegkhoggpaaGreatDoorHv2
import Derived.Laws.AppendOwn
import Derived.Laws.BytesArg
set_option linter.unusedVariables false
set_option linter.unusedSectionVars false
set_option linter.unusedSimpArgs false
namespace Go.Hv
open Go Go.RowKit
variable [GI]

def ofConst : Value → HV
 | .slice none 0 0 => .sl 0 true []
 | .map none => .mp []
 | .string b => .str b.data.toList
 | v => .lit v
theorem ofConst_rep (w : World) (dead : Nat → Prop) (v : Value) : IRep w dead (ofConst v) v := by
 unfold ofConst
 split
 ·exact .nil (fun _ => rfl) (fun _ => rfl)
 ·exact .mnil
 ·exact .str _
 ·exact .lit v

def opd (L : List Ev) : Operand → HV
 | .tmp t => get L t
 | .const v => ofConst v
 | .func f => .fn (.func f) []
 | .global _ => .any

variable {P : Program} {D : Nat → Prop} {F : Nat → Prop} {σ : HS} {a : Act} {w : World} {γ : Nat → Value} {bl : Nat → Option Nat}

theorem Sim.opd (S : Sim D F σ a w γ bl) (x : Operand) : SRep w (dd D σ.log bl) γ bl (opd σ.log x) (a.eval x) := by
 cases x with
 | tmp t => exact S.henv t
 | const v => exact .imm (ofConst_rep _ _ v)
 | global g => exact .any _
 | func f => exact .fn rfl (fun j c v h => by simp at h)

def HS.put (σ : HS) (dst : Option Tmp) (h : HV) : Option HS :=
 match dst with
 | none => some σ
 | some d => if d < σ.n then some ⟨.s d h :: σ.log, σ.n⟩ else none

theorem Sim.put? (S : Sim D F σ a w γ bl) {dst : Option Tmp} {v : Value} {h : HV} {σ' : HS} (e : σ.put dst h = some σ') (r : SRep w (dd D σ.log bl) γ bl h v) : Sim D F σ' (a.put dst v) w γ bl := by
 unfold HS.put at e
 cases dst with
 | none => simp only [Option.some.injEq] at e; subst e; exact S
 | some d =>
  simp only at e
  split at e
  ·next hd => simp only [Option.some.injEq] at e; subst e; exact S.put hd r
  ·cases e

def OpOK (P : Program) (o : Oper) (σ σ' : HS) : Prop := ∀ D F a w γ bl, Sim D F σ a w γ bl → ∀ next Q,
 (∀ a' w' γ' bl', Sim D F σ' a' w' γ' bl' → Kept F w w' → next a' w') → o.wp P a w next Q

theorem ok_value {o : Oper} {σ' : HS} {h : HV} (e : σ.put o.dst h = some σ')
  (H : ∀ D F a w γ bl, Sim D F σ a w γ bl → ∃ v, (execOp a.eval o).run P w = .ok (.value v) w ∧ SRep w (dd D σ.log bl) γ bl h v) : OpOK P o σ σ' := by
 intro D F a w γ bl S next Q hk
 obtain ⟨v, hr, hv⟩ := H D F a w γ bl S
 unfold Oper.wp
 rw [hr]
 exact hk _ _ _ _ (S.put? e hv) (Kept.refl _ _)

/-! ### Values alone -/
theorem SRep.lit_inv {v v' : Value} {dead : Nat → Prop} (r : SRep w dead γ bl (.lit v) v') : v' = v := by
 cases r with
 | imm hi => cases hi; rfl

def evInt (op : BinOp) (k k' : IntKind) (a b : Int) : Option Value :=
 match op with
 | .shl => if 0 ≤ b then some (.int k (k.wrap (a * 2 ^ min b.toNat k.bits))) else none
 | .shr => if 0 ≤ b then some (.int k (a.fdiv (2 ^ min b.toNat k.bits))) else none
 | .add => if k = k' then some (.int k (k.wrap (a + b))) else none
 | .sub => if k = k' then some (.int k (k.wrap (a - b))) else none
 | .mul => if k = k' then some (.int k (k.wrap (a * b))) else none
 | .quo => if k = k' ∧ b ≠ 0 then some (.int k (k.wrap (a.tdiv b))) else none
 | .rem => if k = k' ∧ b ≠ 0 then some (.int k (a.tmod b)) else none
 | .and => if k = k' then some (.int k (k.wrap (BitVec.ofInt k.bits a &&& BitVec.ofInt k.bits b).toNat)) else none
 | .or => if k = k' then some (.int k (k.wrap (BitVec.ofInt k.bits a ||| BitVec.ofInt k.bits b).toNat)) else none
 | .xor => if k = k' then some (.int k (k.wrap (BitVec.ofInt k.bits a ^^^ BitVec.ofInt k.bits b).toNat)) else none
 | .andNot => if k = k' then some (.int k (k.wrap (BitVec.ofInt k.bits a &&& ~~~ BitVec.ofInt k.bits b).toNat)) else none
 | .eql => if k = k' then some (.bool (decide (a = b))) else none
 | .neq => if k = k' then some (.bool (!decide (a = b))) else none
 | .lss => if k = k' then some (.bool (decide (a < b))) else none
 | .leq => if k = k' then some (.bool (decide (a ≤ b))) else none
 | .gtr => if k = k' then some (.bool (decide (b < a))) else none
 | .geq => if k = k' then some (.bool (decide (b ≤ a))) else none
def evStr (op : BinOp) (a b : List UInt8) : Option HV :=
 match op with
 | .add => if a.length + b.length ≤ 9223372036854775807 then some (.str (a ++ b)) else none
 | .eql => some (.lit (.bool (decide (a = b))))
 | .neq => some (.lit (.bool (!decide (a = b))))
 | .lss => some (.lit (.bool (Op.bytesLess a b)))
 | .leq => some (.lit (.bool (Op.bytesLess a b || decide (a = b))))
 | .gtr => some (.lit (.bool (!(Op.bytesLess a b || decide (a = b)))))
 | .geq => some (.lit (.bool (!Op.bytesLess a b)))
 | _ => none
def evBool (op : BinOp) (a b : Bool) : Option HV :=
 match op with
 | .eql => some (.lit (.bool (decide (a = b))))
 | .neq => some (.lit (.bool (!decide (a = b))))
 | _ => none
def evBin (isB : Bool) (op : BinOp) (x y : HV) : Option HV :=
 match x, y with
 | .lit (.int k a), .lit (.int k' b) => (evInt op k k' a b).map .lit
 | .str a, .str b => evStr op a b
 | .lit (.bool a), .lit (.bool b) => if isB then evBool op a b else none
 | _, _ => none

theorem SRep.str_inv {l : List UInt8} {v' : Value} {dead : Nat → Prop} (r : SRep w dead γ bl (.str l) v') : v' = .string ⟨l.toArray⟩ := by
 cases r with
 | imm hi => cases hi; rfl

theorem evInt_run {op : BinOp} {k k' : IntKind} {a b : Int} {v : Value} (e : evInt op k k' a b = some v) (t : TypeId) : (binOp op t (.int k a) (.int k' b)).run P w = .ok v w := by
 cases op <;> simp only [evInt, Option.ite_none_right_eq_some, Option.some.injEq] at e <;> obtain ⟨h, rfl⟩ := e
 case shl => simp [binOp, Op.shift, show ¬ b < 0 by omega]
 case shr => simp [binOp, Op.shift, show ¬ b < 0 by omega]
 case quo => obtain ⟨rfl, hb⟩ := h; simp [binOp, Op.intDiv, hb]
 case rem => obtain ⟨rfl, hb⟩ := h; simp [binOp, Op.intDiv, hb]
 all_goals subst h
 case add => simp [binOp, Op.intArith]
 case sub => simp [binOp, Op.intArith]
 case mul => simp [binOp, Op.intArith]
 case and => simp [binOp, Op.intBits]
 case or => simp [binOp, Op.intBits]
 case xor => simp [binOp, Op.intBits]
 case andNot => simp [binOp, Op.intBits]
 case eql => simp only [binOp, Op.intCmp]; simp; rfl
 case neq => simp only [binOp, Op.intCmp]; simp; rfl
 case lss => simp [binOp, Op.intCmp]
 case leq => simp [binOp, Op.intCmp]
 case gtr => simp [binOp, Op.intCmp]
 case geq => simp [binOp, Op.intCmp]

theorem lbeq (a b : List UInt8) : (a == b) = decide (a = b) := by
 rw [Bool.eq_iff_iff]; simp

theorem evStr_run {op : BinOp} {a b : List UInt8} {h : HV} {dead : Nat → Prop} (e : evStr op a b = some h) (t : TypeId) :
  ∃ v, (binOp op t (.string ⟨a.toArray⟩) (.string ⟨b.toArray⟩)).run P w = .ok v w ∧ SRep w dead γ bl h v := by
 cases op <;> simp only [evStr, Option.ite_none_right_eq_some, Option.some.injEq, reduceCtorEq] at e
 case add =>
  obtain ⟨hl, rfl⟩ := e
  refine ⟨_, ?_, .imm (.str _)⟩
  have h1 : (⟨a.toArray⟩ : ByteArray).size = a.length := rfl
  have h2 : (⟨b.toArray⟩ : ByteArray).size = b.length := rfl
  have h3 : (⟨a.toArray⟩ ++ ⟨b.toArray⟩ : ByteArray) = ⟨(a ++ b).toArray⟩ := by
   apply ByteArray.ext
   simp
  simp only [binOp, Op.stringOp, h1, h2, h3]
  rw [if_neg (by simp only [IntKind.max, IntKind.signed, IntKind.bits]; simp; omega)]
  rfl
 all_goals subst e
 all_goals (refine ⟨_, ?_, .imm (.lit _)⟩; simp only [binOp, Op.stringOp, ByteArray.toList_mk, lbeq]; rfl)

theorem run_equalIn_bool (n : Nat) (t : TypeId) (a b : Bool) (ht : P.underlying t = some .bool) : (Op.equalIn (n + 1) t (.bool a) (.bool b)).run P w = .ok (a == b) w := by
 simp [Op.equalIn, run_underlying ht]
theorem run_equal_bool (t : TypeId) (a b : Bool) (ht : P.underlying t = some .bool) : (Op.equal t (.bool a) (.bool b)).run P w = .ok (a == b) w := run_equalIn_bool 9999 t a b ht

theorem evBool_run {op : BinOp} {a b : Bool} {h : HV} {dead : Nat → Prop} (e : evBool op a b = some h) (t : TypeId) (ht : P.underlying t = some .bool) :
  ∃ v, (binOp op t (.bool a) (.bool b)).run P w = .ok v w ∧ SRep w dead γ bl h v := by
 have hq := run_equal_bool (w := w) t a b ht
 cases op <;> simp only [evBool, Option.some.injEq, reduceCtorEq] at e
 case eql =>
  subst e
  refine ⟨.bool (decide (a = b)), ?_, .imm (.lit _)⟩
  show (do pure (.bool (← Op.equal t (.bool a) (.bool b))) : Sem Value).run P w = _
  rw [Sem.run_bind, hq]
  cases a <;> cases b <;> rfl
 case neq =>
  subst e
  refine ⟨.bool (!decide (a = b)), ?_, .imm (.lit _)⟩
  show (do pure (.bool (!(← Op.equal t (.bool a) (.bool b)))) : Sem Value).run P w = _
  rw [Sem.run_bind, hq]
  cases a <;> cases b <;> rfl

theorem run_eqGuard_int (op : BinOp) (t : TypeId) (x y : Operand) (k k' : IntKind) (a b : Int) : (eqGuard op t x y (.int k a) (.int k' b)).run P w = .ok () w := by
 unfold eqGuard; cases op <;> simp
theorem run_eqGuard_str (op : BinOp) (t : TypeId) (x y : Operand) (a b : ByteArray) : (eqGuard op t x y (.string a) (.string b)).run P w = .ok () w := by
 unfold eqGuard; cases op <;> simp
theorem run_eqGuard_bool (op : BinOp) (t : TypeId) (x y : Operand) (a b : Bool) : (eqGuard op t x y (.bool a) (.bool b)).run P w = .ok () w := by
 unfold eqGuard; cases op <;> simp

theorem evBin_ok {isB : Bool} {op : BinOp} {t : TypeId} {x y h : HV} {dead : Nat → Prop} {u v : Value} (e : evBin isB op x y = some h) (hb : isB = true → P.underlying t = some .bool)
  (hx : SRep w dead γ bl x u) (hy : SRep w dead γ bl y v) (X Y : Operand) :
  ∃ r, (do eqGuard op t X Y u v; binOp op t u v : Sem Value).run P w = .ok r w ∧ SRep w dead γ bl h r := by
 unfold evBin at e
 split at e
 ·next k a k' b =>
  cases hx.lit_inv; cases hy.lit_inv
  simp only [Option.map_eq_some_iff] at e
  obtain ⟨r, hr, rfl⟩ := e
  exact ⟨r, by rw [Sem.run_bind, run_eqGuard_int]; exact evInt_run hr t, .imm (.lit _)⟩
 ·next a b =>
  cases hx.str_inv; cases hy.str_inv
  obtain ⟨r, hr, hh⟩ := evStr_run (P := P) (w := w) (γ := γ) (bl := bl) (dead := dead) e t
  exact ⟨r, by rw [Sem.run_bind, run_eqGuard_str]; exact hr, hh⟩
 ·next a b =>
  cases hx.lit_inv; cases hy.lit_inv
  cases isB
  ·cases e
  ·obtain ⟨r, hr, hh⟩ := evBool_run (P := P) (w := w) (γ := γ) (bl := bl) (dead := dead) e t (hb rfl)
   exact ⟨r, by rw [Sem.run_bind, run_eqGuard_bool]; exact hr, hh⟩
 ·cases e
end Go.Hv
