import Derived.Test.YtcmomegkhoggpaaGreatDoorHv19
import Derived.Orders
set_option linter.unusedVariables false
set_option linter.unusedSectionVars false
set_option linter.unusedSimpArgs false
namespace Go.Hv
open Go Go.RowKit
variable [GI]
variable {P : Program} {D : Nat → Prop} {F : Nat → Prop} {σ : HS} {a : Act} {w : World} {γ : Nat → Value} {bl : Nat → Option Nat}

/-! ### What an operation's value leans on -/
theorem rowOf_congr {L M : List Ev} (ho : ∀ id, getO L id = getO M id) (x : HV) : rowOf L x = rowOf M x := by
 cases x <;> simp only [rowOf, ho]
theorem bytesOf_congr {L M : List Ev} (ho : ∀ id, getO L id = getO M id) (x : HV) : bytesOfHV L x = bytesOfHV M x := by
 unfold bytesOfHV; rw [rowOf_congr ho]
theorem cellsAt_congr {L M : List Ev} (ho : ∀ id, getO L id = getO M id) (x : HV) (n : Nat) : cellsAt L x n = cellsAt M x n := by
 cases x <;> simp only [cellsAt, ho]
theorem load_congr {L M : List Ev} (ho : ∀ id, getO L id = getO M id) (t : Nat) (x : HV) : loadHV P L t x = loadHV P M t x := by
 unfold loadHV; simp only [cellsAt_congr ho]
theorem indexAddr_congr {L M : List Ev} (ho : ∀ id, getO L id = getO M id) (t : Nat) (x i : HV) : indexAddrHV P L t x i = indexAddrHV P M t x i := by
 unfold indexAddrHV; simp only [ho]
theorem len_congr {L M : List Ev} (ho : ∀ id, getO L id = getO M id) (t : Option TK) (x : HV) : lenHV L t x = lenHV M t x := by
 unfold lenHV; simp only [rowOf_congr ho]
theorem convert_congr {L M : List Ev} (ho : ∀ id, getO L id = getO M id) (s t : Nat) (x : HV) : convertHV P L s t x = convertHV P M s t x := by
 unfold convertHV; simp only [bytesOf_congr ho]
theorem ents_congr {L M : List Ev} (ho : ∀ id, getO L id = getO M id) (x : HV) : entsOf L x = entsOf M x := by
 unfold entsOf; simp only [ho]
theorem lookup_congr {L M : List Ev} (ho : ∀ id, getO L id = getO M id) (t : Nat) (x k : HV) (ok : Bool) : lookupHV P L t x k ok = lookupHV P M t x k ok := by
 unfold lookupHV; simp only [ents_congr ho]
theorem entry_congr {L M : List Ev} (ho : ∀ id, getO L id = getO M id) (x : HV) : entryHV L x = entryHV M x := by
 unfold entryHV; simp only [ho]
theorem builtin_congr {L M : List Ev} (ho : ∀ id, getO L id = getO M id) (b : Builtin) (xs : List HV) (ts : List Nat) : builtinHV P L b xs ts = builtinHV P M b xs ts := by
 unfold builtinHV; simp only [len_congr ho, mapLenHV, ents_congr ho]
theorem opd_congr {L M : List Ev} {x : Operand} (h : ∀ t, x = .tmp t → get L t = get M t) : opd L x = opd M x := by
 cases x <;> simp only [opd]
 exact h _ rfl
theorem boundOf_congr {L M : List Ev} {x : Option Operand} (h : ∀ t, x = some (.tmp t) → get L t = get M t) : boundOf L x = boundOf M x := by
 cases x with
 | none => rfl
 | some x => simp only [boundOf]; rw [opd_congr (L := L) (M := M) (fun t e => h t (by rw [e]))]
theorem evV_congr {L M : List Ev} {op : Op} (h : ∀ t, Operand.tmp t ∈ op.operands → get L t = get M t) (ho : ∀ id, getO L id = getO M id) : evV P L op = evV P M op := by
 have hx : ∀ x ∈ op.operands, opd L x = opd M x := fun x hx => opd_congr fun t e => h t (e ▸ hx)
 cases op with
 | move x => simp only [evV]; rw [hx x (by simp [Op.operands])]
 | assign x => simp only [evV]; rw [hx x (by simp [Op.operands])]
 | pick c x y => simp only [evV]; rw [hx c (by simp [Op.operands]), hx x (by simp [Op.operands]), hx y (by simp [Op.operands])]
 | binOp o t x y u => simp only [evV]; rw [hx x (by simp [Op.operands]), hx y (by simp [Op.operands])]
 | unOp o t x => simp only [evV]; rw [hx x (by simp [Op.operands])]
 | convert s t x => simp only [evV]; rw [hx x (by simp [Op.operands]), convert_congr ho]
 | nilCheck x => simp only [evV]; rw [hx x (by simp [Op.operands])]
 | fieldAddr s x j => simp only [evV]; rw [hx x (by simp [Op.operands])]
 | field s x j => simp only [evV]; rw [hx x (by simp [Op.operands])]
 | indexAddr t x i => simp only [evV]; rw [hx x (by simp [Op.operands]), hx i (by simp [Op.operands]), indexAddr_congr ho]
 | index t x i => simp only [evV]; rw [hx x (by simp [Op.operands]), hx i (by simp [Op.operands])]
 | extract x i => simp only [evV]; rw [hx x (by simp [Op.operands])]
 | load t x => simp only [evV]; rw [hx x (by simp [Op.operands]), load_congr ho]
 | lookup t x k ok => simp only [evV]; rw [hx x (by simp [Op.operands]), hx k (by simp [Op.operands]), lookup_congr ho]
 | entry x => simp only [evV]; rw [hx x (by simp [Op.operands]), entry_congr ho]
 | slice t x lo hi mx =>
  simp only [evV, sliceHV]
  rw [hx x (by simp [Op.operands]), boundOf_congr (L := L) (M := M) (x := lo) (fun t e => h t (by simp [Op.operands, e])), boundOf_congr (L := L) (M := M) (x := hi) (fun t e => h t (by simp [Op.operands, e])),
   boundOf_congr (L := L) (M := M) (x := mx) (fun t e => h t (by simp [Op.operands, e]))]
 | build t ps =>
  simp only [evV]
  have : (ps.toList.map fun p => (p.1, opd L p.2)) = ps.toList.map fun p => (p.1, opd M p.2) := List.map_congr_left fun p hp => by
   rw [hx p.2 (by simp [Op.operands]; exact ⟨p.1, by simpa using hp⟩)]
  rw [this]
 | makeFunc f first cap =>
  simp only [evV]
  have : cap.toList.map (opd L) = cap.toList.map (opd M) := List.map_congr_left fun x hp => hx x (by simp [Op.operands]; exact .inr (by simpa using hp))
  rw [this]
 | call c =>
  simp only [evV]
  have : c.args.toList.map (opd L) = c.args.toList.map (opd M) := List.map_congr_left fun x hp => hx x (by
   simp only [Op.operands, Call.operands]
   cases c.callee <;> simp <;> simp at hp <;> simp [hp])
  rw [this]
  cases c.callee <;> simp only [builtin_congr ho]
 | _ => rfl
end Go.Hv
