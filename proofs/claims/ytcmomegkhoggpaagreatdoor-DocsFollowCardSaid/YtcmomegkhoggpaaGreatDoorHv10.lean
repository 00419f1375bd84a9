import Derived.Test.YtcmomegkhoggpaaGreatDoorHv9
set_option linter.unusedVariables false
set_option linter.unusedSectionVars false
set_option linter.unusedSimpArgs false
namespace Go.Hv
open Go Go.RowKit
variable [GI]
variable {P : Program} {D : Nat → Prop} {F : Nat → Prop} {σ : HS} {a : Act} {w : World} {γ : Nat → Value} {bl : Nat → Option Nat}

inductive TK where
 | bool | int (k : IntKind) | string | bytes | other
def tk (P : Program) (t : TypeId) : Option TK :=
 match P.underlying t with
 | some .bool => some .bool
 | some (.int k) => some (.int k)
 | some .string => some .string
 | some (.slice e) => match P.underlying e with
  | some (.int .u8) => some .bytes
  | some _ => some .other
  | none => none
 | some _ => some .other
 | none => none

def pickHV (t : Bool) (A B : HV) : HV :=
 match A, B with
 | .lit (.bool x), .lit (.bool y) => .lit (.bool (if t then x else y))
 | A, B => if t then A else B
theorem pickHV_rep {dead : Nat → Prop} {t : Bool} {A B : HV} {u v : Value} (hu : SRep w dead γ bl A u) (hv : SRep w dead γ bl B v) : SRep w dead γ bl (pickHV t A B) (if t then u else v) := by
 unfold pickHV
 split
 ·rw [hu.lit_inv, hv.lit_inv]; cases t <;> exact .imm (.lit _)
 ·cases t <;> assumption

def evUn (op : UnOp) (x : HV) : Option HV :=
 match op, x with
 | .not, .lit (.bool b) => some (.lit (.bool (!b)))
 | .neg, .lit (.int k n) => some (.lit (.int k (k.wrap (0 - n))))
 | .xor, .lit (.int k n) => some (.lit (.int k (k.wrap (BitVec.ofInt k.bits (if k.signed then -1 else k.max) ^^^ BitVec.ofInt k.bits n).toNat)))
 | _, _ => none
theorem evUn_ok {dead : Nat → Prop} {op : UnOp} {x h : HV} {u : Value} (e : evUn op x = some h) (hx : SRep w dead γ bl x u) : ∃ r, (Op.unary op u).run P w = .ok r w ∧ SRep w dead γ bl h r := by
 unfold evUn at e
 split at e
 ·cases hx.lit_inv; simp only [Option.some.injEq] at e; subst e; exact ⟨_, rfl, .imm (.lit _)⟩
 ·cases hx.lit_inv; simp only [Option.some.injEq] at e; subst e; exact ⟨_, rfl, .imm (.lit _)⟩
 ·cases hx.lit_inv; simp only [Option.some.injEq] at e; subst e; exact ⟨_, rfl, .imm (.lit _)⟩
 ·cases e

theorem tk_some {t : TypeId} {k : TK} (h : tk P t = some k) : ∃ d, P.underlying t = some d ∧ (match k with
  | .bool => d = .bool | .int k => d = .int k | .string => d = .string
  | .bytes => ∃ e, d = .slice e ∧ P.underlying e = some (.int .u8) | .other => True) := by
 unfold tk at h
 split at h <;> (try (simp only [Option.some.injEq] at h; subst h))
 ·next hu => exact ⟨_, hu, rfl⟩
 ·next k hu => exact ⟨_, hu, rfl⟩
 ·next hu => exact ⟨_, hu, rfl⟩
 ·next e hu =>
  split at h
  ·next he => simp only [Option.some.injEq] at h; subst h; exact ⟨_, hu, e, rfl, he⟩
  ·simp only [Option.some.injEq] at h; subst h; exact ⟨_, hu, trivial⟩
  ·cases h
 ·next hu => exact ⟨_, hu, trivial⟩
 ·cases h

def unbytes : List (List HV) → Option (List UInt8)
 | [] => some []
 | [.lit (.int .u8 n)] :: r => if 0 ≤ n ∧ n < 256 then (unbytes r).map (UInt8.ofNat n.toNat :: ·) else none
 | _ => none
theorem unbytes_eq : ∀ (es : List (List HV)) (l : List UInt8), unbytes es = some l → es = bytesHV l := by
 intro es
 induction es with
 | nil => intro l h; simp only [unbytes, Option.some.injEq] at h; subst h; rfl
 | cons x r ih =>
  intro l h
  unfold unbytes at h
  split at h
  ·cases ‹_ = []›
  ·next n r' heq =>
   cases heq
   simp only [Option.ite_none_right_eq_some, Option.map_eq_some_iff] at h
   obtain ⟨hn, l', hl, rfl⟩ := h
   rw [ih l' hl]
   show _ = [HV.lit (.int .u8 ((UInt8.ofNat n.toNat).toNat : Int))] :: bytesHV l'
   have : ((UInt8.ofNat n.toNat).toNat : Int) = n := by
    rw [UInt8.toNat_ofNat']
    have : n.toNat % 2 ^ 8 = n.toNat := Nat.mod_eq_of_lt (by omega)
    rw [this]; omega
   rw [this]
  ·cases h

@[simp] theorem isILL_bytes (l : List UInt8) : isILL (bytesHV l) = true := by
 simp [isILL, bytesHV, isIL, isI]
def rowOf (L : List Ev) : HV → Option (Nat × List (List HV))
 | .sl sz _ es => some (sz, es)
 | .ref id => match getO L id with
  | .row _ sz es => some (sz, es)
  | _ => none
 | _ => none
theorem rowOf_rep (S : Sim D F σ a w γ bl) {x : HV} {sz : Nat} {es : List (List HV)} {v : Value} (e : rowOf σ.log x = some (sz, es)) (hI : isILL es = true) (r : SRep w (dd D σ.log bl) γ bl x v) :
  ∃ full, IRep w D (.sl sz full es) v := by
 cases x with
 | sl sz' f es' =>
  simp only [rowOf, Option.some.injEq, Prod.mk.injEq] at e
  obtain ⟨rfl, rfl⟩ := e
  cases r with
  | imm hi => exact ⟨f, hi.mono (Nat.le_refl _) (fun _ _ _ => rfl) (fun b _ h => .inl h)⟩
 | ref id =>
  simp only [rowOf] at e
  cases ho : getO σ.log id with
  | row e0 sz' es' =>
   simp only [ho, Option.some.injEq, Prod.mk.injEq] at e
   obtain ⟨rfl, rfl⟩ := e
   have hlive : getO σ.log id ≠ .gone := by rw [ho]; simp
   cases r with
   | imm hi => cases hi
   | ref _ h1 => exact ⟨false, row_irep S ho hI (fun b hb h => (S.hblk id b hlive hb).1 (S.hD b h)) (fun b h => .inl h)⟩
  | gone => simp [ho] at e
  | box cs => simp [ho] at e
  | map es => simp [ho] at e
  | iter es left last => simp [ho] at e
  | prow V0 ob0 t0 z0 es0 => simp [ho] at e
  | mapb es0 bs0 ck0 => simp [ho] at e
 | _ => simp [rowOf] at e

theorem rowOf_len (S : Sim D F σ a w γ bl) {x : HV} {sz : Nat} {es : List (List HV)} {v : Value} (e : rowOf σ.log x = some (sz, es)) (r : SRep w (dd D σ.log bl) γ bl x v) :
  ∃ A cap, v = .slice A es.length cap := by
 cases x with
 | sl sz' f es' =>
  simp only [rowOf, Option.some.injEq, Prod.mk.injEq] at e
  obtain ⟨rfl, rfl⟩ := e
  cases r with
  | imm hi =>
   cases hi with
   | nil hf hA => exact ⟨_, _, rfl⟩
   | sl f hsz hc hf hb hbl hcell h1 h => exact ⟨_, _, rfl⟩
 | ref id =>
  simp only [rowOf] at e
  cases ho : getO σ.log id with
  | row e0 sz' es' =>
   simp only [ho, Option.some.injEq, Prod.mk.injEq] at e
   obtain ⟨rfl, rfl⟩ := e
   cases r with
   | imm hi => cases hi
   | ref _ h1 =>
    have R := S.hobj id
    rw [ho] at R
    obtain ⟨_, _, R⟩ := R
    rcases R with ⟨rfl, ⟨A, hA⟩, _⟩ | ⟨b', cap, C, fr, h1, _⟩
    ·rw [hA]; exact ⟨_, _, rfl⟩
    ·rw [h1]; exact ⟨_, _, rfl⟩
  | gone => simp [ho] at e
  | box cs => simp [ho] at e
  | map es => simp [ho] at e
  | iter es left last => simp [ho] at e
  | prow V0 ob0 t0 z0 es0 => simp [ho] at e
  | mapb es0 bs0 ck0 => simp [ho] at e
 | _ => simp [rowOf] at e

theorem isl_len {dead : Nat → Prop} {sz : Nat} {full : Bool} {es : List (List HV)} {v : Value} (r : IRep w dead (.sl sz full es) v) : ∃ A cap, v = .slice A es.length cap ∧ es.length ≤ cap ∧ (full = true → cap = es.length) := by
 cases r with
 | nil hf hA => exact ⟨_, _, rfl, Nat.zero_le _, fun h => by rw [hf h]; rfl⟩
 | sl f hsz hc hf hb hbl hcell h1 h => exact ⟨_, _, rfl, hc, hf⟩

def bytesOfHV (L : List Ev) (x : HV) : Option (List UInt8) :=
 match rowOf L x with
 | some (sz, es) => if sz = 1 then unbytes es else none
 | none => none

theorem foldl_push (ns : List Int) (l : List UInt8) (acc : ByteArray) (h : ns.map (fun n => UInt8.ofNat n.toNat) = l) : ns.foldl (fun r n => r.push (UInt8.ofNat n.toNat)) acc = ⟨(acc.data.toList ++ l).toArray⟩ := by
 induction ns generalizing l acc with
 | nil => subst h; simp
 | cons n ns ih =>
  subst h
  rw [List.foldl_cons, ih _ _ rfl]
  simp [ByteArray.push]

theorem bytesToString_rep {dead : Nat → Prop} {sz : Nat} {full : Bool} {l : List UInt8} {v : Value} (r : IRep w dead (.sl sz full (bytesHV l)) v) (hs : l = [] ∨ sz = 1) :
  (Conv.bytesToString v).run P w = .ok (.string ⟨l.toArray⟩) w := by
 generalize he : bytesHV l = es at r
 cases r with
 | @nil _ _ A cap hf hA =>
  have hl : l = [] := by cases l with | nil => rfl | cons b l => simp [bytesHV] at he
  subst hl
  cases A with
  | none => rfl
  | some a => rfl
 | @sl _ _ _ cap b off f hsz hc hf hb hbl hcell h1 h =>
  have hlen : es.length = l.length := by rw [← he]; simp [bytesHV]
  rcases hs with rfl | rfl
  ·have : es.length = 0 := by simpa using hlen
   rw [this]; rfl
  have hcells : ∀ i (hi : i < l.length), w.cell? ⟨b, off + i, none⟩ = some (.int .u8 (l[i].toNat : Int)) := by
   intro i hi
   have hx : es[i]? = some [HV.lit (.int .u8 (l[i].toNat : Int))] := by rw [← he]; simp [bytesHV, hi]
   have := h i 0 _ _ hx rfl
   have h2 := hcell i 0 (by omega) (by omega)
   generalize f i 0 = u at this h2
   cases this
   simpa using h2
  have hld := run_loadCells (P := P) w ⟨b, off, none⟩ es.length (fun i => .int .u8 ((l.getD i 0).toNat : Int)) (fun j hj => by
   rw [add_at, hcells j (by omega)]
   simp [List.getD, List.getElem?_eq_getElem (show j < l.length by omega)])
  have hns : ((List.range es.length).map (fun i => Value.int .u8 ((l.getD i 0).toNat : Int))) = (l.map (fun x => (x.toNat : Int))).map (Value.int .u8) := by
   rw [hlen, List.map_map]
   apply List.ext_getElem?
   intro i
   by_cases hi : i < l.length
   ·simp [hi]
   ·simp [hi]
  rw [hns] at hld
  rw [run_bytesToString w _ _ _ _ hld, foldl_push _ l _ (by rw [List.map_map]; exact (List.map_congr_left (g := fun x => x) (fun x _ => by simp)).trans (List.map_id' l))]
  simp
end Go.Hv
