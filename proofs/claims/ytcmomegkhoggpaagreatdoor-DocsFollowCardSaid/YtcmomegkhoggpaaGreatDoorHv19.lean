import Derived.Test.YtcmomegkhoggpaaGreatDoorHv18
set_option linter.unusedVariables false
set_option linter.unusedSectionVars false
set_option linter.unusedSimpArgs false
namespace Go.Hv
open Go Go.RowKit
variable [GI]

@[simp] abbrev i64 (n : Int) : HV := .lit (.int .i64 n)
@[simp] abbrev u8 (c : UInt8) : HV := .lit (.int .u8 (c.toNat : Int))
@[simp] abbrev bo (b : Bool) : HV := .lit (.bool b)

def fits (L : List Ev) : List Ev → Prop
 | [] => True
 | .s k h :: r => get L k = h ∧ fits L r
 | .o k x :: r => getO L k = x ∧ fits L r
 | .sub _ _ _ :: _ => False
 | .os g :: r => (∀ id o, g id = some o → getO L id = o) ∧ fits L r
theorem fits_get {L : List Ev} : ∀ {M : List Ev}, fits L M → ∀ t, get M t = .any ∨ get M t = get L t
 | [], _, t => .inl rfl
 | .s k h :: r, hf, t => by
  simp only [get]
  split
  ·next e => subst e; exact .inr hf.1.symm
  ·exact fits_get hf.2 t
 | .o k x :: r, hf, t => fits_get (M := r) hf.2 t
 | .os g :: r, hf, t => fits_get (M := r) hf.2 t
 | .sub _ _ _ :: _, hf, _ => hf.elim
theorem fits_getO {L : List Ev} : ∀ {M : List Ev}, fits L M → ∀ t, getO M t = .gone ∨ getO M t = getO L t
 | [], _, t => .inl rfl
 | .s k h :: r, hf, t => fits_getO (M := r) hf.2 t
 | .o k x :: r, hf, t => by
  simp only [getO]
  split
  ·next e => subst e; exact .inr hf.1.symm
  ·exact fits_getO hf.2 t
 | .os g :: r, hf, t => by
  simp only [getO]
  split
  ·next o ho => exact .inr (hf.1 t o ho).symm
  ·exact fits_getO hf.2 t
 | .sub _ _ _ :: _, hf, _ => hf.elim
theorem HS.le_fits {L M : List Ev} {n : Nat} (h : fits L M) : HS.le ⟨L, n⟩ ⟨M, n⟩ := HS.le_of rfl (fits_get h) (fits_getO h)

theorem HT.keep {P : Program} {c : Code} {L M : List Ev} {n : Nat} {Q : Exit → HS → Prop} (h : fits L M) (k : HT P c ⟨M, n⟩ Q) : HT P c ⟨L, n⟩ Q := k.weaken (HS.le_fits h)

@[simp] theorem seqH_normal (K : HS → Prop) (Q : Exit → HS → Prop) (σ : HS) : Exit.seqH K Q .normal σ = K σ := rfl
@[simp] theorem seqH_ret (K : HS → Prop) (Q : Exit → HS → Prop) (σ : HS) : Exit.seqH K Q .ret σ = Q .ret σ := rfl
@[simp] theorem seqH_exit (K : HS → Prop) (Q : Exit → HS → Prop) (i : Nat) (σ : HS) : Exit.seqH K Q (.exit i) σ = Q (.exit i) σ := rfl
@[simp] theorem blockH_normal (i : Nat) (Q : Exit → HS → Prop) (σ : HS) : Exit.blockH i Q .normal σ = Q .normal σ := rfl
@[simp] theorem blockH_ret (i : Nat) (Q : Exit → HS → Prop) (σ : HS) : Exit.blockH i Q .ret σ = Q .ret σ := rfl
@[simp] theorem blockH_exit (i j : Nat) (Q : Exit → HS → Prop) (σ : HS) : Exit.blockH i Q (.exit j) σ = if j = i then Q .normal σ else Q (.exit j) σ := rfl
@[simp] theorem wrap_u8 (c : UInt8) : IntKind.wrap .u8 (c.toNat : Int) = c.toNat := by
 have := c.toNat_lt
 simp [IntKind.wrap, IntKind.bits, IntKind.signed]
 omega
@[simp] theorem wrap_u32_u8 (c : UInt8) : IntKind.wrap .u32 (c.toNat : Int) = c.toNat := by
 have := c.toNat_lt
 simp [IntKind.wrap, IntKind.bits, IntKind.signed]
 omega
theorem wrap_u32_bv (x : BitVec 32) : IntKind.wrap .u32 (x.toNat : Int) = x.toNat := by
 have := x.isLt
 simp [IntKind.wrap, IntKind.bits, IntKind.signed]
 omega
theorem wrap_i64 {n : Int} (h1 : -9223372036854775808 ≤ n) (h2 : n < 9223372036854775808) : IntKind.wrap .i64 n = n := by
 simp [IntKind.wrap, IntKind.bits, IntKind.signed]
 omega
attribute [simp ↓] evL evG evX
attribute [simp] isCall evOp evV evE HS.put initL opd ofConst get getO HV.sub subL HObj.sub evInt evStr evBool pickHV convertHV builtinHV lenHV lenOK rowOf oldAny isAny fieldAddrHV fieldHV indexHV extractHV
 boundOf sliceStrHV sliceSlHV nilCheckHV loadHV buildHV sliceHV minHV maxHV storeHV buildSliceHV makeSliceHV strBytesHV appendHV sliceRefHV newsOf cellsAt ofCells cellsHV storeAt setSeg partsHV fillHV frzAll frz1 idsOf idsD isI isIL
 lookupHV mapLenHV entryHV mapUpdHV mapDelHV mapEntHV entStHV makeMapHV rangeHV nextK isNext nilK isNilCmp pinK isPin clearHV winHV findHV keyEq keyOK entsOf scalK scal1
 fits Ret1 RetT RetO RetM resHV rd rdL callee scal scalL bytesOfHV

@[simp] theorem oneCell_int (k : IntKind) (n : Int) : (Value.int k n).oneCell' = true := rfl
@[simp] theorem oneCell_bool (n : Bool) : (Value.bool n).oneCell' = true := rfl
@[simp] theorem oneCell_string (n : ByteArray) : (Value.string n).oneCell' = true := rfl
@[simp] theorem one_lit (v : Value) : HV.one (.lit v) = v.oneCell' := rfl
@[simp] theorem one_str (l : List UInt8) : HV.one (.str l) = true := rfl
@[simp] theorem one_sl (a : Nat) (b : Bool) (c : List (List HV)) : HV.one (.sl a b c) = true := rfl
@[simp] theorem one_mp (c : List (HV × HV)) : HV.one (.mp c) = true := rfl
@[simp] theorem one_ref (a : Nat) : HV.one (.ref a) = true := rfl
@[simp] theorem one_mref (a : Nat) : HV.one (.mref a) = true := rfl
@[simp] theorem one_agg (a : List HV) : HV.one (.agg a) = false := rfl
@[simp] theorem one_fn (a : Fn) (c : List HV) : HV.one (.fn a c) = true := rfl
@[simp] theorem one_ptr (a c : Nat) : HV.one (.ptr a c) = true := rfl
@[simp] theorem evBin_int (b : Bool) (op : BinOp) (k k' : IntKind) (x y : Int) : evBin b op (.lit (.int k x)) (.lit (.int k' y)) = (evInt op k k' x y).map .lit := rfl
@[simp] theorem evBin_str (b : Bool) (op : BinOp) (x y : List UInt8) : evBin b op (.str x) (.str y) = evStr op x y := rfl
@[simp] theorem evBin_bool (op : BinOp) (x y : Bool) : evBin true op (.lit (.bool x)) (.lit (.bool y)) = evBool op x y := rfl
@[simp] theorem evBin_agg (b : Bool) (op : BinOp) (x y : List HV) : evBin b op (.agg x) (.agg y) = none := rfl
@[simp] theorem evAgg_eql (P : Program) (t : TypeId) (cs ds : List HV) : evAgg P .eql t (.agg cs) (.agg ds) = (aggEq P t cs ds).map fun b => .lit (.bool b) := rfl
@[simp] theorem evAgg_neq (P : Program) (t : TypeId) (cs ds : List HV) : evAgg P .neq t (.agg cs) (.agg ds) = (aggEq P t cs ds).map fun b => .lit (.bool (!b)) := rfl
@[simp] theorem evUn_not (x : Bool) : evUn .not (.lit (.bool x)) = some (.lit (.bool (!x))) := rfl
@[simp] theorem evUn_neg (k : IntKind) (n : Int) : evUn .neg (.lit (.int k n)) = some (.lit (.int k (k.wrap (0 - n)))) := rfl
mutual
theorem rd_isI (L : List Ev) (h : HV) (hi : isI h = true) : rd L h = some h := by
 cases h with
 | agg cs => simp only [rd, rdL_isI L cs (by simpa [isI] using hi), Option.map_some]
 | fn f cs => simp only [rd, rdL_isI L cs (by simpa [isI] using hi), Option.map_some]
 | cptr v => rfl
 | lit v => rfl
 | str v => rfl
 | sl a b c => rfl
 | mp a => rfl
 | _ => simp [isI] at hi
  termination_by structural h
theorem rdL_isI (L : List Ev) (l : List HV) (hi : isIL l = true) : rdL L l = some l := by
 cases l with
 | nil => rfl
 | cons c cs =>
  simp only [isIL, Bool.and_eq_true] at hi
  simp only [rdL, rd_isI L c hi.1, rdL_isI L cs hi.2]
  termination_by structural l
end
mutual
theorem sub_isI (id : Nat) (a b : HV) (h : HV) (hi : isI h = true) : HV.sub id a b h = h := by
 cases h with
 | agg cs => simp only [HV.sub, subL_isI id a b cs (by simpa [isI] using hi)]
 | fn f cs => simp only [HV.sub, subL_isI id a b cs (by simpa [isI] using hi)]
 | cptr v => rfl
 | lit v => rfl
 | str v => rfl
 | sl a b c => rfl
 | mp a => rfl
 | _ => simp [isI] at hi
  termination_by structural h
theorem subL_isI (id : Nat) (a b : HV) (l : List HV) (hi : isIL l = true) : subL id a b l = l := by
 cases l with
 | nil => rfl
 | cons c cs =>
  simp only [isIL, Bool.and_eq_true] at hi
  simp only [subL, sub_isI id a b c hi.1, subL_isI id a b cs hi.2]
  termination_by structural l
end
@[simp] theorem isILL_nil : isILL [] = true := rfl
@[simp] theorem isILL_cons (x : List HV) (es : List (List HV)) : isILL (x :: es) = (isIL x && isILL es) := rfl
@[simp] theorem isILL_append (x es : List (List HV)) : isILL (x ++ es) = (isILL x && isILL es) := by simp [isILL]
theorem isILL_iff {es : List (List HV)} : isILL es = true ↔ ∀ x ∈ es, isIL x = true := by simp [isILL]
@[simp] theorem isILL_set (es : List (List HV)) (i : Nat) (x : List HV) (h : isILL es = true) (hx : isIL x = true) : isILL (es.set i x) = true := by
 rw [isILL_iff] at *
 intro y hy
 rcases List.mem_or_eq_of_mem_set hy with h' | rfl
 ·exact h y h'
 ·exact hx
@[simp] theorem subLL_isILL (id : Nat) (a b : HV) (es : List (List HV)) (h : isILL es = true) : subLL id a b es = es := by
 unfold subLL
 rw [isILL_iff] at h
 conv => rhs; rw [← List.map_id es]
 exact List.map_congr_left fun x hx => subL_isI id a b x (h x hx)
@[simp] theorem subLL_nil (id : Nat) (a b : HV) : subLL id a b [] = [] := rfl
@[simp] theorem subLL_cons (id : Nat) (a b : HV) (x : List HV) (es : List (List HV)) : subLL id a b (x :: es) = subL id a b x :: subLL id a b es := rfl
@[simp] theorem subLL_append (id : Nat) (a b : HV) (x es : List (List HV)) : subLL id a b (x ++ es) = subLL id a b x ++ subLL id a b es := by simp [subLL]
@[simp] theorem bytesHV_length (l : List UInt8) : (bytesHV l).length = l.length := by simp [bytesHV]
@[simp] theorem bytesHV_getElem (l : List UInt8) (k : Nat) (h : k < (bytesHV l).length) : (bytesHV l)[k] = [u8 (l[k]'(by simpa using h))] := by simp [bytesHV]
@[simp] theorem range_2 : List.range 2 = [0, 1] := rfl
@[simp] theorem range_3 : List.range 3 = [0, 1, 2] := rfl
@[simp] theorem range_4 : List.range 4 = [0, 1, 2, 3] := rfl
@[simp] theorem range_5 : List.range 5 = [0, 1, 2, 3, 4] := rfl
@[simp] theorem range_6 : List.range 6 = [0, 1, 2, 3, 4, 5] := rfl
@[simp] theorem range_7 : List.range 7 = [0, 1, 2, 3, 4, 5, 6] := rfl
@[simp] theorem range_8 : List.range 8 = [0, 1, 2, 3, 4, 5, 6, 7] := rfl
@[simp] theorem bytesHV_nil : bytesHV [] = [] := rfl
theorem HS.le_own {L : List Ev} {n t : Nat} (id e sz sz' : Nat) (ht : t < n) (h : get L t = .sl sz' true []) (hsz : 0 < sz) : HS.le ⟨L, n⟩ ⟨.s t (.ref id) :: .o id (.row e sz []) :: .sub id .any .any :: L, n⟩ := by
 intro D F a w γ bl S
 have r := S.henv t
 rw [h] at r
 obtain ⟨A, hA⟩ : ∃ A, a.tmps.getD t undef = .slice A 0 0 := by
  cases r with
  | imm hi =>
   generalize a.tmps.getD t undef = v at hi
   cases hi with
   | @nil _ _ A cap hf hA => rw [hf rfl]; exact ⟨A, rfl⟩
   | sl f hsz hc hf hb hbl hcell h1 h =>
    have := hf rfl
    simp only [List.length_nil] at this
    subst this
    exact ⟨_, rfl⟩
 have S1 := S.lay (w' := w) (id := id) (o' := .row e sz []) (hdl := .slice A 0 0) (ob := none) (Nat.le_refl _) (fun _ _ _ => rfl) (fun b hb => by cases hb) (fun _ _ =>
  ⟨hsz, by simp, .inl ⟨rfl, ⟨A, upd_same ..⟩, upd_same ..⟩⟩)
 have S2 := S1.put (d := t) (v := .slice A 0 0) (h := .ref id) ht (by
  have := SRep.ref (w := w) (dead := dd D (.o id (.row e sz []) :: .sub id .any .any :: L) (upd bl id none)) (γ := upd γ id (.slice A 0 0)) (bl := upd bl id none) id (by rw [upd_same]; rfl)
  rw [upd_same] at this
  exact this)
 have hp : a.put (some t) (.slice A 0 0) = a := by
  have hlt : t < a.tmps.size := by have := S.hn; simp at this; omega
  have hv : a.tmps[t] = .slice A 0 0 := by
   rw [← hA, Array.getD_eq_getD_getElem?, Array.getElem?_eq_getElem hlt]; rfl
  have : a.tmps.setIfInBounds t (.slice A 0 0) = a.tmps := by
   apply Array.ext_getElem?
   intro i
   rw [Array.getElem?_setIfInBounds]
   split
   ·next e => subst e; rw [Array.getElem?_eq_getElem hlt, hv]
   ·rfl
  show ({ a with tmps := a.tmps.setIfInBounds t (.slice A 0 0) } : Act) = a
  rw [this]
 rw [hp] at S2
 exact ⟨_, _, S2⟩
def HLe (a b : HV) : Prop := ∀ (w : World) (dead : Nat → Prop) (v : Value), IRep w dead a v → IRep w dead b v
def HLeL : List HV → List HV → Prop
 | [], [] => True
 | a :: r, b :: s => HLe a b ∧ HLeL r s
 | _, _ => False
theorem HLeL.nil : HLeL [] [] := trivial
theorem HLeL.cons {a b : HV} {l m : List HV} (h : HLe a b) (k : HLeL l m) : HLeL (a :: l) (b :: m) := ⟨h, k⟩
theorem HLe.refl (a : HV) : HLe a a := fun _ _ _ h => h
theorem HLe.trans {a b c : HV} (h : HLe a b) (k : HLe b c) : HLe a c := fun w d v r => k w d v (h w d v r)
theorem HLe.nil (a b : Nat) (f : Bool) : HLe (.sl a f []) (.sl b f []) := by
 intro w dead v r
 cases r with
 | nil hf hA => exact .nil hf hA
 | sl f hsz hc hf hb hbl hcell h1 h => exact .nil (fun h => by simpa using hf h) (fun h => by cases h)
theorem HLe.full (a : Nat) (es : List (List HV)) : HLe (.sl a true es) (.sl a false es) := by
 intro w dead v r
 cases r with
 | nil hf hA => exact .nil (fun h => by cases h) hA
 | sl f hsz hc hf hb hbl hcell h1 h => exact .sl f hsz hc (fun h => by cases h) hb hbl hcell h1 h
theorem HLe.nilf (a b : Nat) (f : Bool) : HLe (.sl a f []) (.sl b false []) := by
 cases f
 ·exact HLe.nil a b false
 ·exact (HLe.nil a b true).trans (HLe.full b [])
theorem HLeL.length : ∀ {l m : List HV}, HLeL l m → l.length = m.length
 | [], [], _ => rfl
 | _ :: r, _ :: s, h => by simp [HLeL.length h.2]
theorem HLeL.get : ∀ {l m : List HV}, HLeL l m → ∀ (j : Nat) (b : HV), m[j]? = some b → ∃ a, l[j]? = some a ∧ HLe a b
 | [], [], _, j, b, h => by simp at h
 | a :: r, c :: s, h, 0, b, hb => by simp at hb; subst hb; exact ⟨a, rfl, h.1⟩
 | a :: r, c :: s, h, j + 1, b, hb => by simpa using HLeL.get h.2 j b (by simpa using hb)
theorem HLe.agg {l m : List HV} (h : HLeL l m) : HLe (.agg l) (.agg m) := by
 intro w dead v r
 cases r with
 | agg hl hh =>
  refine .agg (by rw [hl, h.length]) (fun j c v hc hv => ?_)
  obtain ⟨a, ha, hab⟩ := h.get j c hc
  exact hab _ _ _ (hh j a v ha hv)
theorem PSpec.args {P : Program} {f : FuncId} {l m : List HV} {R : (Nat → Prop) → (Nat → Prop) → Value → World → Prop} (h : HLeL l m) (s : PSpec P f m R) : PSpec P f l R := by
 intro D w vs hD hG hn hrep
 refine s D w vs hD hG (by rw [hn, h.length]) fun j c v hc hv => ?_
 obtain ⟨a, ha, hab⟩ := h.get j c hc
 exact hab _ _ _ (hrep j a v ha hv)
theorem Spec1.args {P : Program} {f : FuncId} {l m : List HV} {x : HV} (h : HLeL l m) (s : Spec1 P f m x) : Spec1 P f l x := PSpec.args h s
theorem SpecT.args {P : Program} {f : FuncId} {l m : List HV} {x : List HV} (h : HLeL l m) (s : SpecT P f m x) : SpecT P f l x := PSpec.args h s
theorem SpecO.args {P : Program} {f : FuncId} {l m : List HV} {e sz : Nat} {x : List (List HV)} (h : HLeL l m) (s : SpecO P f m e sz x) : SpecO P f l e sz x := PSpec.args h s
theorem HT.cond' {P : Program} {σ : HS} {c : Operand} {x y : Code} {Q : Exit → HS → Prop} (h : match opd σ.log c with
  | .lit (.bool b) => (b = true → HT P x σ Q) ∧ (b = false → HT P y σ Q)
  | _ => False) : HT P (.cond c x y) σ Q := by
 split at h
 ·next b hb => exact HT.cond hb h.1 h.2
 ·exact h.elim
def Exit.joinH (M : List Ev) (n : Nat) (Q : Exit → HS → Prop) : Exit → HS → Prop
 | .normal, σ => fits σ.log M ∧ σ.n = n
 | e, σ => Q e σ
@[simp] theorem joinH_normal (M : List Ev) (n : Nat) (Q : Exit → HS → Prop) (σ : HS) : Exit.joinH M n Q .normal σ = (fits σ.log M ∧ σ.n = n) := rfl
@[simp] theorem joinH_ret (M : List Ev) (n : Nat) (Q : Exit → HS → Prop) (σ : HS) : Exit.joinH M n Q .ret σ = Q .ret σ := rfl
@[simp] theorem joinH_exit (M : List Ev) (n i : Nat) (Q : Exit → HS → Prop) (σ : HS) : Exit.joinH M n Q (.exit i) σ = Q (.exit i) σ := rfl
theorem HT.join {P : Program} {σ : HS} {x y : Code} {Q : Exit → HS → Prop} (M : List Ev) (h : HT P x σ (Exit.joinH M σ.n Q)) (k : HT P y ⟨M, σ.n⟩ Q) : HT P (.seq x y) σ Q :=
 HT.seq (h.mono fun e σ' q => by
  cases e with
  | normal =>
   obtain ⟨L, n⟩ := σ'
   obtain ⟨h1, h2⟩ := q
   subst h2
   exact k.keep h1
  | _ => exact q)
def U (x : BitVec 32) : Value := .int .u32 (x.toNat : Int)
@[simp] abbrev u32 (x : BitVec 32) : HV := .lit (U x)
theorem U_eq {x y : BitVec 32} (h : (x.toNat : Int) = y.toNat) : x = y := BitVec.eq_of_toNat_eq (by omega)
theorem evBin_U' (b : Bool) (op : BinOp) (x : BitVec 32) (k : IntKind) (n : Int) : evBin b op (.lit (U x)) (.lit (.int k n)) = (evInt op .u32 k x.toNat n).map .lit := rfl
@[simp] theorem evBin_xorU (b : Bool) (x : BitVec 32) (n : Int) : evBin b .xor (.lit (U x)) (.lit (.int .u32 n)) = some (.lit (U (x ^^^ BitVec.ofInt 32 n))) := by
 rw [evBin_U']
 simp only [evInt, if_true, IntKind.bits]
 rw [wrap_u32_bv, BitVec.ofInt_natCast, BitVec.ofNat_toNat, BitVec.setWidth_eq]
 rfl
@[simp] theorem evBin_xorUU (b : Bool) (x y : BitVec 32) : evBin b .xor (.lit (U x)) (.lit (U y)) = some (.lit (U (x ^^^ y))) := by
 have := evBin_xorU b x y.toNat
 rw [BitVec.ofInt_natCast, BitVec.ofNat_toNat, BitVec.setWidth_eq] at this
 exact this
@[simp] theorem evBin_andU (b : Bool) (x : BitVec 32) (n : Int) : evBin b .and (.lit (U x)) (.lit (.int .u32 n)) = some (.lit (U (x &&& BitVec.ofInt 32 n))) := by
 rw [evBin_U']
 simp only [evInt, if_true, IntKind.bits]
 rw [wrap_u32_bv, BitVec.ofInt_natCast, BitVec.ofNat_toNat, BitVec.setWidth_eq]
 rfl
theorem evBin_shrU (b : Bool) (x : BitVec 32) (k : IntKind) (n : Nat) (h : n ≤ 32) : evBin b .shr (.lit (U x)) (.lit (.int k (n : Int))) = some (.lit (U (x >>> n))) := by
 have h1 : (min (n : Int).toNat (IntKind.u32).bits) = n := by simp [IntKind.bits]; omega
 rw [evBin_U']
 simp only [evInt]
 rw [if_pos (by omega), h1]
 have : (0 : Int) ≤ 2 ^ n := Int.pow_nonneg (by decide)
 simp [Int.fdiv_eq_ediv, Nat.shiftRight_eq_div_pow, this, U]
@[simp] theorem evBin_shr1 (b : Bool) (x : BitVec 32) (k : IntKind) : evBin b .shr (.lit (U x)) (.lit (.int k 1)) = some (.lit (U (x >>> 1))) := evBin_shrU b x k 1 (by decide)
@[simp] theorem evBin_shr4 (b : Bool) (x : BitVec 32) (k : IntKind) : evBin b .shr (.lit (U x)) (.lit (.int k 4)) = some (.lit (U (x >>> 4))) := evBin_shrU b x k 4 (by decide)
@[simp] theorem evBin_quo2 (b : Bool) (x : BitVec 32) : evBin b .quo (.lit (U x)) (.lit (.int .u32 2)) = some (.lit (U (x >>> 1))) := by
 have e : ((x.toNat : Int).tdiv 2) = ((x >>> 1).toNat : Int) := by
  simp [Int.tdiv_eq_ediv, Nat.shiftRight_eq_div_pow]
 rw [evBin_U']
 simp only [evInt]
 rw [if_pos (by decide), e, wrap_u32_bv]
 rfl
@[simp] theorem evBin_rem2 (b : Bool) (x : BitVec 32) : evBin b .rem (.lit (U x)) (.lit (.int .u32 2)) = some (.lit (.int .u32 (if x.getLsbD 0 then 1 else 0))) := by
 rw [evBin_U']
 simp only [evInt]
 rw [if_pos (by decide)]
 have : ((x.toNat : Int).tmod 2) = ((x.toNat % 2 : Nat) : Int) := by
  rw [Int.tmod_eq_emod]; simp
 rw [this, BitVec.getLsbD, Nat.testBit_zero]
 rcases Nat.mod_two_eq_zero_or_one x.toNat with h | h <;> simp [h]
@[simp] theorem evBin_eqlUU (b : Bool) (x y : BitVec 32) : evBin b .eql (.lit (U x)) (.lit (U y)) = some (.lit (.bool (decide (x = y)))) := by
 show some (HV.lit (.bool (decide ((x.toNat : Int) = y.toNat)))) = _
 congr 3
 rw [decide_eq_decide]
 exact ⟨U_eq, fun h => by rw [h]⟩
@[simp] theorem evBin_gtrUU (b : Bool) (x y : BitVec 32) : evBin b .gtr (.lit (U x)) (.lit (U y)) = some (.lit (.bool (decide (y < x)))) := by
 show some (HV.lit (.bool (decide ((y.toNat : Int) < x.toNat)))) = _
 congr 3
 rw [decide_eq_decide, BitVec.lt_def]
 omega
@[simp] theorem evBin_eqlU (b : Bool) (x : BitVec 32) (n : Int) : evBin b .eql (.lit (U x)) (.lit (.int .u32 n)) = some (.lit (.bool (decide ((x.toNat : Int) = n)))) := rfl
@[simp] theorem evUn_xorU (x : BitVec 32) : evUn .xor (.lit (U x)) = some (.lit (U (~~~x))) := by
 have : (BitVec.ofInt 32 4294967295 ^^^ x) = ~~~x := by
  have : BitVec.ofInt 32 4294967295 = BitVec.allOnes 32 := rfl
  rw [this, BitVec.allOnes_xor]
 have e : (IntKind.u32.wrap (BitVec.ofInt IntKind.u32.bits (if IntKind.u32.signed = true then -1 else IntKind.u32.max) ^^^ BitVec.ofInt IntKind.u32.bits (x.toNat : Int)).toNat) = (~~~x).toNat := by
  show (IntKind.u32.wrap (BitVec.ofInt 32 4294967295 ^^^ BitVec.ofInt 32 (x.toNat : Int)).toNat) = (~~~x).toNat
  rw [BitVec.ofInt_natCast, BitVec.ofNat_toNat, BitVec.setWidth_eq, this, wrap_u32_bv]
 show some (HV.lit (.int .u32 (IntKind.u32.wrap (BitVec.ofInt IntKind.u32.bits (if IntKind.u32.signed = true then -1 else IntKind.u32.max) ^^^ BitVec.ofInt IntKind.u32.bits (x.toNat : Int)).toNat))) = _
 rw [e]; rfl
@[simp] def indexAddrI (P : Program) (L : List Ev) (t : Nat) (x : HV) (i : Int) : Option HV :=
 match slInfo P t with
  | some (_, sz, _) => match x with
   | .sl sz' _ es => if 0 ≤ i ∧ i < es.length ∧ sz' = sz then some (.cptr (es.getD i.toNat [])) else none
   | .ref id => match getO L id with
    | .row _ sz' es => if 0 ≤ i ∧ i < es.length ∧ sz' = sz then some (.ptr id (i.toNat * sz)) else none
    | _ => none
   | .view id lo n => if 0 ≤ i ∧ i < n then some (.ptr id (lo + i.toNat * sz)) else none
   | _ => none
  | none => match arInfo P t with
   | some (n, _, sz) => match x with
    | .ptr id off => if 0 ≤ i ∧ i < n then some (.ptr id (off + i.toNat * sz)) else none
    | .cptr cs => if 0 ≤ i ∧ i < n then some (.cptr (cs.drop (i.toNat * sz))) else none
    | _ => none
   | none => none
@[simp] theorem indexAddrHV_int (P : Program) (L : List Ev) (t : Nat) (x : HV) (k : IntKind) (i : Int) : indexAddrHV P L t x (.lit (.int k i)) = indexAddrI P L t x i := rfl
theorem indexAddrHV_U (P : Program) (L : List Ev) (t : Nat) (x : HV) (v : BitVec 32) : indexAddrHV P L t x (.lit (U v)) = indexAddrI P L t x (v.toNat : Int) := rfl
@[simp] theorem one_U (x : BitVec 32) : (U x).oneCell' = true := rfl
attribute [irreducible] U
attribute [simp] indexAddrHV_U
@[simp] theorem isI_U (x : BitVec 32) : isI (.lit (U x)) = true := rfl
@[simp] theorem scal_lit (v : Value) : scal (.lit v) = true := rfl

end Go.Hv
