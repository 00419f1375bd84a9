import Derived.Test.YtcmomegkhoggpaaGreatDoorHvE
import Derived.DeepKeys3
import Derived.Maps.RangeRun
set_option linter.unusedVariables false
set_option linter.unusedSectionVars false
set_option linter.unusedSimpArgs false
/- Maps: what the operations on them compute. -/
namespace Go.Hv
open Go Go.RowKit
variable [GI]
open Go.ChangeMaps (setBlock)
variable {P : Program} {D F : Nat → Prop} {σ : HS} {a : Act} {w : World} {γ : Nat → Value} {bl : Nat → Option Nat}

def mpInfo (P : Program) (t : TypeId) : Option (TypeId × TypeId) :=
 match P.underlying t with
 | some (.map k e) => some (k, e)
 | _ => none
theorem mpInfo_some {t k e : TypeId} (h : mpInfo P t = some (k, e)) : P.underlying t = some (.map k e) := by
 unfold mpInfo at h
 split at h
 ·next hu => cases h; exact hu
 ·cases h
noncomputable def keyEq (P : Program) (t : TypeId) (x y : HV) : Option Bool :=
 match x, y with
 | .lit (.int k1 a), .lit (.int k2 b) => match tk P t with
  | some (.int k) => if k1 = k ∧ k2 = k then some (decide (a = b)) else none
  | _ => none
 | .str a, .str b => match tk P t with
  | some .string => some (decide (a = b))
  | _ => none
 | .agg cs, .agg ds => aggEq P t cs ds
 | _, _ => none
noncomputable def findHV (P : Program) (t : TypeId) (k : HV) : List (HV × HV) → Nat → Option (Option (Nat × HV))
 | [], _ => some none
 | p :: r, i => match keyEq P t k p.1 with
  | some true => some (some (i, p.2))
  | some false => findHV P t k r (i + 1)
  | none => none
def keyOK (P : Program) (t : TypeId) (k : HV) : Bool :=
 match k with
 | .lit (.int k1 _) => match tk P t with
  | some (.int k) => decide (k1 = k)
  | _ => false
 | .str _ => match tk P t with
  | some .string => true
  | _ => false
 | .agg cs => aggKey P t && (keyH P 10 t cs).isSome
 | _ => false
theorem agg_irep {dead : Nat → Prop} {cs : List HV} {v : Value} (r : IRep w dead (.agg cs) v) : ∃ vs : Array Value, v = .agg vs ∧ vs.size = cs.length ∧ ∀ (j : Nat) (c : HV) (u : Value), cs[j]? = some c → vs[j]? = some u → IRep w dead c u := by
 cases r with
 | agg hl h => exact ⟨_, rfl, hl, h⟩
theorem checkKey_int {t : TypeId} {q : IntKind} (hu : P.underlying t = some (.int q)) (em : Bool) (n : Nat) (m : Int) : (Instr.checkKey em (n + 1) t (.int q m)).run P w = .ok () w := by
 simp [Instr.checkKey, run_underlying hu]
theorem checkKey_str {t : TypeId} (hu : P.underlying t = some .string) (em : Bool) (n : Nat) (m : ByteArray) : (Instr.checkKey em (n + 1) t (.string m)).run P w = .ok () w := by
 simp [Instr.checkKey, run_underlying hu]
theorem run_getMap {r : Nat} {es : Array MapEntry} {clock : Nat} (hb : w.heap[r]? = some (.map es clock)) : (getObj r).run P w = .ok (.map es clock) w := by
 simp [getObj, Sem.run, hb]
theorem run_getIter {r : Nat} {m : Option Nat} {since : Nat} {seen : Array Nat} {clock : Nat} (hb : w.heap[r]? = some (.mapIter m since seen clock)) : (getObj r).run P w = .ok (.mapIter m since seen clock) w := by
 simp [getObj, Sem.run, hb]
theorem irep_lit {dead : Nat → Prop} {v u : Value} (r : IRep w dead (.lit v) u) : u = v := (SRep.imm (γ := fun _ => undef) (bl := fun _ => none) r).lit_inv
theorem irep_str {dead : Nat → Prop} {l : List UInt8} {u : Value} (r : IRep w dead (.str l) u) : u = .string ⟨l.toArray⟩ := (SRep.imm (γ := fun _ => undef) (bl := fun _ => none) r).str_inv
theorem bytes_beq (a b : List UInt8) : ((⟨a.toArray⟩ : ByteArray) == ⟨b.toArray⟩) = decide (a = b) := by
 rw [beq_toListBytes]; simp only [ByteArray.toList_mk, lbeq]
theorem keyOK_check {t : TypeId} {k : HV} {v : Value} {dead : Nat → Prop} (h : keyOK P t k = true) (r : SRep w dead γ bl k v) (em : Bool) : (Instr.checkKey em 10000 t v).run P w = .ok () w := by
 unfold keyOK at h
 split at h
 ·next k1 n =>
  rw [r.lit_inv]
  split at h
  ·next q hq =>
   obtain ⟨d, hu, hd⟩ := tk_some hq
   simp only at hd
   subst hd
   simp only [decide_eq_true_eq] at h
   subst h
   exact checkKey_int hu em 9999 n
  ·cases h
 ·next l =>
  rw [r.str_inv]
  split at h
  ·next hq =>
   obtain ⟨d, hu, hd⟩ := tk_some hq
   simp only at hd
   subst hd
   exact checkKey_str hu em 9999 _
  ·cases h
 ·next cs =>
  simp only [Bool.and_eq_true] at h
  obtain ⟨h1, h2⟩ := h
  obtain ⟨K, hK⟩ := Option.isSome_iff_exists.1 h2
  obtain ⟨us, rfl, ul, ur⟩ := agg_inv r
  have hl := keyH_ok (P := P) 10 t cs us.toList K hK (by simpa using ul) (fun j c v hc hv => ur j c v hc (by simpa using hv))
  simp only [aggKey, Bool.and_eq_true, Bool.not_eq_true'] at h1
  obtain ⟨⟨hk1, hk2⟩, hk3⟩ := h1
  refine run_checkKey_deep em 9990 10 t hk1 w 10 (.agg us) K ?_ hl
  split at hk3
  ·next fs hut =>
   unfold Program.keyLits at hl
   simp only [hut, Option.ite_none_right_eq_some] at hl
   simp only [Value.formed, hut, beq_iff_eq]
   simpa using hl.1.1
  ·cases hk3
 ·cases h

inductive KeyRel (w : World) (dead : Nat → Prop) : List (HV × HV) → List MapEntry → Prop
 | nil : KeyRel w dead [] []
 | cons {p : HV × HV} {e : MapEntry} {es : List (HV × HV)} {l : List MapEntry} (h : IRep w dead p.1 e.key) (r : KeyRel w dead es l) : KeyRel w dead (p :: es) (e :: l)
theorem KeyRel.of {dead : Nat → Prop} : ∀ {es : List (HV × HV)} {l : List MapEntry}, l.length = es.length → (∀ (i : Nat) (p : HV × HV) (e : MapEntry), es[i]? = some p → l[i]? = some e → IRep w dead p.1 e.key) → KeyRel w dead es l
 | [], [], _, _ => .nil
 | p :: es, e :: l, hl, h => .cons (h 0 p e rfl rfl) (KeyRel.of (by simpa using hl) fun i q f hq hf => h (i + 1) q f (by simpa using hq) (by simpa using hf))
def Found (P : Program) (t : TypeId) (k : HV) (es : List (HV × HV)) (l : List MapEntry) (i : Nat) (r : Option (Nat × HV)) (r' : Option (Nat × Value)) : Prop :=
 match r with
 | none => r' = none
 | some (j, x) => ∃ e p, r' = some (j, e.val) ∧ i ≤ j ∧ es[j - i]? = some p ∧ p.2 = x ∧ l[j - i]? = some e ∧ keyEq P t k p.1 = some true
theorem Found.next {t : TypeId} {k : HV} {p : HV × HV} {e : MapEntry} {es : List (HV × HV)} {l : List MapEntry} {i : Nat} {r : Option (Nat × HV)} {r' : Option (Nat × Value)} (h : Found P t k es l (i + 1) r r') : Found P t k (p :: es) (e :: l) i r r' := by
 unfold Found at h ⊢
 split at h
 ·exact h
 ·next j x =>
  obtain ⟨e', p', h1, h2, h3, h4, h5, h6⟩ := h
  have : j - i = (j - (i + 1)) + 1 := by omega
  exact ⟨e', p', h1, by omega, by rw [this]; simpa using h3, h4, by rw [this]; simpa using h5, h6⟩
theorem findNow_int {t : TypeId} {q : IntKind} {dead : Nat → Prop} (hq : tk P t = some (.int q)) {n : Int} : ∀ (es : List (HV × HV)) (l : List MapEntry) (i : Nat) (r : Option (Nat × HV)), KeyRel w dead es l → findHV P t (.lit (.int q n)) es i = some r →
  ∃ r', Instr.findNow (.int q) (.int q n) l i = some r' ∧ Found P t (.lit (.int q n)) es l i r r'
 | [], _, i, r, .nil, h => by simp only [findHV, Option.some.injEq] at h; subst h; exact ⟨none, rfl, rfl⟩
 | p :: es, _, i, r, .cons (e := e) (l := l) hk hr, h => by
  simp only [findHV] at h
  obtain ⟨b, hb⟩ : ∃ b, keyEq P t (.lit (.int q n)) p.1 = some b := by
   cases hb : keyEq P t (.lit (.int q n)) p.1 with
   | none => rw [hb] at h; simp at h
   | some b => exact ⟨b, rfl⟩
  have hb' := hb
  unfold keyEq at hb
  split at hb
  ·next k1 a k2 c hx hy =>
   cases hx
   simp only [hq, Option.ite_none_right_eq_some, Option.some.injEq] at hb
   obtain ⟨⟨_, rfl⟩, rfl⟩ := hb
   rw [hy] at hk
   have hkey : e.key = .int k2 c := irep_lit hk
   rw [hb'] at h
   by_cases hnc : n = c
   ·simp only [hnc, decide_true] at h
    simp only [Option.some.injEq] at h
    subst h
    refine ⟨some (i, e.val), by simp [Instr.findNow, Instr.sameNow, hkey, hnc], e, p, rfl, Nat.le_refl _, by simp, rfl, by simp, by rw [hb']; simp [hnc]⟩
   ·simp only [hnc, decide_false] at h
    obtain ⟨r', h1, h2⟩ := findNow_int hq es l (i + 1) r hr h
    exact ⟨r', by simp [Instr.findNow, Instr.sameNow, hkey, show (n == c) = false by simpa using hnc, h1], h2.next⟩
  ·next hx hy => cases hx
  ·next hx hy => cases hx
  ·cases hb
theorem findNow_str {t : TypeId} {dead : Nat → Prop} (hq : tk P t = some .string) {n : List UInt8} : ∀ (es : List (HV × HV)) (l : List MapEntry) (i : Nat) (r : Option (Nat × HV)), KeyRel w dead es l → findHV P t (.str n) es i = some r →
  ∃ r', Instr.findNow .string (.string ⟨n.toArray⟩) l i = some r' ∧ Found P t (.str n) es l i r r'
 | [], _, i, r, .nil, h => by simp only [findHV, Option.some.injEq] at h; subst h; exact ⟨none, rfl, rfl⟩
 | p :: es, _, i, r, .cons (e := e) (l := l) hk hr, h => by
  simp only [findHV] at h
  obtain ⟨b, hb⟩ : ∃ b, keyEq P t (.str n) p.1 = some b := by
   cases hb : keyEq P t (.str n) p.1 with
   | none => rw [hb] at h; simp at h
   | some b => exact ⟨b, rfl⟩
  have hb' := hb
  unfold keyEq at hb
  split at hb
  ·next hx hy => cases hx
  ·next x c hx hy =>
   cases hx
   simp only [hq, Option.some.injEq] at hb
   subst hb
   rw [hy] at hk
   have hkey : e.key = .string ⟨c.toArray⟩ := irep_str hk
   have hs := bytes_beq n c
   rw [hb'] at h
   by_cases hnc : n = c
   ·simp only [hnc, decide_true] at h
    simp only [Option.some.injEq] at h
    subst h
    refine ⟨some (i, e.val), by simp only [Instr.findNow, Instr.sameNow, hkey, hs]; simp [hnc], e, p, rfl, Nat.le_refl _, by simp, rfl, by simp, by rw [hb']; simp [hnc]⟩
   ·simp only [hnc, decide_false] at h
    obtain ⟨r', h1, h2⟩ := findNow_str hq es l (i + 1) r hr h
    exact ⟨r', by simp only [Instr.findNow, Instr.sameNow, hkey, hs]; simp [hnc, h1], h2.next⟩
  ·next hx hy => cases hx
  ·cases hb
theorem findAsk_agg {t : TypeId} {dead : Nat → Prop} {cs : List HV} {us : Array Value} (hu : SRep w dead γ bl (.agg cs) (.agg us)) : ∀ (es : List (HV × HV)) (l : List MapEntry) (i : Nat) (r : Option (Nat × HV)), KeyRel w dead es l → findHV P t (.agg cs) es i = some r →
  ∃ r', (Instr.findAsking t (.agg us) l i).run P w = .ok r' w ∧ Found P t (.agg cs) es l i r r'
 | [], _, i, r, .nil, h => by simp only [findHV, Option.some.injEq] at h; subst h; exact ⟨none, rfl, rfl⟩
 | p :: es, _, i, r, .cons (e := e) (l := l) hk hr, h => by
  simp only [findHV] at h
  obtain ⟨b, hb⟩ : ∃ b, keyEq P t (.agg cs) p.1 = some b := by
   cases hb : keyEq P t (.agg cs) p.1 with
   | none => rw [hb] at h; simp at h
   | some b => exact ⟨b, rfl⟩
  have hb' := hb
  unfold keyEq at hb
  split at hb
  ·next hx hy => cases hx
  ·next hx hy => cases hx
  ·next cs' ds hx hy =>
   cases hx
   rw [hy] at hk
   have hrun := (aggEq_run (P := P) hb hu (SRep.imm (γ := γ) (bl := bl) hk)).1
   rw [hb'] at h
   cases b with
   | true =>
    simp only [Option.some.injEq] at h
    subst h
    exact ⟨some (i, e.val), by simp [Instr.findAsking, hrun], e, p, rfl, Nat.le_refl _, by simp, rfl, by simp, hb'⟩
   | false =>
    simp only at h
    obtain ⟨r', h1, h2⟩ := findAsk_agg hu es l (i + 1) r hr h
    exact ⟨r', by simp [Instr.findAsking, hrun, h1], h2.next⟩
  ·cases hb
theorem findKey_run {t : TypeId} {dead : Nat → Prop} {k : HV} {v : Value} (hk : keyOK P t k = true) (rk : SRep w dead γ bl k v) {es : List (HV × HV)} {l : List MapEntry} {r : Option (Nat × HV)} (hr : KeyRel w dead es l) (h : findHV P t k es 0 = some r) :
  ∃ r', (Instr.findKey t v l).run P w = .ok r' w ∧ Found P t k es l 0 r r' := by
 unfold keyOK at hk
 split at hk
 ·next k1 n =>
  rw [rk.lit_inv]
  split at hk
  ·next q hq =>
   simp only [decide_eq_true_eq] at hk
   subst hk
   obtain ⟨d, hu, hd⟩ := tk_some hq
   simp only at hd
   subst hd
   obtain ⟨r', h1, h2⟩ := findNow_int hq es l 0 r hr h
   exact ⟨r', by simp [Instr.findKey, run_underlying hu, h1], h2⟩
  ·cases hk
 ·next n =>
  rw [rk.str_inv]
  split at hk
  ·next hq =>
   obtain ⟨d, hu, hd⟩ := tk_some hq
   simp only at hd
   subst hd
   obtain ⟨r', h1, h2⟩ := findNow_str hq es l 0 r hr h
   exact ⟨r', by simp [Instr.findKey, run_underlying hu, h1], h2⟩
  ·cases hk
 ·next cs =>
  simp only [aggKey, Bool.and_eq_true] at hk
  obtain ⟨⟨_, hk3⟩, _⟩ := hk
  split at hk3
  ·next fs hu =>
   obtain ⟨us, rfl, _, _⟩ := agg_inv rk
   obtain ⟨r', h1, h2⟩ := findAsk_agg rk es l 0 r hr h
   cases hr with
   | nil => refine ⟨r', ?_, h2⟩; simpa [Instr.findKey, run_underlying hu, Instr.findNow, Instr.findAsking] using h1
   | cons hk' hr' => exact ⟨r', by simp [Instr.findKey, run_underlying hu, Instr.findNow, Instr.sameNow, h1], h2⟩
  ·cases hk3
 ·cases hk

/-! ### The entries of a map -/
def entsOf (L : List Ev) (x : HV) : Option (List (HV × HV)) :=
 match x with
 | .mp es => some es
 | .mref id => match getO L id with
  | .map es => some es
  | _ => none
 | _ => none
theorem entsOf_rep (S : Sim D F σ a w γ bl) {x : HV} {es : List (HV × HV)} {v : Value} (e : entsOf σ.log x = some es) (r : SRep w (dd D σ.log bl) γ bl x v) :
  (es = [] ∧ v = .map none) ∨ ∃ b ents clock, v = .map (some b) ∧ w.heap[b]? = some (.map ents clock) ∧ ents.size = es.length ∧ (ents.toList.map (·.born)).Nodup ∧ (∀ (i : Nat) (e : MapEntry), ents[i]? = some e → e.born < clock) ∧
   (∀ (i : Nat) (k x : HV) (e : MapEntry), es[i]? = some (k, x) → ents[i]? = some e → IRep w (dd D σ.log bl) k e.key ∧ SRep w (dd D σ.log bl) γ bl x e.val) := by
 unfold entsOf at e
 split at e
 ·cases e
  cases r with
  | imm hi =>
   cases hi with
   | mnil => exact .inl ⟨rfl, rfl⟩
   | mp hb hm hl hck hbo hk hx => exact .inr ⟨_, _, _, rfl, hm, hl, hck, hbo, fun i k x e h1 h2 => ⟨hk i k x e h1 h2, .imm (hx i k x e h1 h2)⟩⟩
 ·next id =>
  split at e
  ·next es' ho =>
   cases e
   cases r with
   | imm hi => cases hi
   | mref hb =>
    have R := S.hobj id
    rw [ho] at R
    obtain ⟨b', ents, clock, k1, k2, k3, k4, k5, k6⟩ := R
    rw [hb] at k1
    cases k1
    exact .inr ⟨_, ents, clock, rfl, k2, k3, k4, k5, k6⟩
  ·cases e
 ·cases e
theorem keyRel_of {dead : Nat → Prop} {ents : Array MapEntry} {es : List (HV × HV)} (hl : ents.size = es.length) (h : ∀ (i : Nat) (k x : HV) (e : MapEntry), es[i]? = some (k, x) → ents[i]? = some e → IRep w dead k e.key) : KeyRel w dead es ents.toList :=
 KeyRel.of (by simpa using hl) fun i p e hp he => h i p.1 p.2 e hp (by simpa using he)
def ofZero (z : Value) : HV :=
 match z with
 | .agg vs => .agg (vs.toList.map ofConst)
 | v => ofConst v
theorem ofZero_rep (w : World) (dead : Nat → Prop) (z : Value) : IRep w dead (ofZero z) z := by
 unfold ofZero
 split
 ·next vs =>
  refine .agg (by simp) fun j c v hc hv => ?_
  rw [List.getElem?_map, Array.getElem?_toList, hv] at hc
  simp only [Option.map_some, Option.some.injEq] at hc
  subst hc
  exact ofConst_rep w dead v
 ·exact ofConst_rep w dead _
def zOneHV (P : Program) (t : TypeId) : Option HV :=
 match P.info? t with
 | some i => match i.zero with
  | some z => some (ofZero z)
  | none => none
 | none => none
theorem zOne_run {t : TypeId} {h : HV} (e : zOneHV P t = some h) (dead : Nat → Prop) : ∃ z, (zeroValue t).run P w = .ok z w ∧ IRep w dead h z := by
 unfold zOneHV at e
 split at e
 ·next i hi =>
  split at e
  ·next z hz =>
   cases e
   exact ⟨z, by simp [zeroValue, typeInfo, hi, hz], ofZero_rep w dead z⟩
  ·cases e
 ·cases e
noncomputable def lookupHV (P : Program) (L : List Ev) (t : TypeId) (x k : HV) (ok : Bool) : Option HV :=
 match mpInfo P t with
 | some (kt, et) => match entsOf L x, zOneHV P et with
  | some es, some z => if keyOK P kt k = true then match findHV P kt k es 0 with
    | some (some r) => some (if ok = true then .tup [r.2, .lit (.bool true)] else r.2)
    | some none => some (if ok = true then .tup [z, .lit (.bool false)] else z)
    | none => none
   else none
  | _, _ => none
 | none => none
theorem tup2 {dead : Nat → Prop} {x y : HV} {u v : Value} (hx : SRep w dead γ bl x u) (hy : SRep w dead γ bl y v) : SRep w dead γ bl (.tup [x, y]) (.tuple #[u, v]) := by
 refine .tup rfl fun j c z hc hz => ?_
 match j with
 | 0 => simp at hc hz; subst hc; subst hz; exact hx
 | 1 => simp at hc hz; subst hc; subst hz; exact hy
 | n + 2 => simp at hc
theorem lookup_run (S : Sim D F σ a w γ bl) {t : TypeId} {x k h : HV} {ok : Bool} {xv kv : Value} (e : lookupHV P σ.log t x k ok = some h) (rx : SRep w (dd D σ.log bl) γ bl x xv) (rk : SRep w (dd D σ.log bl) γ bl k kv) :
  ∃ v, (Instr.lookup t xv kv ok).run P w = .ok v w ∧ SRep w (dd D σ.log bl) γ bl h v := by
 unfold lookupHV at e
 split at e
 ·next kt et hm =>
  have hu := mpInfo_some hm
  split at e
  ·next es z he hz =>
   simp only [Option.ite_none_right_eq_some] at e
   obtain ⟨hk, e⟩ := e
   obtain ⟨zv, hzr, hzI⟩ := zOne_run (P := P) (w := w) hz (dd D σ.log bl)
   have hck := fun em => keyOK_check (P := P) hk rk em
   have main : ∀ (l : Array MapEntry), KeyRel w (dd D σ.log bl) es l.toList → (∀ (i : Nat) (k x : HV) (e : MapEntry), es[i]? = some (k, x) → l[i]? = some e → SRep w (dd D σ.log bl) γ bl x e.val) →
     ∃ v, (do
      Instr.checkKey l.isEmpty 10000 kt kv
      let (v, ok') ← match ← Instr.findKey kt kv l.toList with
       | some (_, v) => pure (v, true)
       | none => pure (← zeroValue et, false)
      pure (if ok then .tuple #[v, .bool ok'] else v) : Sem Value).run P w = .ok v w ∧ SRep w (dd D σ.log bl) γ bl h v := by
    intro l hl hv
    cases hf : findHV P kt k es 0 with
    | none => rw [hf] at e; cases e
    | some r =>
     obtain ⟨r', h1, h2⟩ := findKey_run (P := P) hk rk hl hf
     rw [hf] at e
     cases r with
     | none =>
      simp only [Found] at h2
      subst h2
      simp only [Option.some.injEq] at e
      subst e
      refine ⟨_, by simp only [Sem.run_bind, hck, Result.andThen_ok, h1, hzr, Sem.run_pure]; rfl, ?_⟩
      split
      ·exact tup2 (.imm hzI) (.imm (.lit _))
      ·exact .imm hzI
     | some jx =>
      obtain ⟨j, x⟩ := jx
      obtain ⟨en, p, rfl, _, h3, h4, h5, _⟩ := h2
      simp only [Option.some.injEq] at e
      subst e
      have hr := hv (j - 0) p.1 p.2 en h3 (by simpa using h5)
      rw [h4] at hr
      refine ⟨_, by simp only [Sem.run_bind, hck, Result.andThen_ok, h1, Sem.run_pure]; rfl, ?_⟩
      split
      ·exact tup2 hr (.imm (.lit _))
      ·exact hr
   rcases entsOf_rep S he rx with ⟨rfl, rfl⟩ | ⟨b, ents, clock, rfl, h1, h2, h3, h4, h5⟩
   ·obtain ⟨v, hv, r⟩ := main #[] .nil (fun i k x e h => by simp at h)
    refine ⟨v, ?_, r⟩
    unfold Instr.lookup
    simp only [Sem.run_bind, run_underlying hu, Result.andThen_ok, Sem.run_pure] at hv ⊢
    exact hv
   ·obtain ⟨v, hv, r⟩ := main ents (keyRel_of h2 (fun i k x e p q => (h5 i k x e p q).1)) (fun i k x e p q => (h5 i k x e p q).2)
    refine ⟨v, ?_, r⟩
    unfold Instr.lookup
    simp only [Sem.run_bind, run_underlying hu, Result.andThen_ok, Sem.run_pure, run_getMap h1] at hv ⊢
    exact hv
  ·cases e
 ·cases e
def mapLenHV (P : Program) (L : List Ev) (t : TypeId) (x : HV) : Option HV :=
 match mpInfo P t with
 | some _ => match entsOf L x with
  | some es => some (.lit (.int .i64 es.length))
  | none => none
 | none => none
theorem mapLen_run (S : Sim D F σ a w γ bl) {t : TypeId} {x h : HV} {v : Value} (e : mapLenHV P σ.log t x = some h) (r : SRep w (dd D σ.log bl) γ bl x v) (ty : Nat) :
  ∃ u, (Builtin.len_ #[t] ty #[v]).run P w = .ok u w ∧ SRep w (dd D σ.log bl) γ bl h u := by
 unfold mapLenHV at e
 split at e
 ·next kt hm =>
  have hu := mpInfo_some hm
  split at e
  ·next es he =>
   cases e
   rcases entsOf_rep S he r with ⟨rfl, rfl⟩ | ⟨b, ents, clock, rfl, h1, h2, h3, h4, h5⟩
   ·exact ⟨_, by simp [Builtin.len_, run_underlying hu]; rfl, .imm (.lit _)⟩
   ·refine ⟨_, by simp [Builtin.len_, run_underlying hu, run_getMap h1]; rfl, ?_⟩
    rw [h2]; exact .imm (.lit _)
  ·cases e
 ·cases e
def entryHV (L : List Ev) (x : HV) : Option HV :=
 match x with
 | .ptr id 0 => match getO L id with
  | .iter _ _ (some p) => some (.tup [p.1, p.2])
  | _ => none
 | _ => none
theorem entry_run (S : Sim D F σ a w γ bl) {x h : HV} {v : Value} (e : entryHV σ.log x = some h) (r : SRep w (dd D σ.log bl) γ bl x v) : ∃ u, (Instr.entry v).run P w = .ok u w ∧ SRep w (dd D σ.log bl) γ bl h u := by
 unfold entryHV at e
 split at e
 ·next id =>
  split at e
  ·next es left p ho =>
   cases e
   have R := S.hobj id
   rw [ho] at R
   obtain ⟨b, mv, seen, bs, ck, h1, h2, h3, h4, h5⟩ := R
   cases r with
   | imm hi => cases hi
   | ptr hb =>
    rw [h1] at hb
    cases hb
    obtain ⟨i, n, hi, hin, hp⟩ := h5 p.1 p.2 rfl
    cases h3 with
    | mpbnil => simp at hp
    | @mpb _ _ mb ents clock hb hm hl hck hbo hbs hk hx =>
     have hil : i < ents.size := by rw [hl]; exact getElem?_lt hp
     have he : ents[i]? = some ents[i] := Array.getElem?_eq_getElem hil
     have hb1 : ents[i].born = n := by
      rw [← hbs, List.getElem?_map, Array.getElem?_toList, he] at hin
      simpa using hin
     have hf : ents.find? (·.born == n) = some ents[i] := by
      rw [← Array.find?_toList]
      have := find_born ents[i] ents.toList hck (by simp)
      rw [hb1] at this
      exact this
     refine ⟨.tuple #[ents[i].key, ents[i].val], ?_, tup2 (.imm (hk i p.1 p.2 _ hp he)) (.imm (hx i p.1 p.2 _ hp he))⟩
     simp [Instr.entry, run_getIter h2, run_getMap hm, hi, hf]
  ·cases e
 ·cases e
end Go.Hv
