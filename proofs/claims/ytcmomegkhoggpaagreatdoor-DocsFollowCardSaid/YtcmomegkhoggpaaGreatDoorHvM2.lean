import Derived.Test.YtcmomegkhoggpaaGreatDoorHvM
set_option linter.unusedVariables false
set_option linter.unusedSectionVars false
set_option linter.unusedSimpArgs false
/- Maps: operations that turn the world. -/
namespace Go.Hv
open Go Go.RowKit
variable [GI]
open Go.ChangeMaps (setBlock)
variable {P : Program} {D F : Nat → Prop} {σ : HS} {a : Act} {w : World} {γ : Nat → Value} {bl : Nat → Option Nat}

def scal1 (h : HV) : Bool :=
 match h with
 | .lit (.int _ _) | .lit (.bool _) | .str _ => true
 | _ => false
def scalK (h : HV) : Bool :=
 match h with
 | .agg cs => cs.all scal1
 | h => scal1 h
theorem scal1_det {dead dead' : Nat → Prop} {h : HV} {u v : Value} (hs : scal1 h = true) (r : IRep w dead h u) (r' : IRep w dead' h v) : u = v ∧ ∀ n, Instr.sameBits n u v = true := by
 unfold scal1 at hs
 split at hs
 ·rw [irep_lit r, irep_lit r']; exact ⟨rfl, fun n => by cases n <;> simp [Instr.sameBits]⟩
 ·rw [irep_lit r, irep_lit r']; exact ⟨rfl, fun n => by cases n <;> simp [Instr.sameBits]⟩
 ·next l => rw [irep_str r, irep_str r']; exact ⟨rfl, fun n => by cases n <;> (simp only [Instr.sameBits, bytes_beq]; simp)⟩
 ·cases hs
theorem scalK_det {dead dead' : Nat → Prop} {h : HV} {u v : Value} (hs : scalK h = true) (r : IRep w dead h u) (r' : IRep w dead' h v) : u = v ∧ ∀ n, Instr.sameBits (n + 1) u v = true := by
 unfold scalK at hs
 split at hs
 ·next cs =>
  obtain ⟨us, rfl, ul, ur⟩ := agg_irep r
  obtain ⟨vs, rfl, vl, vr⟩ := agg_irep r'
  have key : ∀ j, j < cs.length → us[j]? = vs[j]? ∧ ∀ x y, us[j]? = some x → vs[j]? = some y → ∀ n, Instr.sameBits n x y = true := fun j hj => by
   have hc : cs[j]? = some cs[j] := List.getElem?_eq_getElem hj
   have hu : us[j]? = some (us[j]'(by omega)) := Array.getElem?_eq_getElem (by omega)
   have hv : vs[j]? = some (vs[j]'(by omega)) := Array.getElem?_eq_getElem (by omega)
   have := scal1_det (List.all_eq_true.1 hs _ (List.getElem_mem hj)) (ur j _ _ hc hu) (vr j _ _ hc hv)
   refine ⟨by rw [hu, hv, this.1], fun x y hx hy n => ?_⟩
   rw [hu] at hx; rw [hv] at hy
   cases hx; cases hy
   exact this.2 n
  refine ⟨?_, fun n => ?_⟩
  ·congr 1
   apply Array.ext_getElem?
   intro j
   rcases Nat.lt_or_ge j cs.length with hj | hj
   ·exact (key j hj).1
   ·rw [Array.getElem?_eq_none (by omega), Array.getElem?_eq_none (by omega)]
  ·simp only [Instr.sameBits, Bool.and_eq_true, beq_iff_eq, List.all_eq_true]
   refine ⟨by omega, fun p hp => ?_⟩
   obtain ⟨j, hj⟩ := List.mem_iff_getElem?.1 hp
   rw [List.getElem?_zip_eq_some] at hj
   obtain ⟨h1, h2⟩ := hj
   rw [Array.getElem?_toList] at h1 h2
   exact (key j (by rcases Nat.lt_or_ge j cs.length with h | h; exact h; rw [Array.getElem?_eq_none (by omega)] at h1; cases h1)).2 _ _ h1 h2 n
 ·have := scal1_det hs r r'
  exact ⟨this.1, fun n => this.2 _⟩

open Classical in
noncomputable def mapUpdHV (P : Program) (L : List Ev) (t : TypeId) (m k v : HV) : Option (List Ev) :=
 match mpInfo P t with
 | some (kt, _) => match m with
  | .mref id => match getO L id with
   | .map es => if keyOK P kt k = true ∧ isI k = true then match findHV P kt k es 0 with
     | some (some r) => if scalK k = true ∧ es[r.1]?.map (·.1) = some k then some (.o id (.map (es.set r.1 (k, v))) :: L) else none
     | some none => some (.o id (.map (es ++ [(k, v)])) :: L)
     | none => none
    else none
   | _ => none
  | _ => none
 | none => none
theorem setObj_map {b : Nat} {ents : Array MapEntry} {clock : Nat} (h : w.heap[b]? = some (.map ents clock)) (o : Obj) : (setObj b o).run P w = .ok () (setBlock w b o) := by
 simp [setObj, Sem.run, h, setBlock]
theorem heap_setBlock (w : World) (b : Nat) (o : Obj) (k : Nat) : (setBlock w b o).heap[k]? = if b = k ∧ b < w.heap.size then some o else w.heap[k]? := by
 simp only [setBlock, Array.getElem?_setIfInBounds]
 split
 ·next h => subst h; split <;> simp_all
 ·next h => simp [h]
theorem size_setBlock (w : World) (b : Nat) (o : Obj) : (setBlock w b o).heap.size = w.heap.size := by simp [setBlock]
theorem Kept.setBlock {F : Nat → Prop} {w0 w : World} {b : Nat} (hb : ¬ F b) (h : Kept F w0 w) (o : Obj) : Kept F w0 (setBlock w b o) :=
 ⟨h.os, h.tape, h.output, by rw [size_setBlock]; exact h.size, fun k hk => by
  rw [heap_setBlock, if_neg (by rintro ⟨rfl, _⟩; exact hb hk)]; exact h.block k hk⟩
theorem mapUpd_run (S : Sim D F σ a w γ bl) {t : TypeId} {m k v : HV} {L' : List Ev} {mv kv vv : Value} (e : mapUpdHV P σ.log t m k v = some L') (rm : SRep w (dd D σ.log bl) γ bl m mv) (rk : SRep w (dd D σ.log bl) γ bl k kv) (rv : SRep w (dd D σ.log bl) γ bl v vv) :
  ∃ w', (Instr.mapUpdate t mv kv vv).run P w = .ok () w' ∧ Kept F w w' ∧ Sim D F ⟨L', σ.n⟩ a w' γ bl := by
 unfold mapUpdHV at e
 split at e
 ·next kt et hm =>
  have hu := mpInfo_some hm
  split at e
  ·next id =>
   split at e
   ·next es ho =>
    simp only [Option.ite_none_right_eq_some] at e
    obtain ⟨⟨hk, hki⟩, e⟩ := e
    have hlive : getO σ.log id ≠ .gone := by rw [ho]; simp
    have R := S.hobj id
    rw [ho] at R
    obtain ⟨b, ents, clock, h1, h2, h3, h4, h5, h6⟩ := R
    obtain rfl : mv = .map (some b) := by
     cases rm with
     | imm hi => cases hi
     | mref hb => rw [h1] at hb; cases hb; rfl
    have hbl : b < w.heap.size := lt_of_get h2
    have hF : ¬ F b := (S.hblk id b hlive h1).1
    have kI := rk.toI hki
    have hck := keyOK_check (P := P) hk rk false
    have step : ∀ (ents' : Array MapEntry) (clock' : Nat) (es' : List (HV × HV)), ents'.size = es'.length → (ents'.toList.map (·.born)).Nodup → (∀ (i : Nat) (e : MapEntry), ents'[i]? = some e → e.born < clock') →
      (∀ (i : Nat) (k x : HV) (e : MapEntry), es'[i]? = some (k, x) → ents'[i]? = some e → IRep w (dd D σ.log bl) k e.key ∧ SRep w (dd D σ.log bl) γ bl x e.val) →
      Sim D F ⟨.o id (.map es') :: σ.log, σ.n⟩ a (setBlock w b (.map ents' clock')) γ bl := by
     intro ents' clock' es' q1 q2 q3 q4
     refine S.set hlive (by simp) (by rw [size_setBlock]; exact Nat.le_refl _) (fun k hk hne => by rw [heap_setBlock, if_neg (by rintro ⟨rfl, _⟩; exact hne h1)]) (fun hS hI => ?_)
     exact ⟨b, ents', clock', h1, by rw [heap_setBlock, if_pos ⟨rfl, hbl⟩], q1, q2, q3, fun i k x e hx he => ⟨hI _ _ (q4 i k x e hx he).1, hS _ _ (q4 i k x e hx he).2⟩⟩
    have hKR : KeyRel w (dd D σ.log bl) es ents.toList := keyRel_of h3 (fun i k x e p q => (h6 i k x e p q).1)
    cases hf : findHV P kt k es 0 with
    | none => rw [hf] at e; cases e
    | some r =>
     obtain ⟨r', g1, g2⟩ := findKey_run (P := P) hk rk hKR hf
     rw [hf] at e
     cases r with
     | none =>
      simp only [Found] at g2
      subst g2
      simp only [Option.some.injEq] at e
      subst e
      refine ⟨_, ?_, (Kept.refl _ _).setBlock hF (.map (ents.push { key := kv, val := vv, born := clock }) (clock + 1)), step _ _ _ (by simp [h3]) ?_ (fun i e he => ?_) (fun i k' x e hx he => ?_)⟩
      ·simp only [Instr.mapUpdate, Sem.run_bind, run_underlying hu, Result.andThen_ok, run_getMap h2, hck, g1, setObj_map h2]
      ·rw [Array.toList_push, List.map_append, List.nodup_append]
       refine ⟨h4, by simp, fun x hx y hy => ?_⟩
       simp only [List.map_cons, List.map_nil, List.mem_singleton] at hy
       obtain ⟨e, he, rfl⟩ := List.mem_map.1 hx
       obtain ⟨i, hi⟩ := List.mem_iff_getElem?.1 he
       rw [Array.getElem?_toList] at hi
       have := h5 i e hi
       omega
      ·rw [Array.getElem?_push] at he
       split at he
       ·next hi => cases he; exact Nat.lt_succ_self _
       ·exact Nat.lt_succ_of_lt (h5 i e he)
      ·rw [Array.getElem?_push] at he
       split at he
       ·next hi =>
        cases he
        rw [List.getElem?_append_right (by omega), hi, h3] at hx
        simp at hx
        obtain ⟨rfl, rfl⟩ := hx
        exact ⟨kI, rv⟩
       ·next hi =>
        have hil : i < ents.size := by
         rcases Nat.lt_or_ge i ents.size with h | h
         ·exact h
         ·rw [Array.getElem?_eq_none h] at he; cases he
        rw [List.getElem?_append_left (by omega)] at hx
        exact h6 i k' x e hx he
     | some jx =>
      obtain ⟨j, x⟩ := jx
      obtain ⟨en, p, rfl, _, g3, g4, g5, _⟩ := g2
      simp only [Option.ite_none_right_eq_some, Option.some.injEq] at e
      obtain ⟨⟨hsk, hkk⟩, rfl⟩ := e
      have g3' : es[j]? = some p := g3
      have g5' : ents[j]? = some en := by simpa using g5
      have hjl : j < ents.size := by
       rcases Nat.lt_or_ge j ents.size with h | h
       ·exact h
       ·rw [Array.getElem?_eq_none h] at g5'; cases g5'
      have hp1 : p.1 = k := by simp only [g3', Option.map_some, Option.some.injEq] at hkk; exact hkk
      have hold := (h6 j p.1 p.2 en g3' g5').1
      rw [hp1] at hold
      have hsame := (scalK_det hsk hold kI).2 9999
      refine ⟨_, ?_, (Kept.refl _ _).setBlock hF (.map (ents.modify j fun e => { e with key := kv, val := vv }) clock), step _ _ _ (by simp [h3]) ?_ (fun i e he => ?_) (fun i k' x' e hx he => ?_)⟩
      ·have hks : (Instr.keyThatStays (((ents[j]?).map (·.key)).getD kv) kv).run P w = .ok kv w := by
        simp only [g5', Option.map_some, Option.getD_some, Instr.keyThatStays, hsame, if_true, Sem.run_pure]
       simp only [Instr.mapUpdate, Sem.run_bind, run_underlying hu, Result.andThen_ok, run_getMap h2, hck, g1, hks, setObj_map h2]
      ·rw [show ((ents.modify j fun e => { e with key := kv, val := vv }).toList.map (·.born)) = ents.toList.map (·.born) from ?_]
       ·exact h4
       ·apply List.ext_getElem?
        intro m
        rw [List.getElem?_map, List.getElem?_map, Array.getElem?_toList, Array.getElem?_toList, Array.getElem?_modify]
        split
        ·next hm => subst hm; cases ents[j]? <;> rfl
        ·rfl
      ·rw [Array.getElem?_modify] at he
       split at he
       ·next hi =>
        subst hi
        rw [g5'] at he
        simp only [Option.map_some, Option.some.injEq] at he
        subst he
        exact h5 j en g5'
       ·exact h5 i e he
      ·rw [Array.getElem?_modify] at he
       rw [List.getElem?_set] at hx
       split at he
       ·next hi =>
        subst hi
        rw [if_pos rfl, if_pos (by omega)] at hx
        rw [g5'] at he
        simp only [Option.map_some, Option.some.injEq] at he hx
        subst he
        cases hx
        exact ⟨kI, rv⟩
       ·next hi =>
        rw [if_neg hi] at hx
        exact h6 i k' x' e hx he
   ·cases e
  ·cases e
 ·cases e

def makeMapHV (L : List Ev) (dst : Option Tmp) : Option (List Ev × HV) :=
 match dst with
 | some d => some (.o d (.map []) :: .sub d .any .any :: L, .mref d)
 | none => none
theorem makeMap_run (S : Sim D F σ a w γ bl) {t : TypeId} {dst : Option Tmp} {L' : List Ev} {h : HV} (e : makeMapHV σ.log dst = some (L', h)) :
  ∃ v w' γ' bl', (Instr.makeMap t none).run P w = .ok v w' ∧ Kept F w w' ∧ Sim D F ⟨L', σ.n⟩ a w' γ' bl' ∧ SRep w' (dd D L' bl') γ' bl' h v := by
 unfold makeMapHV at e
 split at e
 ·next d =>
  simp only [Option.some.injEq, Prod.mk.injEq] at e
  obtain ⟨rfl, rfl⟩ := e
  have S' := S.lay (w' := w.alloc (.map #[] 0)) (id := d) (o' := .map []) (hdl := .map (some w.heap.size)) (ob := some w.heap.size) (by simp) (fun b hb _ => Below.heap_alloc _ _ _ hb) (fun b hb => .inl (by cases hb; simp)) (fun hS hI =>
   ⟨w.heap.size, #[], 0, upd_same .., heap_alloc_new w _, rfl, by simp, fun i e he => by simp at he, fun i k x e hx => by simp at hx⟩)
  exact ⟨_, _, _, _, by simp [Instr.makeMap], (Kept.refl _ _).alloc S.hbw _, S', .mref (upd_same ..)⟩
 ·cases e
def rangeHV (P : Program) (L : List Ev) (dst : Option Tmp) (t : TypeId) (x : HV) : Option (List Ev × HV) :=
 match dst, mpInfo P t, x with
 | some d, some _, .mp es => some (.o d (.iter es (List.range es.length) none) :: .sub d .any .any :: L, .ptr d 0)
 | _, _, _ => none
theorem range_run (S : Sim D F σ a w γ bl) {t : TypeId} {dst : Option Tmp} {x : HV} {L' : List Ev} {h : HV} {xv : Value} (e : rangeHV P σ.log dst t x = some (L', h)) (rx : SRep w (dd D σ.log bl) γ bl x xv) :
  ∃ v w' γ' bl', (Instr.range t xv).run P w = .ok v w' ∧ Kept F w w' ∧ Sim D F ⟨L', σ.n⟩ a w' γ' bl' ∧ SRep w' (dd D L' bl') γ' bl' h v := by
 unfold rangeHV at e
 split at e
 ·next d kt es hm =>
  have hu := mpInfo_some hm
  simp only [Option.some.injEq, Prod.mk.injEq] at e
  obtain ⟨rfl, rfl⟩ := e
  have hI0 : IRep w (dd D σ.log bl) (.mp es) xv := by cases rx with | imm hi => exact hi
  have main : ∀ mv bs clock, xv = .map mv → IRep w (dd D σ.log bl) (.mpb es bs clock) (.map mv) → bs.length = es.length → (Instr.range t xv).run P w = .ok (.pointer (some ⟨w.heap.size, 0, none⟩)) (w.alloc (.mapIter mv clock #[] clock)) →
    ∃ v w' γ' bl', (Instr.range t xv).run P w = .ok v w' ∧ Kept F w w' ∧ Sim D F ⟨.o d (.iter es (List.range es.length) none) :: .sub d .any .any :: σ.log, σ.n⟩ a w' γ' bl' ∧
     SRep w' (dd D (.o d (.iter es (List.range es.length) none) :: .sub d .any .any :: σ.log) bl') γ' bl' (.ptr d 0) v := by
   rintro mv bs clock rfl hI1 hbl1 hrun
   have S' := S.lay (w' := w.alloc (.mapIter mv clock #[] clock)) (id := d) (o' := .iter es (List.range es.length) none) (hdl := .pointer (some ⟨w.heap.size, 0, none⟩)) (ob := some w.heap.size) (by simp) (fun b hb _ => Below.heap_alloc _ _ _ hb) (fun b hb => .inl (by cases hb; simp)) (fun hS hI =>
    ⟨w.heap.size, mv, #[], bs, clock, upd_same .., heap_alloc_new w _, hI _ _ hI1, fun i => by
     rw [List.mem_range, ← hbl1]
     constructor
     ·intro h; exact ⟨_, List.getElem?_eq_getElem h, by simp⟩
     ·rintro ⟨n, hn, _⟩; exact getElem?_lt hn, fun k x h => by cases h⟩)
   exact ⟨_, _, _, _, hrun, (Kept.refl _ _).alloc S.hbw _, S', .ptr (upd_same ..)⟩
  cases hI0 with
  | mnil => exact main none [] 0 rfl .mpbnil rfl (by simp [Instr.range, run_underlying hu])
  | @mp _ mb ents clock hb hm' hl hck hbo hk hx => exact main (some mb) (ents.toList.map (·.born)) clock rfl (.mpb hb hm' hl hck hbo rfl hk hx) (by simp [hl]) (by simp [Instr.range, run_underlying hu, run_getMap hm'])
 ·cases e

def isNext (op : Op) : Bool :=
 match op with
 | .next _ false => true
 | _ => false
def nextK (o : Oper) (σ : HS) (K : HS → Prop) : Prop :=
 match o.op, o.dst with
 | .next it false, some d => match opd σ.log it with
  | .ptr id 0 => match getO σ.log id with
   | .iter es left last => d < σ.n ∧ (left = [] → K ⟨.s d (.tup [.lit (.bool false)]) :: σ.log, σ.n⟩) ∧
     ∀ i k v, i ∈ left → es[i]? = some (k, v) → K ⟨.s d (.tup [.lit (.bool true), k, v]) :: .o id (.iter es (left.filter (· != i)) (some (k, v))) :: σ.log, σ.n⟩
   | _ => False
  | _ => False
 | _, _ => False
def OpK (P : Program) (o : Oper) (σ : HS) (K : HS → Prop) : Prop := ∀ D F a w γ bl, Sim D F σ a w γ bl → ∀ nx Q,
 (∀ σ' a' w' γ' bl', K σ' → Sim D F σ' a' w' γ' bl' → Kept F w w' → nx a' w') → o.wp P a w nx Q
theorem OpOK.toK {o : Oper} {σ σ' : HS} {K : HS → Prop} (h : OpOK P o σ σ') (hk : K σ') : OpK P o σ K :=
 fun D F a w γ bl S nx Q hn => h D F a w γ bl S nx Q (fun a' w' γ' bl' S' hB => hn σ' a' w' γ' bl' hk S' hB)
theorem tup1 {dead : Nat → Prop} {x : HV} {u : Value} (hx : SRep w dead γ bl x u) : SRep w dead γ bl (.tup [x]) (.tuple #[u]) := by
 refine .tup rfl fun j c s hc hs => ?_
 match j with
 | 0 => simp at hc hs; subst hc; subst hs; exact hx
 | n + 1 => simp at hc
theorem tup3 {dead : Nat → Prop} {x y z : HV} {u v t : Value} (hx : SRep w dead γ bl x u) (hy : SRep w dead γ bl y v) (hz : SRep w dead γ bl z t) : SRep w dead γ bl (.tup [x, y, z]) (.tuple #[u, v, t]) := by
 refine .tup rfl fun j c s hc hs => ?_
 match j with
 | 0 => simp at hc hs; subst hc; subst hs; exact hx
 | 1 => simp at hc hs; subst hc; subst hs; exact hy
 | 2 => simp at hc hs; subst hc; subst hs; exact hz
 | n + 3 => simp at hc
theorem nextK_ok {o : Oper} {K : HS → Prop} (h : nextK o σ K) : OpK P o σ K := by
 intro D F a w γ bl S nx Q hn
 unfold nextK at h
 split at h
 ·next it d ho hd =>
  split at h
  ·next id hp =>
   split at h
   ·next es left last hob =>
    obtain ⟨hdn, hnil, hcons⟩ := h
    have hlive : getO σ.log id ≠ .gone := by rw [hob]; simp
    have R := S.hobj id
    rw [hob] at R
    obtain ⟨b, mv, seen, bs, ck, h1, h2, h3, h4, h5⟩ := R
    have rp := S.opd it
    rw [hp] at rp
    have hpv : a.eval it = .pointer (some ⟨b, 0, none⟩) := by
     generalize a.eval it = v at rp
     cases rp with
     | imm hi => cases hi
     | ptr hb => rw [h1] at hb; cases hb; rfl
    have over : left = [] → (Instr.next (a.eval it) false o.type).run P w = .ok (.tuple #[.bool false]) w → o.wp P a w nx Q := by
     intro hl hr
     unfold Oper.wp
     have : (execOp a.eval o).run P w = .ok (.value (.tuple #[.bool false])) w := by simp only [execOp, ho]; rw [Sem.run_bind, hr]; rfl
     rw [this]
     exact hn _ _ _ _ _ (hnil hl) (by rw [hd]; exact S.put hdn (tup1 (.imm (.lit _)))) (Kept.refl _ _)
    cases h3 with
    | mpbnil =>
     refine over ?_ (by rw [hpv]; simp [Instr.next, run_getIter h2])
     rw [List.eq_nil_iff_forall_not_mem]
     intro i hi
     obtain ⟨n, hn, _⟩ := (h4 i).1 hi
     simp at hn
    | @mpb _ _ mb ents clock hb hm hl hck hbo hbs hk hx =>
     have hbn : ∀ (i : Nat) (e : MapEntry), ents[i]? = some e → bs[i]? = some e.born := fun i e he => by
      rw [← hbs, List.getElem?_map, Array.getElem?_toList, he]; rfl
     have hbsl : bs.length = ents.size := by rw [← hbs]; simp
     have hold : ∀ x ∈ ents.toList, x.born < ck := fun x hx => by
      obtain ⟨i, hi⟩ := List.mem_iff_getElem?.1 hx
      rw [Array.getElem?_toList] at hi
      exact hbo i x hi
     rcases run_next_at (P := P) w o.type b mb ck ck seen ents ck h2 hm hold (Nat.le_refl _) with ⟨k1, k2⟩ | ⟨e, k1, w1, k2, k3⟩
     ·refine over ?_ (by rw [hpv]; exact k2)
      rw [List.eq_nil_iff_forall_not_mem]
      intro i hi
      obtain ⟨n, q1, q2⟩ := (h4 i).1 hi
      have hil : i < ents.size := by rw [← hbsl]; exact getElem?_lt q1
      have hbi := hbn i _ (Array.getElem?_eq_getElem hil)
      rw [hbi] at q1
      have : ents[i] ∈ leftOf ents seen := by
       unfold leftOf
       simp only [Array.mem_filter, Bool.not_eq_true', Array.getElem_mem, true_and]
       rw [Option.some.inj q1]
       simpa using q2
      rw [Array.eq_empty_of_size_eq_zero k1] at this
      simp at this
     ·unfold leftOf at k1
      simp only [Array.toList_filter, List.mem_filter, Bool.not_eq_true'] at k1
      obtain ⟨k1, k4⟩ := k1
      obtain ⟨i, hi⟩ := List.mem_iff_getElem?.1 k1
      rw [Array.getElem?_toList] at hi
      have hil : i < ents.size := by
       rcases Nat.lt_or_ge i ents.size with h | h
       ·exact h
       ·rw [Array.getElem?_eq_none h] at hi; cases hi
      have hbi := hbn i e hi
      have hmem : i ∈ left := (h4 i).2 ⟨_, hbi, by simpa using k4⟩
      obtain ⟨kk, vv, hkv⟩ : ∃ kk vv, es[i]? = some (kk, vv) := ⟨_, _, List.getElem?_eq_getElem (by omega)⟩
      unfold Oper.wp
      have hex : (execOp a.eval o).run P w = .ok (.value (.tuple #[.bool true, e.key, e.val])) (setBlock w1 b (.mapIter (some mb) ck (seen.push e.born) ck)) := by
       simp only [execOp, ho, hpv]; rw [Sem.run_bind, k3]; rfl
      rw [hex]
      have hK1 : Kept F w w1 := by rcases k2 with rfl | rfl; exact Kept.refl _ _; exact ⟨rfl, rfl, rfl, Nat.le_refl _, fun _ _ => rfl⟩
      have hw1 : w1.heap = w.heap := by rcases k2 with rfl | rfl <;> rfl
      have hF : ¬ F b := (S.hblk id b hlive h1).1
      have hbs' : b < w1.heap.size := by rw [hw1]; exact lt_of_get h2
      have S2 : Sim D F ⟨.o id (.iter es (left.filter (· != i)) (some (kk, vv))) :: σ.log, σ.n⟩ a (setBlock w1 b (.mapIter (some mb) ck (seen.push e.born) ck)) γ bl := by
       refine S.set hlive (by simp) (by rw [size_setBlock, hw1]; exact Nat.le_refl _) (fun k hk hne => by rw [heap_setBlock, if_neg (by rintro ⟨rfl, _⟩; exact hne h1), hw1]) (fun hS hI => ?_)
       refine ⟨b, some mb, seen.push e.born, bs, ck, h1, ?_, hI _ _ (.mpb hb hm hl hck hbo hbs hk hx), fun j => ?_, fun k x h => ?_⟩
       ·rw [heap_setBlock, if_pos ⟨rfl, hbs'⟩]
       ·rw [List.mem_filter, h4 j]
        simp only [bne_iff_ne, ne_eq, Array.toList_push, List.mem_append, List.mem_singleton]
        constructor
        ·rintro ⟨⟨n, x1, x2⟩, x3⟩
         refine ⟨n, x1, ?_⟩
         rintro (h | h)
         ·exact x2 h
         ·subst h
          exact x3 ((List.getElem?_inj (getElem?_lt x1) (by rw [← hbs]; exact hck)).1 (x1.trans hbi.symm))
        ·rintro ⟨n, x1, x2⟩
         refine ⟨⟨n, x1, fun h => x2 (.inl h)⟩, fun h => x2 (.inr ?_)⟩
         subst h
         rw [hbi] at x1
         exact (Option.some.inj x1).symm
       ·simp only [Option.some.injEq, Prod.mk.injEq] at h
        obtain ⟨rfl, rfl⟩ := h
        exact ⟨i, e.born, by simp, hbi, hkv⟩
      have hsz : w.heap.size ≤ (setBlock w1 b (.mapIter (some mb) ck (seen.push e.born) ck)).heap.size := by rw [size_setBlock, hw1]; exact Nat.le_refl _
      have hkeep : ∀ k, k < w.heap.size → ¬ dd D σ.log bl k → (setBlock w1 b (.mapIter (some mb) ck (seen.push e.born) ck)).heap[k]? = w.heap[k]? := fun k hk hnd => by
       rw [heap_setBlock, if_neg (by rintro ⟨rfl, _⟩; exact hnd (.inr ⟨id, hlive, h1⟩)), hw1]
      have hdd : ∀ k, k < w.heap.size → dd D (.o id (.iter es (left.filter (· != i)) (some (kk, vv))) :: σ.log) bl k → dd D σ.log bl k := by
       rintro k _ (h | ⟨j, h, h'⟩)
       ·exact .inl h
       ·refine .inr ⟨j, ?_, h'⟩
        by_cases e : id = j
        ·subst e; exact hlive
        ·simpa [getO, e] using h
      exact hn _ _ _ _ _ (hcons i kk vv hmem hkv) (by rw [hd]; exact S2.put hdn (tup3 (.imm (.lit _)) (.imm ((hk i kk vv e hkv hi).mono hsz hkeep hdd)) (.imm ((hx i kk vv e hkv hi).mono hsz hkeep hdd)))) (hK1.setBlock hF _)
   ·exact h.elim
  ·exact h.elim
 ·exact h.elim
/-! ### A slice is compared with nil: where it has no elements, either answer. -/
def isNilCmp (op : Op) : Bool :=
 match op with
 | .binOp .eql _ _ (.const (.slice none 0 0)) _ => true
 | .binOp .neq _ _ (.const (.slice none 0 0)) _ => true
 | _ => false
def nilK (P : Program) (o : Oper) (σ : HS) (K : HS → Prop) : Prop :=
 match o.op, o.dst with
 | .binOp .eql t x _ _, some d => match slInfo P t, rowOf σ.log (opd σ.log x) with
  | some _, some (_, es) => d < σ.n ∧ (es = [] → K ⟨.s d (.lit (.bool true)) :: σ.log, σ.n⟩) ∧ K ⟨.s d (.lit (.bool false)) :: σ.log, σ.n⟩
  | _, _ => False
 | .binOp .neq t x _ _, some d => match slInfo P t, rowOf σ.log (opd σ.log x) with
  | some _, some (_, es) => d < σ.n ∧ (es = [] → K ⟨.s d (.lit (.bool false)) :: σ.log, σ.n⟩) ∧ K ⟨.s d (.lit (.bool true)) :: σ.log, σ.n⟩
  | _, _ => False
 | _, _ => False
theorem rowOf_nil (S : Sim D F σ a w γ bl) {x : HV} {sz : Nat} {es : List (List HV)} {v : Value} (e : rowOf σ.log x = some (sz, es)) (r : SRep w (dd D σ.log bl) γ bl x v) :
  ∃ A n cap, v = .slice A n cap ∧ (A = none → es = []) := by
 unfold rowOf at e
 split at e
 ·cases e
  cases r with
  | imm hi =>
   cases hi with
   | nil hf hA => exact ⟨_, _, _, rfl, fun _ => rfl⟩
   | sl f hsz hc hf hb hbl hcell h1 h => exact ⟨_, _, _, rfl, fun h => by cases h⟩
 ·next id =>
  split at e
  ·next e0 sz' es' ho =>
   cases e
   have R := S.hobj id
   rw [ho] at R
   obtain ⟨_, _, R⟩ := R
   cases r with
   | imm hi => cases hi
   | ref _ _ =>
    rcases R with ⟨rfl, ⟨A, hA⟩, _⟩ | ⟨b, cap, C, fr, g1, _⟩
    ·exact ⟨_, _, _, hA, fun _ => rfl⟩
    ·exact ⟨_, _, _, g1, fun h => by cases h⟩
  ·cases e
 ·cases e
theorem run_equal_nil {t e : TypeId} (ht : P.underlying t = some (.slice e)) (A : Option Addr) (n cap : Nat) : (Op.equal t (.slice A n cap) (.slice none 0 0)).run P w = .ok A.isNone w := by
 have key : ∀ m, (Op.equalIn (m + 1) t (.slice A n cap) (.slice none 0 0)).run P w = .ok A.isNone w := fun m => by
  cases A <;> simp [Op.equalIn, run_underlying ht]
 exact key 9999
theorem nilK_ok {o : Oper} {K : HS → Prop} (hc : isNilCmp o.op = true) (h : nilK P o σ K) : OpK P o σ K := by
 intro D F a w γ bl S nx Q hn
 have key : ∀ (op : BinOp) (t : TypeId) (x : Operand) (rt : TypeId) (d : Tmp) (sz : Nat) (es : List (List HV)) (i : TypeId × Nat × Nat), (op = .eql ∨ op = .neq) → o.op = .binOp op t x (.const (.slice none 0 0)) rt → o.dst = some d → slInfo P t = some i → rowOf σ.log (opd σ.log x) = some (sz, es) → d < σ.n →
   (es = [] → K ⟨.s d (.lit (.bool (op == .eql))) :: σ.log, σ.n⟩) → K ⟨.s d (.lit (.bool (op == .neq))) :: σ.log, σ.n⟩ → o.wp P a w nx Q := by
  intro op t x rt d sz es i hop ho hd hT hr hdn h1 h2
  obtain ⟨e1, sz1, by1⟩ := i
  obtain ⟨inf, ht, _⟩ := slInfo_some hT
  obtain ⟨A, n, cap, hv, hA⟩ := rowOf_nil S hr (S.opd x)
  have hq := run_equal_nil (P := P) (w := w) ht A n cap
  have hex : (execOp a.eval o).run P w = .ok (.value (.bool (if A.isNone then op == .eql else op == .neq))) w := by
   have hc0 : a.eval (.const (.slice none 0 0)) = .slice none 0 0 := rfl
   have hg : ∀ X Y, (eqGuard op t X Y (.slice A n cap) (.slice none 0 0)).run P w = .ok () w := fun X Y => by
    rcases hop with rfl | rfl <;> simp [eqGuard]
   have hb : (binOp op t (.slice A n cap) (.slice none 0 0)).run P w = .ok (.bool (if A.isNone then op == .eql else op == .neq)) w := by
    rcases hop with rfl | rfl <;> (simp only [binOp, Sem.run_bind, hq, Result.andThen_ok, Sem.run_pure]; cases A <;> rfl)
   simp only [execOp, ho, hv, hc0, Sem.run_bind, hg, Result.andThen_ok, hb, Sem.run_pure]
  unfold Oper.wp
  rw [hex]
  cases A with
  | none => exact hn _ _ _ _ _ (h1 (hA rfl)) (by rw [hd]; exact S.put hdn (.imm (.lit _))) (Kept.refl _ _)
  | some A => exact hn _ _ _ _ _ h2 (by rw [hd]; exact S.put hdn (.imm (.lit _))) (Kept.refl _ _)
 unfold isNilCmp at hc
 split at hc
 ·next t x rt ho =>
  unfold nilK at h
  rw [ho] at h
  split at h
  ·next hd =>
   rename_i h0
   cases h0
   split at h
   ·next hT hr => exact key .eql t x rt _ _ _ _ (.inl rfl) ho hd hT hr h.1 h.2.1 h.2.2
   ·exact h.elim
  ·next h0 hd => cases h0
  ·exact h.elim
 ·next t x rt ho =>
  unfold nilK at h
  rw [ho] at h
  split at h
  ·next h0 hd => cases h0
  ·next hd =>
   rename_i h0
   cases h0
   split at h
   ·next hT hr => exact key .neq t x rt _ _ _ _ (.inr rfl) ho hd hT hr h.1 h.2.1 h.2.2
   ·exact h.elim
  ·exact h.elim
 ·cases hc
/-! ### An own row is put into an interface value: from there on its handle is told. -/
def isPin (op : Op) : Bool :=
 match op with
 | .makeInterface _ _ => true
 | _ => false
def pinK (P : Program) (o : Oper) (σ : HS) (K : HS → Prop) : Prop :=
 match o.op, o.dst with
 | .makeInterface t x, some d => match opd σ.log x with
  | .ref r => match getO σ.log r with
   | .row e sz es => (d < σ.n ∧ (slInfo P t).isSome = true) ∧ ∀ V ob, K ⟨.s d (.lit (.iface t V)) :: .o r (.prow V ob e sz es) :: σ.log, σ.n⟩
   | _ => False
  | _ => False
 | _, _ => False
theorem Sim.pin (S : Sim D F σ a w γ bl) {r e sz : Nat} {es : List (List HV)} (ho : getO σ.log r = .row e sz es) : Sim D F ⟨.o r (.prow (γ r) (bl r) e sz es) :: σ.log, σ.n⟩ a w γ bl := by
 have hlive : getO σ.log r ≠ .gone := by rw [ho]; simp
 refine S.set hlive (by simp) (Nat.le_refl _) (fun _ _ _ => rfl) (fun _ _ => ?_)
 have R := S.hobj r
 rw [ho] at R
 exact ⟨⟨rfl, rfl⟩, R⟩
theorem pinK_ok {o : Oper} {K : HS → Prop} (h : pinK P o σ K) : OpK P o σ K := by
 intro D F a w γ bl S nx Q hn
 unfold pinK at h
 split at h
 ·next t x d ho hd =>
  split at h
  ·next r hx =>
   split at h
   ·next e sz es hr =>
    obtain ⟨⟨hdn, hsl⟩, hk⟩ := h
    obtain ⟨⟨e1, s1, b1⟩, hT⟩ := Option.isSome_iff_exists.1 hsl
    obtain ⟨inf, ht, _⟩ := slInfo_some hT
    have rx := S.opd x
    rw [hx] at rx
    have hv : a.eval x = γ r := by
     generalize a.eval x = v at rx
     cases rx with
     | imm hi => cases hi
     | ref _ _ => rfl
    have S' := S.pin hr
    unfold Oper.wp
    have hex : (execOp a.eval o).run P w = .ok (.value (.iface t (γ r))) w := by
     simp only [execOp, ho, hv]
     simp [Instr.makeInterface, run_underlying ht]
    rw [hex]
    exact hn _ _ _ _ _ (hk (γ r) (bl r)) (by rw [hd]; exact S'.put hdn (.imm (.lit _))) (Kept.refl _ _)
   ·exact h.elim
  ·exact h.elim
 ·exact h.elim
end Go.Hv
