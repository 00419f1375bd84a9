import Derived.Test.YtphohigoehpkeaaHv15
import Derived.Test.YtphohigoehpkeaaHvM2
set_option linter.unusedVariables false
set_option linter.unusedSimpArgs false
namespace Go.Hv
open Go Go.RowKit
variable {P : Program} {D : Nat → Prop} {F : Nat → Prop} {σ : HS} {a : Act} {w : World} {γ : Nat → Value} {bl : Nat → Option Nat}

def isAny : HV → Bool
  | .any => true
  | _ => false
/-- Nothing is told of the cells that are stored into. -/
def oldAny (L : List Ev) (p : HV) (n : Nat) : Bool :=
  match cellsAt L p n with
  | some cs => cs.all isAny
  | none => false
def storeHV (P : Program) (L : List Ev) (t : Nat) (p x : HV) : Option (List Ev) :=
  match agInfo P t, cellsHV x with
  | some (_, n), some xs => if xs.length = n then
      match p with
      | .ptr id off => match getO L id with
        | .row _ _ _ => if oldAny L (.ptr id off) n = true then storeAt L (.ptr id off) xs else match frzAll (idsOf xs) L (.ptr id off :: xs) with
          | some (L', p' :: xs') => storeAt L' p' xs'
          | _ => none
        | _ => storeAt L (.ptr id off) xs
      | _ => none
    else none
  | _, _ => none

theorem run_storeVar {t : TypeId} {i : TypeInfo} (hi : P.info? t = some i) {v : Value} (hv : v.cells.size = i.size) {b off : Nat} {w' : World} (h : (storeCells ⟨b, off, none⟩ v.cells.toList).run P w = .ok () w') :
    (Instr.storeAt t (.pointer (some ⟨b, off, none⟩)) v).run P w = .ok () w' := by
  unfold Instr.storeAt
  simp only [Instr.sureAddr, Sem.run_bind, Sem.run_pure, Result.andThen_ok]
  unfold storeVar
  simp only [Sem.run_bind, run_sizeOf_some hi, Result.andThen_ok]
  rw [if_neg (by omega)]
  exact h

theorem storeHV_run (S : Sim D F σ a w γ bl) {t : Nat} {p x : HV} {L' : List Ev} (e : storeHV P σ.log t p x = some L') {pv xv : Value} (rp : SRep w (dd D σ.log bl) γ bl p pv) (rx : SRep w (dd D σ.log bl) γ bl x xv) :
    ∃ w', (Instr.storeAt t pv xv).run P w = .ok () w' ∧ Kept F w w' ∧ Sim D F ⟨L', σ.n⟩ a w' γ bl := by
  unfold storeHV at e
  split at e
  · next ag n xs hA hx =>
    simp only [Option.ite_none_right_eq_some] at e
    obtain ⟨hn, e⟩ := e
    unfold agInfo at hA
    split at hA
    · next i d hi hu =>
      simp only [Option.some.injEq, Prod.mk.injEq] at hA
      obtain ⟨_, rfl⟩ := hA
      obtain ⟨k1, k2, k3⟩ := cellsHV_rep rx hx
      have h1 : ∀ v ∈ xv.cells.toList, v.oneCell' = true := fun v hv => by
        obtain ⟨j, hj⟩ := List.mem_iff_getElem?.1 hv
        rw [Array.getElem?_toList] at hj
        exact k2 j v hj
      have h2 : ∀ (j : Nat) (c : HV) (v : Value), xs[j]? = some c → xv.cells.toList[j]? = some v → SRep w (dd D σ.log bl) γ bl c v := fun j c v hc hv => k3 j c v hc (by rwa [Array.getElem?_toList] at hv)
      cases p with
      | ptr id off =>
        simp only at e
        have plain : storeAt σ.log (.ptr id off) xs = some L' → ∃ w', (Instr.storeAt t pv xv).run P w = .ok () w' ∧ Kept F w w' ∧ Sim D F ⟨L', σ.n⟩ a w' γ bl := by
          intro e
          obtain ⟨b, off', rfl, hr, hb, hs⟩ := storeAt_rep (P := P) S e rp (vs := xv.cells.toList) (by simpa using k1) h1 h2
          exact ⟨_, run_storeVar hi (by rw [k1]; omega) hr, hb, hs⟩
        cases ho : getO σ.log id with
        | row e0 sz es =>
          simp only [ho] at e
          split at e
          · exact plain e
          split at e
          · next L1 p' xs' hf =>
            obtain ⟨S', hl, hr⟩ := Sim.frzAll (idsOf xs) σ.log (.ptr id off :: xs) σ.n S (pv :: xv.cells.toList) hf (by simp [k1]) (fun j c v hc hv => by
              cases j with
              | zero => simp at hc hv; subst hc; subst hv; exact rp
              | succ j => exact h2 j c v (by simpa using hc) (by simpa using hv))
            obtain ⟨b, off', rfl, hr', hb, hs⟩ := storeAt_rep (P := P) S' e (hr 0 p' pv rfl rfl) (vs := xv.cells.toList) (by simp at hl; simp [k1, hl]) h1 (fun j c v hc hv => hr (j + 1) c v (by simpa using hc) (by simpa using hv))
            exact ⟨_, run_storeVar hi (by rw [k1]; omega) hr', hb, hs⟩
          · cases e
        | gone => rw [ho] at e; exact plain e
        | box cs => rw [ho] at e; exact plain e
        | map es => rw [ho] at e; exact plain e
        | iter es left last => rw [ho] at e; exact plain e
      | _ => simp at e
    · cases hA
  · cases e

def buildSliceHV (P : Program) (L : List Ev) (t len : Nat) (parts : List (Nat × Operand)) : Option (List Ev × HV) :=
  match slInfo P t with
  | some (e, sz, _) => match zeroHV P e with
    | some zs => if zs.length = sz ∧ len = parts.length ∧ parts.map (·.1) = List.range parts.length ∧ parts.length * sz ≤ 16777216 then
        match frzAll (idsOf (parts.map fun p => opd L p.2)) L (parts.map fun p => opd L p.2) with
        | some (L', hs) => match partsHV sz hs with
          | some es => some (L', .sl sz true es)
          | none => none
        | none => none
      else none
    | none => none
  | none => none

theorem zip_range {β : Type} (f : Operand → β) (l : List (Nat × Operand)) (h : l.map (·.1) = List.range l.length) : l.map (fun p => (p.1, f p.2)) = ((l.map fun p => f p.2).zipIdx).map fun x => (x.2, x.1) := by
  apply List.ext_getElem?
  intro k
  rw [List.getElem?_map, List.getElem?_map, List.getElem?_zipIdx, List.getElem?_map]
  cases hk : l[k]? with
  | none => rfl
  | some p =>
    have h1 : (l.map (·.1))[k]? = some p.1 := by rw [List.getElem?_map, hk]; rfl
    rw [h, List.getElem?_range (getElem?_lt hk)] at h1
    simp only [Option.some.injEq] at h1
    simp [← h1]

theorem buildSliceHV_run (S : Sim D F σ a w γ bl) {t len : Nat} {parts : Array (Nat × Operand)} {L' : List Ev} {h : HV} (e : buildSliceHV P σ.log t len parts.toList = some (L', h)) :
    ∃ v w', (Instr.buildSlice t len (parts.map fun p => (p.1, a.eval p.2))).run P w = .ok v w' ∧ Kept F w w' ∧ Sim D F ⟨L', σ.n⟩ a w' γ bl ∧ SRep w' (dd D L' bl) γ bl h v := by
  unfold buildSliceHV at e
  split at e
  · next e0 sz by_ hT =>
    split at e
    · next zs hz =>
      simp only [Option.ite_none_right_eq_some] at e
      obtain ⟨⟨hzl, rfl, hidx, hlim⟩, e⟩ := e
      split at e
      · next L1 hs hf =>
        split at e
        · next es hp =>
          simp only [Option.some.injEq, Prod.mk.injEq] at e
          obtain ⟨rfl, rfl⟩ := e
          obtain ⟨S', hl, hr⟩ := Sim.frzAll _ σ.log _ σ.n S (parts.toList.map fun p => a.eval p.2) hf (by simp) (fun j c v hc hv => by
            simp only [List.getElem?_map] at hc hv
            cases hk : parts.toList[j]? with
            | none => simp [hk] at hc
            | some p => simp only [hk, Option.map_some, Option.some.injEq] at hc hv; subst hc; subst hv; exact S.opd p.2)
          have hl' : hs.length = parts.toList.length := by simpa using hl
          obtain ⟨v, C, hrun, hI⟩ := buildSlice_rep (P := P) S' hT hz hzl (hs := hs) (es := es) (vs := parts.toList.map fun p => a.eval p.2) (by rw [hl']; exact hlim) hp (by simp [hl']) hr
          refine ⟨v, _, ?_, (Kept.refl _ _).alloc S.hbw _, S'.world (by simp) (fun b hb => Below.heap_alloc _ _ _ hb), .imm hI⟩
          have he : (parts.map fun p => (p.1, a.eval p.2)) = ((parts.toList.map fun p => a.eval p.2).zipIdx.map fun x => (x.2, x.1)).toArray := by
            apply Array.ext'
            simp only [Array.toList_map]
            exact zip_range a.eval parts.toList hidx
          rw [he, ← hl']
          exact hrun
        · cases e
      · cases e
    · cases e
  · cases e

def sliceRefHV (P : Program) (L : List Ev) (t : Nat) (x : HV) (lo hi mx : Option Operand) : Option (List Ev × HV) :=
  match x with
  | .ref id => match boundOf L lo, boundOf L hi, boundOf L mx with
    | some l, some h, some m => match frzAll [id] L [.ref id] with
      | some (L', [x']) => match isI x', sliceSlHV P t x' l h m with
        | true, some h => some (L', h)
        | _, _ => none
      | _ => none
    | _, _, _ => none
  | _ => none
theorem sliceRefHV_run (S : Sim D F σ a w γ bl) {t : Nat} {x h : HV} {L' : List Ev} {lo hi mx : Option Operand} (e : sliceRefHV P σ.log t x lo hi mx = some (L', h)) {xv : Value} (rx : SRep w (dd D σ.log bl) γ bl x xv) :
    ∃ v, (Instr.sliceAt t xv (lo.map a.eval) (hi.map a.eval) (mx.map a.eval)).run P w = .ok v w ∧ Sim D F ⟨L', σ.n⟩ a w γ bl ∧ SRep w (dd D L' bl) γ bl h v := by
  unfold sliceRefHV at e
  split at e
  · next id =>
    split at e
    · next l hh m el eh em =>
      split at e
      · next L1 x' hf =>
        split at e
        · next hI hs =>
          simp only [Option.some.injEq, Prod.mk.injEq] at e
          obtain ⟨rfl, rfl⟩ := e
          obtain ⟨S', hl, hr⟩ := Sim.frzAll _ σ.log _ σ.n S [xv] hf rfl (fun j c v hc hv => by
            cases j with
            | zero => simp at hc hv; subst hc; subst hv; exact rx
            | succ j => simp at hc)
          obtain ⟨v, h1, h2⟩ := sliceSl_run (P := P) S el eh em hs ((hr 0 x' xv rfl rfl).toI hI)
          exact ⟨v, h1, S', .imm h2⟩
        · cases e
      · cases e
    · cases e
  · cases e

/-- Operations that turn the world or the walk's own objects. -/
noncomputable def evE (P : Program) (L : List Ev) (dst : Option Tmp) (op : Op) : Option (List Ev × HV) :=
  match op with
  | .alloc t => match dst, zeroHV P t with
    | some d, some zs => some (.o d (.box (subL d .any .any zs)) :: .sub d .any .any :: L, .ptr d 0)
    | _, _ => none
  | .box _ x => match dst, cellsHV (opd L x) with
    | some d, some cs => some (.o d (.box (subL d .any .any cs)) :: .sub d .any .any :: L, .ptr d 0)
    | _, _ => none
  | .store t p x => (storeHV P L t (opd L p) (opd L x)).map (·, .any)
  | .buildSlice t len parts => buildSliceHV P L t len parts.toList
  | .makeSlice t n m => makeSliceHV P L dst t (opd L n) (opd L m)
  | .makeMap _ none => makeMapHV L dst
  | .mapUpdate t m k v => (mapUpdHV P L t (opd L m) (opd L k) (opd L v)).map (·, .any)
  | .range t x => rangeHV P L dst t (opd L x)
  | .convert s t x => strBytesHV P L dst s t (opd L x)
  | .slice t x lo hi mx => sliceRefHV P L t (opd L x) lo hi mx
  | .call c => match c.callee, c.args.toList, c.argTypes.toList with
    | .builtin .append, [s, x], [t, u] => appendHV P L dst t u (opd L s) (opd L x)
    | _, _, _ => none
  | _ => none

theorem evE_run (S : Sim D F σ a w γ bl) {o : Oper} {L' : List Ev} {h : HV} (e : evE P σ.log o.dst o.op = some (L', h)) :
    ∃ nx w' γ' bl', (execOp a.eval o).run P w = .ok nx w' ∧ Kept F w w' ∧ Sim D F ⟨L', σ.n⟩ a w' γ' bl' ∧ ((∃ v, nx = .value v ∧ SRep w' (dd D L' bl') γ' bl' h v) ∨ (nx = .skip ∧ h = .any)) := by
  unfold evE at e
  split at e
  · next t ho =>
    split at e
    · next d zs hd hz =>
      simp only [Option.some.injEq, Prod.mk.injEq] at e
      obtain ⟨rfl, rfl⟩ := e
      obtain ⟨i, z, hi, hzr, hzs, hz1, hzI⟩ := zeroHV_some hz
      have hS := S.layBox d t z.cells zs hzs hz1 (fun j c v hc hv => .imm (hzI w _ j c v hc hv))
      exact ⟨_, _, _, _, by simp only [execOp, ho]; rw [Sem.run_bind, run_alloc_zero hi hzr]; rfl, (Kept.refl _ _).alloc S.hbw _, hS, .inl ⟨_, rfl, .ptr (upd_same ..)⟩⟩
    · cases e
  · next t x ho =>
    split at e
    · next d cs hd hc =>
      simp only [Option.some.injEq, Prod.mk.injEq] at e
      obtain ⟨rfl, rfl⟩ := e
      obtain ⟨k1, k2, k3⟩ := cellsHV_rep (S.opd x) hc
      have hS := S.layBox d t (a.eval x).cells cs k1 k2 k3
      exact ⟨_, _, _, _, by simp only [execOp, ho]; rw [Sem.run_bind, run_box]; rfl, (Kept.refl _ _).alloc S.hbw _, hS, .inl ⟨_, rfl, .ptr (upd_same ..)⟩⟩
    · cases e
  · next t p x ho =>
    simp only [Option.map_eq_some_iff, Prod.mk.injEq] at e
    obtain ⟨L1, hs, rfl, rfl⟩ := e
    obtain ⟨w', h1, h2, h3⟩ := storeHV_run S hs (S.opd p) (S.opd x)
    exact ⟨_, w', γ, bl, by simp only [execOp, ho]; rw [Sem.run_bind, h1]; rfl, h2, h3, .inr ⟨rfl, rfl⟩⟩
  · next t len parts ho =>
    obtain ⟨v, w', h1, h2, h3, h4⟩ := buildSliceHV_run S e
    exact ⟨_, w', γ, bl, by simp only [execOp, ho]; rw [Sem.run_bind, h1]; rfl, h2, h3, .inl ⟨v, rfl, h4⟩⟩
  · next t n m ho =>
    obtain ⟨v, w', γ', bl', h1, h2, h3, h4⟩ := makeSliceHV_run S e (S.opd n) (S.opd m)
    exact ⟨_, w', γ', bl', by simp only [execOp, ho]; rw [Sem.run_bind, h1]; rfl, h2, h3, .inl ⟨v, rfl, h4⟩⟩
  · next t ho =>
    obtain ⟨v, w', γ', bl', h1, h2, h3, h4⟩ := makeMap_run (P := P) S (t := t) e
    exact ⟨_, w', γ', bl', by simp only [execOp, ho]; rw [Option.map_none, Sem.run_bind, h1]; rfl, h2, h3, .inl ⟨v, rfl, h4⟩⟩
  · next t m k v ho =>
    simp only [Option.map_eq_some_iff, Prod.mk.injEq] at e
    obtain ⟨L1, hs, rfl, rfl⟩ := e
    obtain ⟨w', h1, h2, h3⟩ := mapUpd_run S hs (S.opd m) (S.opd k) (S.opd v)
    exact ⟨_, w', γ, bl, by simp only [execOp, ho]; rw [Sem.run_bind, h1]; rfl, h2, h3, .inr ⟨rfl, rfl⟩⟩
  · next t x ho =>
    obtain ⟨v, w', γ', bl', h1, h2, h3, h4⟩ := range_run (P := P) S e (S.opd x)
    exact ⟨_, w', γ', bl', by simp only [execOp, ho]; rw [Sem.run_bind, h1]; rfl, h2, h3, .inl ⟨v, rfl, h4⟩⟩
  · next s t x ho =>
    obtain ⟨v, w', γ', bl', h1, h2, h3, h4⟩ := strBytesHV_run S e (S.opd x)
    exact ⟨_, w', γ', bl', by simp only [execOp, ho]; rw [Sem.run_bind, h1]; rfl, h2, h3, .inl ⟨v, rfl, h4⟩⟩
  · next t x lo hi mx ho =>
    obtain ⟨v, h1, h2, h3⟩ := sliceRefHV_run S e (S.opd x)
    exact ⟨_, w, γ, bl, by simp only [execOp, ho]; rw [Sem.run_bind, h1]; rfl, Kept.refl _ _, h2, .inl ⟨v, rfl, h3⟩⟩
  · next c ho =>
    split at e
    · next s x t u hc ha ht =>
      obtain ⟨v, w', γ', bl', h1, h2, h3, h4⟩ := appendHV_run (ty := o.type) S e (S.opd s) (S.opd x)
      have ha' : c.args = #[s, x] := Array.ext' ha
      have ht' : c.argTypes = #[t, u] := Array.ext' ht
      refine ⟨_, w', γ', bl', ?_, h2, h3, .inl ⟨v, rfl, h4⟩⟩
      simp only [execOp, ho, resolve, hc, Sem.run_bind, Sem.run_pure, Result.andThen_ok, invoke, builtin, ha', ht']
      simp [h1]
    · cases e
  · cases e

noncomputable def evOp (P : Program) (o : Oper) (σ : HS) : Option HS :=
  match evV P σ.log o.op with
  | some h => σ.put o.dst h
  | none => match evE P σ.log o.dst o.op with
    | some (L', h) => HS.put ⟨L', σ.n⟩ o.dst h
    | none => none

theorem evOp_ok {o : Oper} {σ σ' : HS} (e : evOp P o σ = some σ') : OpOK P o σ σ' := by
  unfold evOp at e
  split at e
  · next h hv => exact ok_value e (fun D F a w γ bl S => evV_run S hv)
  · split at e
    · next L' h he =>
      intro D F a w γ bl S next Q hk
      obtain ⟨nx, w', γ', bl', hr, hb, hs, hv⟩ := evE_run S he
      unfold Oper.wp
      rw [hr]
      rcases hv with ⟨v, rfl, hv⟩ | ⟨rfl, rfl⟩
      · exact hk _ _ _ _ (hs.put? e hv) hb
      · exact hk _ _ _ _ (hs.put? e (.any _)) hb
    · cases e
end Go.Hv
