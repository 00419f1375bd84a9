import Derived.Test.YtcmomegkhoggpaaGreatDoorHv15
import Derived.Test.YtcmomegkhoggpaaGreatDoorHvM2
set_option linter.unusedVariables false
set_option linter.unusedSectionVars false
set_option linter.unusedSimpArgs false
namespace Go.Hv
open Go Go.RowKit
variable [GI]
variable {P : Program} {D : Nat → Prop} {F : Nat → Prop} {σ : HS} {a : Act} {w : World} {γ : Nat → Value} {bl : Nat → Option Nat}

def isAny : HV → Bool
 | .any => true
 | _ => false
def oldAny (L : List Ev) (p : HV) (n : Nat) : Bool :=
 match cellsAt L p n with
 | some cs => cs.all isAny
 | none => false
def storeHV (P : Program) (L : List Ev) (t : Nat) (p x : HV) : Option (List Ev) :=
 match agInfo P t, cellsHV x with
 | some (_, n), some xs => if xs.length = n then
   match p with
   | .ptr id off => match getO L id with
    | .row _ _ _ => if oldAny L (.ptr id off) n = true then storeAt L (.ptr id off) xs else match frzAll (idsOf xs) L (.ptr id off :: xs) with
     | some (L', p' :: xs') => storeAt L' p' xs'
     | _ => none
    | _ => storeAt L (.ptr id off) xs
   | _ => none
  else none
 | _, _ => none

theorem run_storeVar {t : TypeId} {i : TypeInfo} (hi : P.info? t = some i) {v : Value} (hv : v.cells.size = i.size) {b off : Nat} {w' : World} (h : (storeCells ⟨b, off, none⟩ v.cells.toList).run P w = .ok () w') :
  (Instr.storeAt t (.pointer (some ⟨b, off, none⟩)) v).run P w = .ok () w' := by
 unfold Instr.storeAt
 simp only [Instr.sureAddr, Sem.run_bind, Sem.run_pure, Result.andThen_ok]
 unfold storeVar
 simp only [Sem.run_bind, run_sizeOf_some hi, Result.andThen_ok]
 rw [if_neg (by omega)]
 exact h

theorem storeHV_run (S : Sim D F σ a w γ bl) {t : Nat} {p x : HV} {L' : List Ev} (e : storeHV P σ.log t p x = some L') {pv xv : Value} (rp : SRep w (dd D σ.log bl) γ bl p pv) (rx : SRep w (dd D σ.log bl) γ bl x xv) :
  ∃ w', (Instr.storeAt t pv xv).run P w = .ok () w' ∧ Kept F w w' ∧ Sim D F ⟨L', σ.n⟩ a w' γ bl := by
 unfold storeHV at e
 split at e
 ·next ag n xs hA hx =>
  simp only [Option.ite_none_right_eq_some] at e
  obtain ⟨hn, e⟩ := e
  unfold agInfo at hA
  split at hA
  ·next i d hi hu =>
   simp only [Option.some.injEq, Prod.mk.injEq] at hA
   obtain ⟨_, rfl⟩ := hA
   obtain ⟨k1, k2, k3⟩ := cellsHV_rep rx hx
   have h1 : ∀ v ∈ xv.cells.toList, v.oneCell' = true := fun v hv => by
    obtain ⟨j, hj⟩ := List.mem_iff_getElem?.1 hv
    rw [Array.getElem?_toList] at hj
    exact k2 j v hj
   have h2 : ∀ (j : Nat) (c : HV) (v : Value), xs[j]? = some c → xv.cells.toList[j]? = some v → SRep w (dd D σ.log bl) γ bl c v := fun j c v hc hv => k3 j c v hc (by rwa [Array.getElem?_toList] at hv)
   cases p with
   | ptr id off =>
    simp only at e
    have plain : storeAt σ.log (.ptr id off) xs = some L' → ∃ w', (Instr.storeAt t pv xv).run P w = .ok () w' ∧ Kept F w w' ∧ Sim D F ⟨L', σ.n⟩ a w' γ bl := by
     intro e
     obtain ⟨b, off', rfl, hr, hb, hs⟩ := storeAt_rep (P := P) S e rp (vs := xv.cells.toList) (by simpa using k1) h1 h2
     exact ⟨_, run_storeVar hi (by rw [k1]; omega) hr, hb, hs⟩
    cases ho : getO σ.log id with
    | row e0 sz es =>
     simp only [ho] at e
     split at e
     ·exact plain e
     split at e
     ·next L1 p' xs' hf =>
      obtain ⟨S', hl, hr⟩ := Sim.frzAll (idsOf xs) σ.log (.ptr id off :: xs) σ.n S (pv :: xv.cells.toList) hf (by simp [k1]) (fun j c v hc hv => by
       cases j with
       | zero => simp at hc hv; subst hc; subst hv; exact rp
       | succ j => exact h2 j c v (by simpa using hc) (by simpa using hv))
      obtain ⟨b, off', rfl, hr', hb, hs⟩ := storeAt_rep (P := P) S' e (hr 0 p' pv rfl rfl) (vs := xv.cells.toList) (by simp at hl; simp [k1, hl]) h1 (fun j c v hc hv => hr (j + 1) c v (by simpa using hc) (by simpa using hv))
      exact ⟨_, run_storeVar hi (by rw [k1]; omega) hr', hb, hs⟩
     ·cases e
    | gone => rw [ho] at e; exact plain e
    | box cs => rw [ho] at e; exact plain e
    | map es => rw [ho] at e; exact plain e
    | iter es left last => rw [ho] at e; exact plain e
    | prow V0 ob0 t0 z0 es0 => rw [ho] at e; exact plain e
    | mapb es0 bs0 ck0 => rw [ho] at e; exact plain e
   | _ => simp at e
  ·cases hA
 ·cases e

def buildSliceHV (P : Program) (L : List Ev) (t len : Nat) (parts : List (Nat × Operand)) : Option (List Ev × HV) :=
 match slInfo P t with
 | some (e, sz, _) => match zeroHV P e with
  | some zs => if zs.length = sz ∧ len = parts.length ∧ parts.map (·.1) = List.range parts.length ∧ parts.length * sz ≤ 16777216 then
    match frzAll (idsOf (parts.map fun p => opd L p.2)) L (parts.map fun p => opd L p.2) with
    | some (L', hs) => match partsHV sz hs with
     | some es => some (L', .sl sz true es)
     | none => none
    | none => none
   else none
  | none => none
 | none => none

theorem zip_range {β : Type} (f : Operand → β) (l : List (Nat × Operand)) (h : l.map (·.1) = List.range l.length) : l.map (fun p => (p.1, f p.2)) = ((l.map fun p => f p.2).zipIdx).map fun x => (x.2, x.1) := by
 apply List.ext_getElem?
 intro k
 rw [List.getElem?_map, List.getElem?_map, List.getElem?_zipIdx, List.getElem?_map]
 cases hk : l[k]? with
 | none => rfl
 | some p =>
  have h1 : (l.map (·.1))[k]? = some p.1 := by rw [List.getElem?_map, hk]; rfl
  rw [h, List.getElem?_range (getElem?_lt hk)] at h1
  simp only [Option.some.injEq] at h1
  simp [← h1]

theorem buildSliceHV_run (S : Sim D F σ a w γ bl) {t len : Nat} {parts : Array (Nat × Operand)} {L' : List Ev} {h : HV} (e : buildSliceHV P σ.log t len parts.toList = some (L', h)) :
  ∃ v w', (Instr.buildSlice t len (parts.map fun p => (p.1, a.eval p.2))).run P w = .ok v w' ∧ Kept F w w' ∧ Sim D F ⟨L', σ.n⟩ a w' γ bl ∧ SRep w' (dd D L' bl) γ bl h v := by
 unfold buildSliceHV at e
 split at e
 ·next e0 sz by_ hT =>
  split at e
  ·next zs hz =>
   simp only [Option.ite_none_right_eq_some] at e
   obtain ⟨⟨hzl, rfl, hidx, hlim⟩, e⟩ := e
   split at e
   ·next L1 hs hf =>
    split at e
    ·next es hp =>
     simp only [Option.some.injEq, Prod.mk.injEq] at e
     obtain ⟨rfl, rfl⟩ := e
     obtain ⟨S', hl, hr⟩ := Sim.frzAll _ σ.log _ σ.n S (parts.toList.map fun p => a.eval p.2) hf (by simp) (fun j c v hc hv => by
      simp only [List.getElem?_map] at hc hv
      cases hk : parts.toList[j]? with
      | none => simp [hk] at hc
      | some p => simp only [hk, Option.map_some, Option.some.injEq] at hc hv; subst hc; subst hv; exact S.opd p.2)
     have hl' : hs.length = parts.toList.length := by simpa using hl
     obtain ⟨v, C, hrun, hI⟩ := buildSlice_rep (P := P) S' hT hz hzl (hs := hs) (es := es) (vs := parts.toList.map fun p => a.eval p.2) (by rw [hl']; exact hlim) hp (by simp [hl']) hr
     refine ⟨v, _, ?_, (Kept.refl _ _).alloc S.hbw _, S'.world (by simp) (fun b hb => Below.heap_alloc _ _ _ hb), .imm hI⟩
     have he : (parts.map fun p => (p.1, a.eval p.2)) = ((parts.toList.map fun p => a.eval p.2).zipIdx.map fun x => (x.2, x.1)).toArray := by
      apply Array.ext'
      simp only [Array.toList_map]
      exact zip_range a.eval parts.toList hidx
     rw [he, ← hl']
     exact hrun
    ·cases e
   ·cases e
  ·cases e
 ·cases e

def winHV (P : Program) (L : List Ev) (t id : Nat) (l h m : Option Int) : Option (List Ev × HV) :=
 match getO L id with
 | .row e sz es => match slInfo P t with
  | some (_, sz', _) => if sz' = sz ∧ m = none ∧ 0 ≤ l.getD 0 ∧ l.getD 0 ≤ h.getD es.length ∧ h.getD es.length ≤ es.length then
    match l with
    | none => some (.o id (.row e sz (subLL id .any .any (es.take (h.getD es.length).toNat))) :: .sub id .any .any :: L, .ref id)
    | some l => some (L, .view id (l.toNat * sz) ((h.getD es.length).toNat - l.toNat))
   else none
  | none => none
 | _ => none
theorem winHV_run (S : Sim D F σ a w γ bl) {t id : Nat} {h : HV} {L' : List Ev} {lo hi mx : Option Operand} {l hh m : Option Int} (el : boundOf σ.log lo = some l) (eh : boundOf σ.log hi = some hh) (em : boundOf σ.log mx = some m)
  (e : winHV P σ.log t id l hh m = some (L', h)) {xv : Value} (rx : SRep w (dd D σ.log bl) γ bl (.ref id) xv) :
  ∃ v γ' bl', (Instr.sliceAt t xv (lo.map a.eval) (hi.map a.eval) (mx.map a.eval)).run P w = .ok v w ∧ Sim D F ⟨L', σ.n⟩ a w γ' bl' ∧ SRep w (dd D L' bl') γ' bl' h v := by
 have hxv : xv = γ id := by
  cases rx with
  | imm hi => cases hi
  | ref _ _ => rfl
 subst hxv
 unfold winHV at e
 split at e
 ·next e0 sz es ho =>
  split at e
  ·next e1 sz' by_ hT =>
   obtain ⟨inf, ht, hi', rfl, rfl, hsz⟩ := slInfo_some hT
   simp only [Option.ite_none_right_eq_some] at e
   obtain ⟨⟨hz, rfl, h1, h2, h3⟩, e⟩ := e
   have hlive : getO σ.log id ≠ .gone := by rw [ho]; simp
   have R := S.hobj id
   rw [ho] at R
   obtain ⟨hz0, hl0, R⟩ := R
   have hrun : ∀ A cap, es.length ≤ cap → (Instr.sliceAt t (.slice A es.length cap) (lo.map a.eval) (hi.map a.eval) (mx.map a.eval)).run P w =
     .ok (.slice (if cap = (l.getD 0).toNat then A else A.map (·.add ((l.getD 0).toNat * inf.size))) ((hh.getD es.length).toNat - (l.getD 0).toNat) (cap - (l.getD 0).toNat)) w := by
    intro A cap hlc
    have hb := run_sliceBounds (P := P) S (isS := true) el eh em (len := es.length) (cap := cap) hlc h1 h2 h3 (.inl rfl)
    unfold Instr.sliceAt
    rw [Sem.run_bind, run_underlying ht, Result.andThen_ok]
    simp only
    unfold Instr.slice
    rw [Sem.run_bind, run_underlying ht, Result.andThen_ok]
    simp only [Sem.run_bind, hb, Result.andThen_ok, run_sizeOf_some hi', Sem.run_pure, capOf]
   cases l with
   | none =>
    simp only [Option.some.injEq, Prod.mk.injEq] at e
    obtain ⟨rfl, rfl⟩ := e
    simp only [Option.getD_none, Int.toNat_zero, Nat.zero_mul, Nat.sub_zero] at hrun h1 h2
    rcases R with ⟨rfl, ⟨A, hA⟩, hbl0⟩ | ⟨b, cap, C, fr, g1, g2, g3, g4, g5, g6, g7, g8, g9⟩
    ·have := hrun A 0 (Nat.le_refl _)
     have hh0 : (hh.getD (([] : List (List HV)).length : Int)).toNat = 0 := by
      have hz0 : ((([] : List (List HV)).length : Nat) : Int) = 0 := rfl
      omega
     rw [hh0, if_pos rfl] at this
     have S2 := S.lay (id := id) (o' := .row e0 sz (subLL id .any .any (([] : List (List HV)).take (hh.getD (([] : List (List HV)).length)).toNat))) (hdl := .slice A 0 0) (ob := none) (Nat.le_refl _) (fun _ _ _ => rfl) (fun b hb => by cases hb) (fun _ _ => ⟨hz0, by simp [subLL], .inl ⟨by simp [subLL], ⟨A, upd_same ..⟩, upd_same ..⟩⟩)
     refine ⟨_, upd γ id (Value.slice A 0 0), upd bl id none, by rw [hA]; exact this, S2, ?_⟩
     have hu : upd γ id (Value.slice A 0 0) id = .slice A 0 0 := upd_same ..
     refine Eq.mp (congrArg (SRep _ _ _ _ (.ref id)) hu) (.ref id (by rw [hu]; rfl))
    ·have := hrun (some ⟨b, 0, none⟩) cap g5
     rw [show (some (⟨b, 0, none⟩ : Addr)).map (·.add 0) = some ⟨b, 0, none⟩ from rfl, ite_self] at this
     have hk : (hh.getD es.length).toNat ≤ es.length := by omega
     generalize hkd : (hh.getD es.length).toNat = k at this hk
     have S2 := S.lay (id := id) (o' := .row e0 sz (subLL id .any .any (es.take k))) (hdl := .slice (some ⟨b, 0, none⟩) k cap) (ob := some b) (Nat.le_refl _) (fun _ _ _ => rfl)
      (fun b' hb => by cases hb; exact .inr ⟨hlive, g2⟩) (fun hS _ => by
       refine ⟨hz0, fun x hx => ?_, .inr ⟨b, cap, C, fr, ?_, upd_same .., g3, g4, ?_, g6, g7, g8, fun i j x c hx hc => ?_⟩⟩
       ·obtain ⟨y, hy, rfl⟩ := List.mem_map.1 hx
        rw [subL_length]; exact hl0 y (List.mem_of_mem_take hy)
       ·rw [upd_same]; congr 1; rw [subLL_length, List.length_take]; omega
       ·rw [subLL_length, List.length_take]; omega
       ·unfold subLL at hx
        rw [List.getElem?_map] at hx
        cases hxi : (es.take k)[i]? with
        | none => simp [hxi] at hx
        | some x0 =>
         simp only [hxi, Option.map_some, Option.some.injEq] at hx
         subst hx
         rw [subL_getElem?] at hc
         cases hcj : x0[j]? with
         | none => simp [hcj] at hc
         | some c0 =>
          simp only [hcj, Option.map_some, Option.some.injEq] at hc
          subst hc
          have hik : i < k := by
           rcases Nat.lt_or_ge i k with h' | h'
           ·exact h'
           ·rw [List.getElem?_eq_none (by rw [List.length_take]; omega)] at hxi; cases hxi
          rw [List.getElem?_take_of_lt hik] at hxi
          obtain ⟨v, hv, hr⟩ := g9 i j x0 c0 hxi hcj
          exact ⟨v, hv, hS _ _ hr⟩)
     refine ⟨_, upd γ id (Value.slice (some ⟨b, 0, none⟩) k cap), upd bl id (some b), by rw [g1]; exact this, S2, ?_⟩
     have hu : upd γ id (Value.slice (some ⟨b, 0, none⟩) k cap) id = .slice (some ⟨b, 0, none⟩) k cap := upd_same ..
     refine Eq.mp (congrArg (SRep _ _ _ _ (.ref id)) hu) (.ref id (by rw [hu]; rfl))
   | some l =>
    simp only [Option.some.injEq, Prod.mk.injEq] at e
    obtain ⟨rfl, rfl⟩ := e
    simp only [Option.getD_some] at hrun h1 h2
    rcases R with ⟨rfl, ⟨A, hA⟩, hbl0⟩ | ⟨b, cap, C, fr, g1, g2, g3, g4, g5, g6, g7, g8, g9⟩
    ·have := hrun A 0 (Nat.le_refl _)
     have hn : (hh.getD (([] : List (List HV)).length)).toNat - l.toNat = 0 := by simp at h3 ⊢; omega
     refine ⟨_, γ, bl, by rw [hA]; exact this, S, .view fun h => by omega⟩
    ·have := hrun (some ⟨b, 0, none⟩) cap g5
     refine ⟨_, γ, bl, by rw [g1]; exact this, S, .view fun h => ⟨b, g2, ?_⟩⟩
     rw [if_neg (by omega)]
     simp [add_at, hz]
  ·cases e
 ·cases e
def clearHV (P : Program) (L : List Ev) (t : Nat) (x : HV) : Option (List Ev) :=
 match x with
 | .view id lo n => match getO L id with
  | .row e sz es => match slInfo P t with
   | some (e', sz', _) => match zeroHV P e' with
    | some zs => if sz' = sz ∧ zs.length = sz ∧ lo % sz = 0 ∧ lo / sz + n ≤ es.length then some (.o id (.row e sz (es.take (lo / sz) ++ List.replicate n zs ++ es.drop (lo / sz + n))) :: L) else none
    | none => none
   | none => none
  | _ => none
 | _ => none
theorem zeroCells_get (z : Array Value) (n j : Nat) (hz : 0 < z.size) : (Builtin.zeroCells z n).toList[j]? = if j < n * z.size then z[j % z.size]? else none := by
 rw [Array.getElem?_toList]
 unfold Builtin.zeroCells
 rw [Array.getElem?_map]
 by_cases h : j < n * z.size
 ·have hm : j % z.size < z.size := Nat.mod_lt _ hz
  simp [h, hm]
 ·have hn : (Array.range (n * z.size))[j]? = none := Array.getElem?_eq_none (by simp; omega)
  rw [hn, if_neg h]; rfl
theorem clear_run (S : Sim D F σ a w γ bl) {t ty : Nat} {x : HV} {L' : List Ev} {xv : Value} (e : clearHV P σ.log t x = some L') (rx : SRep w (dd D σ.log bl) γ bl x xv) :
  ∃ w', (Builtin.clear_ #[t] ty #[xv]).run P w = .ok (.tuple #[]) w' ∧ Kept F w w' ∧ Sim D F ⟨L', σ.n⟩ a w' γ bl := by
 unfold clearHV at e
 split at e
 ·next id lo n =>
  split at e
  ·next e0 sz es ho =>
   split at e
   ·next e1 sz' by_ hT =>
    split at e
    ·next zs hzr =>
     simp only [Option.ite_none_right_eq_some, Option.some.injEq] at e
     obtain ⟨⟨hz, hzl, hlo, hle⟩, rfl⟩ := e
     obtain ⟨inf, ht, hi', rfl, rfl, hsz⟩ := slInfo_some hT
     obtain ⟨i, z, hi2, hzv, hzs, hz1, hzI⟩ := zeroHV_some hzr
     have hlive : getO σ.log id ≠ .gone := by rw [ho]; simp
     have R := S.hobj id
     rw [ho] at R
     obtain ⟨hz0, hl0, R⟩ := R
     cases rx with
     | imm hI => cases hI
     | @view _ _ _ cap0 A hv =>
      by_cases hn : n = 0
      ·subst hn
       refine ⟨w, ?_, Kept.refl _ _, ?_⟩
       ·unfold Builtin.clear_
        cases A <;> simp [run_underlying ht]
       ·have : es.take (lo / sz) ++ List.replicate 0 zs ++ es.drop (lo / sz + 0) = es := by simp
        rw [this]
        refine S.set hlive (by simp) (Nat.le_refl _) (fun _ _ _ => rfl) (fun _ _ => ?_)
        have R := S.hobj id
        rw [ho] at R
        exact R
      ·obtain ⟨b, hb, rfl⟩ := hv (by omega)
       rcases R with ⟨rfl, _, hb0⟩ | ⟨b', cap, C, fr, g1, g2, g3, g4, g5, g6, g7, g8, g9⟩
       ·rw [hb0] at hb; cases hb
       ·obtain rfl : b' = b := by rw [g2] at hb; exact Option.some.inj hb
        have hbase := (S.hblk id b' hlive g2).1
        let vs := (Builtin.zeroCells z.cells n).toList
        have hzs' : z.cells.size = sz := by rw [hzs, hzl]
        have hvg : ∀ j, vs[j]? = if j < n * sz then z.cells[j % sz]? else none := fun j => by
         have := zeroCells_get z.cells n j (by omega)
         rw [hzs'] at this; exact this
        have hvl : vs.length = n * sz := by simp [vs, size_zeroCells, hzs']
        have hlz : lo / sz * sz = lo := Nat.div_mul_cancel (Nat.dvd_of_mod_eq_zero hlo)
        have hfit : lo + n * sz ≤ C.size := by
         rw [g7]
         have : (lo / sz + n) * sz ≤ cap * sz := Nat.mul_le_mul_right _ (by omega)
         rw [Nat.add_mul, hlz] at this
         exact this
        have h1 : ∀ v ∈ vs, v.oneCell' = true := fun v hv => by
         obtain ⟨j, hj⟩ := List.mem_iff_getElem?.1 hv
         rw [hvg] at hj
         split at hj
         ·exact hz1 _ v hj
         ·cases hj
        have hst := run_storeCells_cells (P := P) b' lo vs 0 w (fun j hj => by
          have : lo + j < C.size := by omega
          simp [World.cell?, g3, this]) (fun j hj => by
          have := g4 (lo + 0 + j) (by omega)
          simp only [World.frozen?, g3]
          simpa using this) h1
        refine ⟨w.setCells b' lo vs, ?_, Kept.setCells hbase vs lo (Kept.refl _ _), ?_⟩
        ·unfold Builtin.clear_
         have hzz : (zeroValue e1).run P w = .ok z w := by
          simp [zeroValue, typeInfo, hi2, hzv]
         obtain ⟨n', rfl⟩ : ∃ n', n = n' + 1 := ⟨n - 1, by omega⟩
         simp only [Nat.zero_add, Nat.add_zero] at hst
         simp [run_underlying ht, hzz]
         have hst' : (storeCells ⟨b', lo, none⟩ (Builtin.zeroCells z.cells (n' + 1)).toList).run P w = .ok () (w.setCells b' lo vs) := hst
         simp [hst']
        ·refine S.set hlive (by simp) (by rw [size_setCells]; exact Nat.le_refl _) (fun k hk hne => heap_setCells_other b' vs lo w k (fun x => hne (by rw [x]; exact g2))) (fun hS hIr => ?_)
         obtain ⟨C', q1, q2, q3⟩ := heap_setCells b' e0 fr vs lo w C g3
         have hel : (es.take (lo / sz) ++ List.replicate n zs ++ es.drop (lo / sz + n)).length = es.length := by simp; omega
         refine ⟨hz0, fun x hx => ?_, .inr ⟨b', cap, C', fr, by rw [hel]; exact g1, g2, q1, by rw [q2]; exact g4, by rw [hel]; exact g5, g6, by rw [q2]; exact g7, fun j v hv => ?_, fun i j x c hx hc => ?_⟩⟩
         ·simp only [List.mem_append] at hx
          rcases hx with (hx | hx) | hx
          ·exact hl0 x (List.mem_of_mem_take hx)
          ·rw [List.eq_of_mem_replicate hx]; exact hzl
          ·exact hl0 x (List.mem_of_mem_drop hx)
         ·rw [q3] at hv
          split at hv
          ·exact h1 v (List.mem_of_getElem? hv)
          ·exact g8 j v hv
         ·have hxl : x.length = sz := by
           have hx' := List.mem_of_getElem? hx
           simp only [List.mem_append] at hx'
           rcases hx' with (hx' | hx') | hx'
           ·exact hl0 x (List.mem_of_mem_take hx')
           ·rw [List.eq_of_mem_replicate hx']; exact hzl
           ·exact hl0 x (List.mem_of_mem_drop hx')
          have hjx : j < sz := by
           have := getElem?_lt hc
           omega
          have hie := getElem?_lt hx
          rw [hel] at hie
          by_cases hin : lo / sz ≤ i ∧ i < lo / sz + n
          ·have hxz : x = zs := by
            rw [List.append_assoc, List.getElem?_append_right (by simp; omega), List.getElem?_append_left (by simp; omega)] at hx
            exact List.eq_of_mem_replicate (List.mem_of_getElem? hx)
           subst hxz
           have hpos : i * sz + j - lo = (i - lo / sz) * sz + j := by
            rw [Nat.sub_mul, hlz]
            have := Nat.mul_le_mul_right sz hin.1
            rw [hlz] at this
            omega
           have hltn : (i - lo / sz) * sz + j < n * sz := flat_lt (by omega) hjx
           have hlo' : lo ≤ i * sz + j := by
            have := Nat.mul_le_mul_right sz hin.1
            rw [hlz] at this
            omega
           have hmod : ((i - lo / sz) * sz + j) % sz = j := by
            rw [Nat.mul_comm, Nat.mul_add_mod, Nat.mod_eq_of_lt hjx]
           have hzc : z.cells[j]? = some (z.cells[j]'(by omega)) := Array.getElem?_eq_getElem (by omega)
           refine ⟨z.cells[j]'(by omega), ?_, .imm (hzI _ _ j c _ hc hzc)⟩
           rw [q3, if_pos ⟨hlo', by omega, by omega⟩, hvg, hpos, if_pos hltn, hmod]
           exact hzc
          ·have hx0 : es[i]? = some x := by
            rcases Nat.lt_or_ge i (lo / sz) with h' | h'
            ·rw [List.append_assoc, List.getElem?_append_left (by simp; omega), List.getElem?_take_of_lt h'] at hx
             exact hx
            ·rw [List.getElem?_append_right (by simp; omega), List.getElem?_drop] at hx
             rw [← hx]; congr 1; simp; omega
           obtain ⟨v, hv, hr⟩ := g9 i j x c hx0 hc
           refine ⟨v, ?_, hS _ _ hr⟩
           rw [q3, if_neg]
           ·exact hv
           ·rintro ⟨k1, k2, _⟩
            apply hin
            rw [hvl] at k2
            refine ⟨?_, ?_⟩
            ·rcases Nat.lt_or_ge i (lo / sz) with h' | h'
             ·have := Nat.mul_le_mul_right sz (show i + 1 ≤ lo / sz from h')
              rw [Nat.add_mul, Nat.one_mul, hlz] at this
              omega
             ·exact h'
            ·rcases Nat.lt_or_ge i (lo / sz + n) with h' | h'
             ·exact h'
             ·have := Nat.mul_le_mul_right sz h'
              rw [Nat.add_mul, hlz] at this
              omega
    ·cases e
   ·cases e
  ·cases e
 ·cases e
def sliceRefHV (P : Program) (L : List Ev) (t : Nat) (x : HV) (lo hi mx : Option Operand) : Option (List Ev × HV) :=
 match x with
 | .ref id => match boundOf L lo, boundOf L hi, boundOf L mx with
  | some l, some h, some m => if 900 ≤ id then winHV P L t id l h m else match frzAll [id] L [.ref id] with
   | some (L', [x']) => match isI x', sliceSlHV P t x' l h m with
    | true, some h => some (L', h)
    | _, _ => none
   | _ => none
  | _, _, _ => none
 | _ => none
theorem sliceRefHV_run (S : Sim D F σ a w γ bl) {t : Nat} {x h : HV} {L' : List Ev} {lo hi mx : Option Operand} (e : sliceRefHV P σ.log t x lo hi mx = some (L', h)) {xv : Value} (rx : SRep w (dd D σ.log bl) γ bl x xv) :
  ∃ v γ' bl', (Instr.sliceAt t xv (lo.map a.eval) (hi.map a.eval) (mx.map a.eval)).run P w = .ok v w ∧ Sim D F ⟨L', σ.n⟩ a w γ' bl' ∧ SRep w (dd D L' bl') γ' bl' h v := by
 unfold sliceRefHV at e
 split at e
 ·next id =>
  split at e
  ·next l hh m el eh em =>
   split at e
   ·exact winHV_run S el eh em e rx
   split at e
   ·next L1 x' hf =>
    split at e
    ·next hI hs =>
     simp only [Option.some.injEq, Prod.mk.injEq] at e
     obtain ⟨rfl, rfl⟩ := e
     obtain ⟨S', hl, hr⟩ := Sim.frzAll _ σ.log _ σ.n S [xv] hf rfl (fun j c v hc hv => by
      cases j with
      | zero => simp at hc hv; subst hc; subst hv; exact rx
      | succ j => simp at hc)
     obtain ⟨v, h1, h2⟩ := sliceSl_run (P := P) S el eh em hs ((hr 0 x' xv rfl rfl).toI hI)
     exact ⟨v, γ, bl, h1, S', .imm h2⟩
    ·cases e
   ·cases e
  ·cases e
 ·cases e

open Go.ChangeMaps (setBlock)
open Classical in
noncomputable def mapEntHV (P : Program) (L : List Ev) (t : TypeId) (m k : HV) : Option (List Ev × HV) :=
 match mpInfo P t with
 | some (kt, et) => match m with
  | .mref id => match getO L id, zOneHV P et with
   | .mapb es bs ck, some z => if keyOK P kt k = true ∧ isI k = true then match findHV P kt k es 0 with
     | some (some r) => if scalK k = true ∧ es[r.1]?.map (·.1) = some k then match bs[r.1]? with
       | some n => some (.o id (.mapb (es.set r.1 (k, r.2)) bs ck) :: L, .tup [r.2, .lit (.int .i64 n)])
       | none => none
      else none
     | some none => some (.o id (.mapb (es ++ [(k, z)]) (bs ++ [ck]) (ck + 1)) :: L, .tup [z, .lit (.int .i64 ck)])
     | none => none
    else none
   | _, _ => none
  | _ => none
 | none => none
def entStHV (L : List Ev) (m s v : HV) : Option (List Ev) :=
 match m with
 | .mref id => match getO L id, s with
  | .mapb es bs ck, .lit (.int .i64 n) => match bs.findIdx? (fun b : Nat => decide ((b : Int) = n)) with
   | some i => match es[i]? with
    | some p => some (.o id (.mapb (es.set i (p.1, v)) bs ck) :: L)
    | none => none
   | none => none
  | _, _ => none
 | _ => none
theorem mapEnt_run (S : Sim D F σ a w γ bl) {t : TypeId} {m k h : HV} {L' : List Ev} {mv kv : Value} (e : mapEntHV P σ.log t m k = some (L', h)) (rm : SRep w (dd D σ.log bl) γ bl m mv) (rk : SRep w (dd D σ.log bl) γ bl k kv) :
  ∃ v w', (Instr.mapEntry t mv kv).run P w = .ok v w' ∧ Kept F w w' ∧ Sim D F ⟨L', σ.n⟩ a w' γ bl ∧ SRep w' (dd D L' bl) γ bl h v := by
 unfold mapEntHV at e
 split at e
 ·next kt et hm =>
  have hu := mpInfo_some hm
  split at e
  ·next id =>
   split at e
   ·next es bs ck z ho hz =>
    simp only [Option.ite_none_right_eq_some] at e
    obtain ⟨⟨hk, hki⟩, e⟩ := e
    have hlive : getO σ.log id ≠ .gone := by rw [ho]; simp
    have R := S.hobj id
    rw [ho] at R
    obtain ⟨b, ents, h1, h2, h3, h4, h4', h5, h6⟩ := R
    obtain rfl : mv = .map (some b) := by
     cases rm with
     | imm hi => cases hi
     | mref hb => rw [h1] at hb; cases hb; rfl
    have hbl : b < w.heap.size := lt_of_get h2
    have hF : ¬ F b := (S.hblk id b hlive h1).1
    have kI := rk.toI hki
    have hck := keyOK_check (P := P) hk rk false
    obtain ⟨zv, hzr, hzI⟩ := zOne_run (P := P) (w := w) hz (dd D σ.log bl)
    have hdd : ∀ o', o' ≠ .gone → ∀ x, dd D (.o id o' :: σ.log) bl x → dd D σ.log bl x := by
     rintro o' _ x (h | ⟨j, h, h'⟩)
     ·exact .inl h
     ·refine .inr ⟨j, ?_, h'⟩
      by_cases e : id = j
      ·subst e; exact hlive
      ·simpa [getO, e] using h
    have hkeep : ∀ o' x, x < w.heap.size → ¬ dd D σ.log bl x → (setBlock w b o').heap[x]? = w.heap[x]? := fun o' x _ hnd => by
     rw [heap_setBlock, if_neg (by rintro ⟨rfl, _⟩; exact hnd (.inr ⟨id, hlive, h1⟩))]
    have step : ∀ (ents' : Array MapEntry) (clock' : Nat) (es' : List (HV × HV)) (bs' : List Nat), ents'.size = es'.length → ents'.toList.map (·.born) = bs' → bs'.Nodup → (∀ (i : Nat) (e : MapEntry), ents'[i]? = some e → e.born < clock') →
      (∀ (i : Nat) (k x : HV) (e : MapEntry), es'[i]? = some (k, x) → ents'[i]? = some e → IRep w (dd D σ.log bl) k e.key ∧ SRep w (dd D σ.log bl) γ bl x e.val) →
      Sim D F ⟨.o id (.mapb es' bs' clock') :: σ.log, σ.n⟩ a (setBlock w b (.map ents' clock')) γ bl := by
     intro ents' clock' es' bs' q1 q2 q2' q3 q4
     refine S.set hlive (by simp) (by rw [size_setBlock]; exact Nat.le_refl _) (fun k hk hne => by rw [heap_setBlock, if_neg (by rintro ⟨rfl, _⟩; exact hne h1)]) (fun hS hI => ?_)
     exact ⟨b, ents', h1, by rw [heap_setBlock, if_pos ⟨rfl, hbl⟩], q1, q2, q2', q3, fun i k x e hx he => ⟨hI _ _ (q4 i k x e hx he).1, hS _ _ (q4 i k x e hx he).2⟩⟩
    have hKR : KeyRel w (dd D σ.log bl) es ents.toList := keyRel_of h3 (fun i k x e p q => (h6 i k x e p q).1)
    cases hf : findHV P kt k es 0 with
    | none => rw [hf] at e; cases e
    | some r =>
     obtain ⟨r', g1, g2⟩ := findKey_run (P := P) hk rk hKR hf
     rw [hf] at e
     cases r with
     | none =>
      simp only [Found] at g2
      subst g2
      simp only [Option.some.injEq, Prod.mk.injEq] at e
      obtain ⟨rfl, rfl⟩ := e
      refine ⟨.tuple #[zv, .int .i64 ck], setBlock w b (.map (ents.push { key := kv, val := zv, born := ck }) (ck + 1)), ?_, (Kept.refl _ _).setBlock hF _, step _ _ _ _ (by simp [h3]) (by simp [h4]) ?_ (fun i e he => ?_) (fun i k' x e hx he => ?_), ?_⟩
      ·simp only [Instr.mapEntry, Sem.run_bind, run_underlying hu, Result.andThen_ok, run_getMap h2, hck, g1, hzr, setObj_map h2, Sem.run_pure]
       rfl
      ·rw [List.nodup_append]
       refine ⟨h4', by simp, fun x hx y hy => ?_⟩
       obtain rfl := List.mem_singleton.1 hy
       rw [← h4] at hx
       obtain ⟨e, he, rfl⟩ := List.mem_map.1 hx
       obtain ⟨i, hi⟩ := List.mem_iff_getElem?.1 he
       rw [Array.getElem?_toList] at hi
       have := h5 i e hi
       omega
      ·rw [Array.getElem?_push] at he
       split at he
       ·next hi => cases he; exact Nat.lt_succ_self _
       ·exact Nat.lt_succ_of_lt (h5 i e he)
      ·rw [Array.getElem?_push] at he
       split at he
       ·next hi =>
        cases he
        rw [List.getElem?_append_right (by omega), hi, h3] at hx
        simp at hx
        obtain ⟨rfl, rfl⟩ := hx
        exact ⟨kI, .imm hzI⟩
       ·next hi =>
        have hil : i < ents.size := by
         rcases Nat.lt_or_ge i ents.size with h | h
         ·exact h
         ·rw [Array.getElem?_eq_none h] at he; cases he
        rw [List.getElem?_append_left (by omega)] at hx
        exact h6 i k' x e hx he
      ·exact tup2 (.imm (hzI.mono (by rw [size_setBlock]; exact Nat.le_refl _) (fun x hx hnd => hkeep _ x hx hnd) (fun x _ h => hdd _ (by simp) x h))) (.imm (.lit _))
     | some jx =>
      obtain ⟨j, x⟩ := jx
      obtain ⟨en, p, rfl, _, g3, g4, g5, g6⟩ := g2
      simp only [Option.ite_none_right_eq_some] at e
      obtain ⟨⟨hsk, hkk⟩, e⟩ := e
      have g3' : es[j]? = some p := g3
      have g5' : ents[j]? = some en := by simpa using g5
      have hjl : j < ents.size := by
       rcases Nat.lt_or_ge j ents.size with h | h
       ·exact h
       ·rw [Array.getElem?_eq_none h] at g5'; cases g5'
      have hbj : bs[j]? = some en.born := by rw [← h4, List.getElem?_map, Array.getElem?_toList, g5']; rfl
      simp only [hbj, Option.some.injEq, Prod.mk.injEq] at e
      obtain ⟨rfl, rfl⟩ := e
      have hp1 : p.1 = k := by simp only [g3', Option.map_some, Option.some.injEq] at hkk; exact hkk
      have hp2 : p.2 = x := by simpa using g4
      have hold := (h6 j p.1 p.2 en g3' g5').1
      have hval := (h6 j p.1 p.2 en g3' g5').2
      rw [hp1] at hold
      rw [hp2] at hval
      have hsame := (scalK_det hsk hold kI).2 9999
      have hS2 := step (ents.modify j fun e => { e with key := kv }) ck (es.set j (k, x)) bs (by simp [h3]) (by
       rw [← h4]
       apply List.ext_getElem?
       intro m
       rw [List.getElem?_map, List.getElem?_map, Array.getElem?_toList, Array.getElem?_toList, Array.getElem?_modify]
       split
       ·next hm => subst hm; cases ents[j]? <;> rfl
       ·rfl) h4' (fun i e he => by
       rw [Array.getElem?_modify] at he
       split at he
       ·next hi =>
        subst hi
        rw [g5'] at he
        simp only [Option.map_some, Option.some.injEq] at he
        subst he
        exact h5 j en g5'
       ·exact h5 i e he) (fun i k' x' e hx he => by
       rw [Array.getElem?_modify] at he
       rw [List.getElem?_set] at hx
       split at he
       ·next hi =>
        subst hi
        rw [if_pos rfl, if_pos (by omega)] at hx
        rw [g5'] at he
        simp only [Option.map_some, Option.some.injEq] at he hx
        subst he
        cases hx
        exact ⟨kI, hval⟩
       ·next hi =>
        rw [if_neg hi] at hx
        exact h6 i k' x' e hx he)
      refine ⟨.tuple #[en.val, .int .i64 en.born], setBlock w b (.map (ents.modify j fun e => { e with key := kv }) ck), ?_, (Kept.refl _ _).setBlock hF _, hS2, ?_⟩
      ·have hks : (Instr.keyThatStays (((ents[j]?).map (·.key)).getD kv) kv).run P w = .ok kv w := by
        simp only [g5', Option.map_some, Option.getD_some, Instr.keyThatStays, hsame, if_true, Sem.run_pure]
       simp only [Instr.mapEntry, Sem.run_bind, run_underlying hu, Result.andThen_ok, run_getMap h2, hck, g1, hks, setObj_map h2, Sem.run_pure]
       simp [g5', goInt]
      ·refine tup2 ?_ (.imm (.lit _))
       exact hval.mono (by rw [size_setBlock]; exact Nat.le_refl _) (fun x hx hnd => hkeep _ x hx hnd) (fun x _ h => hdd _ (by simp) x h)
   ·cases e
  ·cases e
 ·cases e
theorem findIdx_born (ents : Array MapEntry) (n : Int) : ents.findIdx? (fun e => (e.born : Int) == n) = (ents.toList.map (·.born)).findIdx? (fun b : Nat => decide ((b : Int) = n)) := by
 rcases ents with ⟨l⟩
 rw [List.findIdx?_map]
 show l.toArray.findIdx? _ = _
 rw [List.findIdx?_toArray]
 congr 1
theorem entSt_run (S : Sim D F σ a w γ bl) {t : TypeId} {m s v : HV} {L' : List Ev} {mv sv vv : Value} (e : entStHV σ.log m s v = some L') (rm : SRep w (dd D σ.log bl) γ bl m mv) (rs : SRep w (dd D σ.log bl) γ bl s sv) (rv : SRep w (dd D σ.log bl) γ bl v vv) :
  ∃ w', (Instr.entryStore t mv sv vv).run P w = .ok () w' ∧ Kept F w w' ∧ Sim D F ⟨L', σ.n⟩ a w' γ bl := by
 unfold entStHV at e
 split at e
 ·next id =>
  split at e
  ·next es bs ck n ho =>
   have hlive : getO σ.log id ≠ .gone := by rw [ho]; simp
   have R := S.hobj id
   rw [ho] at R
   obtain ⟨b, ents, h1, h2, h3, h4, h4', h5, h6⟩ := R
   obtain rfl : mv = .map (some b) := by
    cases rm with
    | imm hi => cases hi
    | mref hb => rw [h1] at hb; cases hb; rfl
   obtain rfl : sv = .int .i64 n := rs.lit_inv
   have hbl : b < w.heap.size := lt_of_get h2
   have hF : ¬ F b := (S.hblk id b hlive h1).1
   split at e
   ·next j hj =>
    split at e
    ·next p hp =>
     simp only [Option.some.injEq] at e
     subst e
     have hjl : j < ents.size := by rw [h3]; exact getElem?_lt hp
     have hfi : ents.findIdx? (fun e => (e.born : Int) == n) = some j := by rw [findIdx_born, h4]; exact hj
     refine ⟨setBlock w b (.map (ents.modify j fun e => { e with val := vv }) ck), ?_, (Kept.refl _ _).setBlock hF _, ?_⟩
     ·simp [Instr.entryStore, run_getMap h2, asInt, asIntOf, hfi, setObj_map h2]
     ·refine S.set hlive (by simp) (by rw [size_setBlock]; exact Nat.le_refl _) (fun k hk hne => by rw [heap_setBlock, if_neg (by rintro ⟨rfl, _⟩; exact hne h1)]) (fun hS hI => ?_)
      refine ⟨b, _, h1, by rw [heap_setBlock, if_pos ⟨rfl, hbl⟩], by simp [h3], ?_, h4', fun i e he => ?_, fun i k x e hx he => ?_⟩
      ·rw [← h4]
       apply List.ext_getElem?
       intro m
       rw [List.getElem?_map, List.getElem?_map, Array.getElem?_toList, Array.getElem?_toList, Array.getElem?_modify]
       split
       ·next hm => subst hm; cases ents[j]? <;> rfl
       ·rfl
      ·rw [Array.getElem?_modify] at he
       split at he
       ·next hi =>
        subst hi
        cases hq : ents[j]? with
        | none => rw [hq] at he; cases he
        | some en =>
         rw [hq] at he
         simp only [Option.map_some, Option.some.injEq] at he
         subst he
         exact h5 j en hq
       ·exact h5 i e he
      ·rw [Array.getElem?_modify] at he
       rw [List.getElem?_set] at hx
       split at he
       ·next hi =>
        subst hi
        rw [if_pos rfl, if_pos (by omega)] at hx
        cases hq : ents[j]? with
        | none => rw [hq] at he; cases he
        | some en =>
         rw [hq] at he
         simp only [Option.map_some, Option.some.injEq] at he hx
         subst he
         cases hx
         exact ⟨hI _ _ (h6 j p.1 p.2 en hp hq).1, hS _ _ rv⟩
       ·next hi =>
        rw [if_neg hi] at hx
        exact ⟨hI _ _ (h6 i k x e hx he).1, hS _ _ (h6 i k x e hx he).2⟩
    ·cases e
   ·cases e
  ·cases e
 ·cases e
noncomputable def mapDelHV (P : Program) (L : List Ev) (t : Nat) (m k : HV) : Option (List Ev) :=
 match mpInfo P t with
 | some (kt, _) => match m with
  | .mref id => match getO L id with
   | .map es => if keyOK P kt k = true then match findHV P kt k es 0 with
     | some (some r) => some (.o id (.map (es.eraseIdx r.1)) :: L)
     | some none => some (.o id (.map es) :: L)
     | none => none
    else none
   | _ => none
  | _ => none
 | none => none
theorem nodup_eraseIdx {l : List Nat} (h : l.Nodup) (j : Nat) : (l.eraseIdx j).Nodup := h.sublist (List.eraseIdx_sublist l j)
theorem toList_eraseIn (ents : Array MapEntry) (j : Nat) : (ents.eraseIdxIfInBounds j).toList = ents.toList.eraseIdx j := by
 unfold Array.eraseIdxIfInBounds
 split
 ·simp
 ·next h => rw [List.eraseIdx_of_length_le]; simpa using h
theorem map_eraseIdx' {α β : Type} (f : α → β) : ∀ (l : List α) (j : Nat), (l.eraseIdx j).map f = (l.map f).eraseIdx j
 | [], _ => by simp
 | x :: l, 0 => by simp
 | x :: l, j + 1 => by simp [map_eraseIdx' f l j]
theorem getElem?_erased {α : Type} (l : List α) (j i : Nat) : (l.eraseIdx j)[i]? = l[if i < j then i else i + 1]? := by
 rw [List.getElem?_eraseIdx]
 split <;> simp_all
theorem mapDel_run (S : Sim D F σ a w γ bl) {t u ty : Nat} {m k : HV} {L' : List Ev} {mv kv : Value} (e : mapDelHV P σ.log t m k = some L') (rm : SRep w (dd D σ.log bl) γ bl m mv) (rk : SRep w (dd D σ.log bl) γ bl k kv) :
  ∃ w', (Builtin.delete_ #[t, u] ty #[mv, kv]).run P w = .ok (.tuple #[]) w' ∧ Kept F w w' ∧ Sim D F ⟨L', σ.n⟩ a w' γ bl := by
 unfold mapDelHV at e
 split at e
 ·next kt et hm =>
  have hu := mpInfo_some hm
  split at e
  ·next id =>
   split at e
   ·next es ho =>
    simp only [Option.ite_none_right_eq_some] at e
    obtain ⟨hk, e⟩ := e
    have hlive : getO σ.log id ≠ .gone := by rw [ho]; simp
    have R := S.hobj id
    rw [ho] at R
    obtain ⟨b, ents, clock, h1, h2, h3, h4, h5, h6⟩ := R
    obtain rfl : mv = .map (some b) := by
     cases rm with
     | imm hi => cases hi
     | mref hb => rw [h1] at hb; cases hb; rfl
    have hbl : b < w.heap.size := lt_of_get h2
    have hF : ¬ F b := (S.hblk id b hlive h1).1
    have hck := fun bb => keyOK_check (P := P) hk rk bb
    have step : ∀ (ents' : Array MapEntry) (es' : List (HV × HV)), ents'.size = es'.length → (ents'.toList.map (·.born)).Nodup → (∀ (i : Nat) (e : MapEntry), ents'[i]? = some e → e.born < clock) →
      (∀ (i : Nat) (k x : HV) (e : MapEntry), es'[i]? = some (k, x) → ents'[i]? = some e → IRep w (dd D σ.log bl) k e.key ∧ SRep w (dd D σ.log bl) γ bl x e.val) →
      Sim D F ⟨.o id (.map es') :: σ.log, σ.n⟩ a (setBlock w b (.map ents' clock)) γ bl := by
     intro ents' es' q1 q2 q3 q4
     refine S.set hlive (by simp) (by rw [size_setBlock]; exact Nat.le_refl _) (fun k hk hne => by rw [heap_setBlock, if_neg (by rintro ⟨rfl, _⟩; exact hne h1)]) (fun hS hI => ?_)
     exact ⟨b, ents', clock, h1, by rw [heap_setBlock, if_pos ⟨rfl, hbl⟩], q1, q2, q3, fun i k x e hx he => ⟨hI _ _ (q4 i k x e hx he).1, hS _ _ (q4 i k x e hx he).2⟩⟩
    have hKR : KeyRel w (dd D σ.log bl) es ents.toList := keyRel_of h3 (fun i k x e p q => (h6 i k x e p q).1)
    cases hf : findHV P kt k es 0 with
    | none => rw [hf] at e; cases e
    | some r =>
     obtain ⟨r', g1, g2⟩ := findKey_run (P := P) hk rk hKR hf
     rw [hf] at e
     cases r with
     | none =>
      simp only [Found] at g2
      subst g2
      simp only [Option.some.injEq] at e
      subst e
      refine ⟨_, ?_, (Kept.refl _ _).setBlock hF (.map ents clock), step _ _ h3 h4 h5 h6⟩
      simp [Builtin.delete_, run_underlying hu, run_getMap h2, hck, g1, setObj_map h2]
     | some jx =>
      obtain ⟨j, x⟩ := jx
      obtain ⟨en, p, rfl, _, g3, g4, g5, _⟩ := g2
      simp only [Option.some.injEq] at e
      subst e
      have g3' : es[j]? = some p := g3
      have hel : (ents.eraseIdxIfInBounds j).toList = ents.toList.eraseIdx j := toList_eraseIn ents j
      have heg : ∀ i, (ents.eraseIdxIfInBounds j)[i]? = ents[if i < j then i else i + 1]? := fun i => by
       rw [← Array.getElem?_toList, hel, getElem?_erased, Array.getElem?_toList]
      refine ⟨_, ?_, (Kept.refl _ _).setBlock hF (.map (ents.eraseIdxIfInBounds j) clock), step _ _ ?_ ?_ (fun i e he => ?_) (fun i k' x' e hx he => ?_)⟩
      ·simp [Builtin.delete_, run_underlying hu, run_getMap h2, hck, g1, setObj_map h2]
      ·rw [← Array.length_toList, hel, List.length_eraseIdx, List.length_eraseIdx, Array.length_toList, h3]
      ·rw [hel, map_eraseIdx']
       exact nodup_eraseIdx h4 j
      ·rw [heg] at he
       exact h5 _ e he
      ·rw [heg] at he
       rw [getElem?_erased] at hx
       exact h6 _ k' x' e hx he
   ·cases e
  ·cases e
 ·cases e

noncomputable def evE (P : Program) (L : List Ev) (dst : Option Tmp) (op : Op) : Option (List Ev × HV) :=
 match op with
 | .alloc t => match dst, zeroHV P t with
  | some d, some zs => some (.o d (.box (subL d .any .any zs)) :: .sub d .any .any :: L, .ptr d 0)
  | _, _ => none
 | .box _ x => match dst, cellsHV (opd L x) with
  | some d, some cs => some (.o d (.box (subL d .any .any cs)) :: .sub d .any .any :: L, .ptr d 0)
  | _, _ => none
 | .store t p x => (storeHV P L t (opd L p) (opd L x)).map (·, .any)
 | .buildSlice t len parts => buildSliceHV P L t len parts.toList
 | .makeSlice t n m => makeSliceHV P L dst t (opd L n) (opd L m)
 | .makeMap _ none => makeMapHV L dst
 | .mapUpdate t m k v => (mapUpdHV P L t (opd L m) (opd L k) (opd L v)).map (·, .any)
 | .mapEntry t m k => mapEntHV P L t (opd L m) (opd L k)
 | .entryStore t m s v => (entStHV L (opd L m) (opd L s) (opd L v)).map (·, .any)
 | .range t x => rangeHV P L dst t (opd L x)
 | .convert s t x => strBytesHV P L dst s t (opd L x)
 | .slice t x lo hi mx => sliceRefHV P L t (opd L x) lo hi mx
 | .call c => match c.callee, c.args.toList, c.argTypes.toList with
  | .builtin .append, [s, x], [t, u] => appendHV P L dst t u (opd L s) (opd L x)
  | .builtin .clear, [x], [t] => (clearHV P L t (opd L x)).map (·, .any)
  | .builtin .delete, [m, k], [t, u] => (mapDelHV P L t (opd L m) (opd L k)).map (·, .any)
  | _, _, _ => none
 | _ => none

theorem evE_run (S : Sim D F σ a w γ bl) {o : Oper} {L' : List Ev} {h : HV} (e : evE P σ.log o.dst o.op = some (L', h)) :
  ∃ nx w' γ' bl', (execOp a.eval o).run P w = .ok nx w' ∧ Kept F w w' ∧ Sim D F ⟨L', σ.n⟩ a w' γ' bl' ∧ ((∃ v, nx = .value v ∧ SRep w' (dd D L' bl') γ' bl' h v) ∨ (nx = .skip ∧ h = .any)) := by
 unfold evE at e
 split at e
 ·next t ho =>
  split at e
  ·next d zs hd hz =>
   simp only [Option.some.injEq, Prod.mk.injEq] at e
   obtain ⟨rfl, rfl⟩ := e
   obtain ⟨i, z, hi, hzr, hzs, hz1, hzI⟩ := zeroHV_some hz
   have hS := S.layBox d t z.cells zs hzs hz1 (fun j c v hc hv => .imm (hzI w _ j c v hc hv))
   exact ⟨_, _, _, _, by simp only [execOp, ho]; rw [Sem.run_bind, run_alloc_zero hi hzr]; rfl, (Kept.refl _ _).alloc S.hbw _, hS, .inl ⟨_, rfl, .ptr (upd_same ..)⟩⟩
  ·cases e
 ·next t x ho =>
  split at e
  ·next d cs hd hc =>
   simp only [Option.some.injEq, Prod.mk.injEq] at e
   obtain ⟨rfl, rfl⟩ := e
   obtain ⟨k1, k2, k3⟩ := cellsHV_rep (S.opd x) hc
   have hS := S.layBox d t (a.eval x).cells cs k1 k2 k3
   exact ⟨_, _, _, _, by simp only [execOp, ho]; rw [Sem.run_bind, run_box]; rfl, (Kept.refl _ _).alloc S.hbw _, hS, .inl ⟨_, rfl, .ptr (upd_same ..)⟩⟩
  ·cases e
 ·next t p x ho =>
  simp only [Option.map_eq_some_iff, Prod.mk.injEq] at e
  obtain ⟨L1, hs, rfl, rfl⟩ := e
  obtain ⟨w', h1, h2, h3⟩ := storeHV_run S hs (S.opd p) (S.opd x)
  exact ⟨_, w', γ, bl, by simp only [execOp, ho]; rw [Sem.run_bind, h1]; rfl, h2, h3, .inr ⟨rfl, rfl⟩⟩
 ·next t len parts ho =>
  obtain ⟨v, w', h1, h2, h3, h4⟩ := buildSliceHV_run S e
  exact ⟨_, w', γ, bl, by simp only [execOp, ho]; rw [Sem.run_bind, h1]; rfl, h2, h3, .inl ⟨v, rfl, h4⟩⟩
 ·next t n m ho =>
  obtain ⟨v, w', γ', bl', h1, h2, h3, h4⟩ := makeSliceHV_run S e (S.opd n) (S.opd m)
  exact ⟨_, w', γ', bl', by simp only [execOp, ho]; rw [Sem.run_bind, h1]; rfl, h2, h3, .inl ⟨v, rfl, h4⟩⟩
 ·next t ho =>
  obtain ⟨v, w', γ', bl', h1, h2, h3, h4⟩ := makeMap_run (P := P) S (t := t) e
  exact ⟨_, w', γ', bl', by simp only [execOp, ho]; rw [Option.map_none, Sem.run_bind, h1]; rfl, h2, h3, .inl ⟨v, rfl, h4⟩⟩
 ·next t m k v ho =>
  simp only [Option.map_eq_some_iff, Prod.mk.injEq] at e
  obtain ⟨L1, hs, rfl, rfl⟩ := e
  obtain ⟨w', h1, h2, h3⟩ := mapUpd_run S hs (S.opd m) (S.opd k) (S.opd v)
  exact ⟨_, w', γ, bl, by simp only [execOp, ho]; rw [Sem.run_bind, h1]; rfl, h2, h3, .inr ⟨rfl, rfl⟩⟩
 ·next t m k ho =>
  obtain ⟨v, w', h1, h2, h3, h4⟩ := mapEnt_run S e (S.opd m) (S.opd k)
  exact ⟨_, w', γ, bl, by simp only [execOp, ho]; rw [Sem.run_bind, h1]; rfl, h2, h3, .inl ⟨v, rfl, h4⟩⟩
 ·next t m s v ho =>
  simp only [Option.map_eq_some_iff, Prod.mk.injEq] at e
  obtain ⟨L1, hs, rfl, rfl⟩ := e
  obtain ⟨w', h1, h2, h3⟩ := entSt_run (P := P) (t := t) S hs (S.opd m) (S.opd s) (S.opd v)
  exact ⟨_, w', γ, bl, by simp only [execOp, ho]; rw [Sem.run_bind, h1]; rfl, h2, h3, .inr ⟨rfl, rfl⟩⟩
 ·next t x ho =>
  obtain ⟨v, w', γ', bl', h1, h2, h3, h4⟩ := range_run (P := P) S e (S.opd x)
  exact ⟨_, w', γ', bl', by simp only [execOp, ho]; rw [Sem.run_bind, h1]; rfl, h2, h3, .inl ⟨v, rfl, h4⟩⟩
 ·next s t x ho =>
  obtain ⟨v, w', γ', bl', h1, h2, h3, h4⟩ := strBytesHV_run S e (S.opd x)
  exact ⟨_, w', γ', bl', by simp only [execOp, ho]; rw [Sem.run_bind, h1]; rfl, h2, h3, .inl ⟨v, rfl, h4⟩⟩
 ·next t x lo hi mx ho =>
  obtain ⟨v, γ', bl', h1, h2, h3⟩ := sliceRefHV_run S e (S.opd x)
  exact ⟨_, w, γ', bl', by simp only [execOp, ho]; rw [Sem.run_bind, h1]; rfl, Kept.refl _ _, h2, .inl ⟨v, rfl, h3⟩⟩
 ·next c ho =>
  split at e
  ·next s x t u hc ha ht =>
   obtain ⟨v, w', γ', bl', h1, h2, h3, h4⟩ := appendHV_run (ty := o.type) S e (S.opd s) (S.opd x)
   have ha' : c.args = #[s, x] := Array.ext' ha
   have ht' : c.argTypes = #[t, u] := Array.ext' ht
   refine ⟨_, w', γ', bl', ?_, h2, h3, .inl ⟨v, rfl, h4⟩⟩
   simp only [execOp, ho, resolve, hc, Sem.run_bind, Sem.run_pure, Result.andThen_ok, invoke, builtin, ha', ht']
   simp [h1]
  ·next x t hc ha ht =>
   simp only [Option.map_eq_some_iff, Prod.mk.injEq] at e
   obtain ⟨L1, hs, rfl, rfl⟩ := e
   obtain ⟨w', h1, h2, h3⟩ := clear_run (ty := o.type) S hs (S.opd x)
   have ha' : c.args = #[x] := Array.ext' ha
   have ht' : c.argTypes = #[t] := Array.ext' ht
   refine ⟨_, w', γ, bl, ?_, h2, h3, .inl ⟨.tuple #[], rfl, .any _⟩⟩
   simp only [execOp, ho, resolve, hc, Sem.run_bind, Sem.run_pure, Result.andThen_ok, invoke, builtin, ha', ht']
   simp [h1]
  ·next m k t u hc ha ht =>
   simp only [Option.map_eq_some_iff, Prod.mk.injEq] at e
   obtain ⟨L1, hs, rfl, rfl⟩ := e
   obtain ⟨w', h1, h2, h3⟩ := mapDel_run (ty := o.type) (u := u) S hs (S.opd m) (S.opd k)
   have ha' : c.args = #[m, k] := Array.ext' ha
   have ht' : c.argTypes = #[t, u] := Array.ext' ht
   refine ⟨_, w', γ, bl, ?_, h2, h3, .inl ⟨.tuple #[], rfl, .any _⟩⟩
   simp only [execOp, ho, resolve, hc, Sem.run_bind, Sem.run_pure, Result.andThen_ok, invoke, builtin, ha', ht']
   simp [h1]
  ·cases e
 ·cases e

noncomputable def evOp (P : Program) (o : Oper) (σ : HS) : Option HS :=
 match evV P σ.log o.op with
 | some h => σ.put o.dst h
 | none => match evE P σ.log o.dst o.op with
  | some (L', h) => HS.put ⟨L', σ.n⟩ o.dst h
  | none => none

theorem evOp_ok {o : Oper} {σ σ' : HS} (e : evOp P o σ = some σ') : OpOK P o σ σ' := by
 unfold evOp at e
 split at e
 ·next h hv => exact ok_value e (fun D F a w γ bl S => evV_run S hv)
 ·split at e
  ·next L' h he =>
   intro D F a w γ bl S next Q hk
   obtain ⟨nx, w', γ', bl', hr, hb, hs, hv⟩ := evE_run S he
   unfold Oper.wp
   rw [hr]
   rcases hv with ⟨v, rfl, hv⟩ | ⟨rfl, rfl⟩
   ·exact hk _ _ _ _ (hs.put? e hv) hb
   ·exact hk _ _ _ _ (hs.put? e (.any _)) hb
  ·cases e
end Go.Hv
