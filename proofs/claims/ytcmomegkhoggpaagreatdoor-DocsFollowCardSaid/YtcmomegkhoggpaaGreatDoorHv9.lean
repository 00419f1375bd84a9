import Derived.Test.YtcmomegkhoggpaaGreatDoorHv8
import Derived.Laws.Tables
set_option linter.unusedVariables false
set_option linter.unusedSectionVars false
set_option linter.unusedSimpArgs false
namespace Go.Hv
open Go Go.RowKit
variable [GI]
variable {P : Program} {D : Nat → Prop} {F : Nat → Prop} {σ : HS} {a : Act} {w : World} {γ : Nat → Value} {bl : Nat → Option Nat}

/-! ### Structs and literals built -/
theorem foldl_set (vs : Array Value) (off : Nat) (C : Array Value) (h : off + vs.size ≤ C.size) :
  (vs.zipIdx.foldl (fun cs (c, j) => cs.setIfInBounds (off + j) c) C).size = C.size ∧
  ∀ k, (vs.zipIdx.foldl (fun cs (c, j) => cs.setIfInBounds (off + j) c) C)[k]? = if off ≤ k ∧ k < off + vs.size then vs[k - off]? else C[k]? := by
 have key : ∀ (l : List Value) (s : Nat) (C : Array Value), off + s + l.length ≤ C.size →
   ((l.zipIdx s).foldl (fun cs (x : Value × Nat) => cs.setIfInBounds (off + x.2) x.1) C).size = C.size ∧
   ∀ k, ((l.zipIdx s).foldl (fun cs (x : Value × Nat) => cs.setIfInBounds (off + x.2) x.1) C)[k]? = if off + s ≤ k ∧ k < off + s + l.length then l[k - (off + s)]? else C[k]? := by
  intro l
  induction l with
  | nil => intro s C h; exact ⟨rfl, fun k => by simp only [List.length_nil]; rw [if_neg (by omega)]; simp⟩
  | cons v l ih =>
   intro s C h
   simp only [List.length_cons] at h
   obtain ⟨h1, h2⟩ := ih (s + 1) (C.setIfInBounds (off + s) v) (by simp; omega)
   simp only [List.zipIdx_cons, List.foldl_cons]
   refine ⟨by rw [h1]; simp, fun k => ?_⟩
   rw [h2]
   simp only [List.length_cons]
   by_cases hk : k = off + s
   ·subst hk
    rw [if_neg (by omega), if_pos (by omega)]
    simp [Array.getElem?_setIfInBounds, show off + s < C.size by omega]
   ·by_cases hk2 : off + (s + 1) ≤ k ∧ k < off + (s + 1) + l.length
    ·rw [if_pos hk2, if_pos (by omega), show k - (off + s) = (k - (off + (s + 1))) + 1 by omega, List.getElem?_cons_succ]
    ·rw [if_neg hk2, if_neg (by omega)]
     simp [Array.getElem?_setIfInBounds, Ne.symm hk]
 have := key vs.toList 0 C (by simpa using h)
 rw [← Array.foldl_toList]
 simp only [Array.toList_zipIdx, Nat.add_zero, Array.length_toList, Array.getElem?_toList] at this ⊢
 exact this

def Cells (w : World) (dead : Nat → Prop) (γ : Nat → Value) (bl : Nat → Option Nat) (cs : List HV) (C : Array Value) : Prop :=
 C.size = cs.length ∧ (∀ (j : Nat) (v : Value), C[j]? = some v → v.oneCell' = true) ∧ ∀ (j : Nat) (c : HV) (v : Value), cs[j]? = some c → C[j]? = some v → SRep w dead γ bl c v

def fillHV (place : Nat → Option (Nat × Nat)) (cells : List HV) : List (Nat × HV) → Option (List HV)
 | [] => some cells
 | (i, h) :: rest => match place i with
  | some (off, size) => match cellsHV h with
   | some xs => if xs.length = size ∧ off + xs.length ≤ cells.length then fillHV place (setSeg cells off xs) rest else none
   | none => none
  | none => none

theorem fillHV_rep {dead : Nat → Prop} (place : Nat → Option (Nat × Nat)) : ∀ (parts : List (Nat × HV)) (vs : List (Nat × Value)) (cs cs' : List HV) (C : Array Value), fillHV place cs parts = some cs' → Cells w dead γ bl cs C →
  vs.map (·.1) = parts.map (·.1) → (∀ (k : Nat) (x : Nat × HV) (y : Nat × Value), parts[k]? = some x → vs[k]? = some y → SRep w dead γ bl x.2 y.2) → ∃ C', Instr.fill place C vs = some C' ∧ Cells w dead γ bl cs' C'
 | [], vs, cs, cs', C, e, hC, hv, _ => by
  simp only [fillHV, Option.some.injEq] at e
  subst e
  obtain rfl : vs = [] := by simpa using hv
  exact ⟨C, rfl, hC⟩
 | (i, h) :: rest, vs, cs, cs', C, e, hC, hv, hr => by
  cases vs with
  | nil => simp at hv
  | cons y vs =>
   obtain ⟨i', v⟩ := y
   simp only [List.map_cons, List.cons.injEq] at hv
   obtain ⟨rfl, hv⟩ := hv
   simp only [fillHV] at e
   split at e
   ·next off size hp =>
    split at e
    ·next xs hx =>
     split at e
     ·next hc =>
      obtain ⟨hs, hfit⟩ := hc
      obtain ⟨k1, k2, k3⟩ := cellsHV_rep (hr 0 (i', h) (i', v) rfl rfl) hx
      obtain ⟨q1, q2⟩ := foldl_set v.cells off C (by rw [k1, hC.1]; exact hfit)
      have hC' : Cells w dead γ bl (setSeg cs off xs) (v.cells.zipIdx.foldl (fun cs (c, j) => cs.setIfInBounds (off + j) c) C) := by
       refine ⟨by rw [q1, hC.1]; simp [setSeg]; omega, fun j u hu => ?_, fun j c u hcj hu => ?_⟩
       ·rw [q2] at hu
        split at hu
        ·exact k2 _ u hu
        ·exact hC.2.1 j u hu
       ·rw [q2, k1] at hu
        rw [setSeg_getElem? cs off xs hfit] at hcj
        split at hu
        ·next hin => rw [if_pos hin] at hcj; exact k3 _ c u hcj hu
        ·next hin => rw [if_neg hin] at hcj; exact hC.2.2 j c u hcj hu
      obtain ⟨C', f1, f2⟩ := fillHV_rep place rest vs _ cs' _ e hC' hv (fun k x y hx hy => hr (k + 1) x y (by simpa using hx) (by simpa using hy))
      refine ⟨C', ?_, f2⟩
      simp only [Instr.fill, hp]
      rw [if_neg]
      ·exact f1
      ·rw [k1]
       simp only [ne_eq, Bool.or_eq_true, decide_eq_true_eq, not_or, Decidable.not_not]
       refine ⟨hs, ?_⟩
       rw [hC.1]; omega
     ·cases e
    ·cases e
   ·cases e

def places (P : Program) (t : TypeId) : Option (List (Nat × Nat)) :=
 match P.underlying t with
 | some (.struct fs) => fs.toList.mapM (fun f => (P.info? f.type).map fun i => (f.offset, i.size))
 | _ => none

theorem build_rep {dead : Nat → Prop} {t : TypeId} {zs cs' : List HV} {ps : List (Nat × Nat)} (hz : zeroHV P t = some zs) (hp : places P t = some ps) {parts : List (Nat × HV)} {vs : Array (Nat × Value)}
  (e : fillHV (ps[·]?) zs parts = some cs') (hv : vs.toList.map (·.1) = parts.map (·.1))
  (hr : ∀ (k : Nat) (x : Nat × HV) (y : Nat × Value), parts[k]? = some x → vs.toList[k]? = some y → SRep w dead γ bl x.2 y.2) :
  ∃ C, (Instr.build t vs).run P w = .ok (.agg C) w ∧ SRep w dead γ bl (.agg cs') (.agg C) := by
 obtain ⟨i, z, hi, hzr, hzs, hz1, hzI⟩ := zeroHV_some hz
 unfold places at hp
 split at hp
 ·next fs hu =>
  obtain ⟨C, h1, h2⟩ := fillHV_rep (ps[·]?) parts vs.toList zs cs' z.cells e ⟨hzs, hz1, fun j c v hc hv => .imm (hzI w dead j c v hc hv)⟩ hv hr
  refine ⟨C, run_build w t vs C ?_, .agg h2.1 h2.2.2⟩
  unfold Program.built
  simp only [hi, hu, hzr, hp]
  simpa using h1
 ·cases hp

theorem fill_seq (sz : Nat) : ∀ (vs : List Value) (k : Nat) (C : Array Value), (∀ v ∈ vs, v.cells.size = sz) → (k + vs.length) * sz ≤ C.size →
  ∃ C', Instr.fill (fun i => some (i * sz, sz)) C ((vs.zipIdx k).map fun x => (x.2, x.1)) = some C' ∧ C'.size = C.size ∧
   (∀ i j v, vs[i]? = some v → j < sz → C'[(k + i) * sz + j]? = v.cells[j]?) ∧ (∀ m, m < k * sz → C'[m]? = C[m]?)
 | [], k, C, _, _ => ⟨C, rfl, rfl, fun i j v h => by simp at h, fun _ _ => rfl⟩
 | v :: vs, k, C, hs, hf => by
  have hv := hs v (by simp)
  have hle : k * sz + sz ≤ C.size := by
   refine Nat.le_trans ?_ hf
   rw [← Nat.succ_mul]
   exact Nat.mul_le_mul_right _ (by simp only [List.length_cons]; omega)
  obtain ⟨q1, q2⟩ := foldl_set v.cells (k * sz) C (by rw [hv]; exact hle)
  obtain ⟨C', h1, h2, h3, h4⟩ := fill_seq sz vs (k + 1) (v.cells.zipIdx.foldl (fun cs (c, j) => cs.setIfInBounds (k * sz + j) c) C) (fun x hx => hs x (by simp [hx])) (by rw [q1]; simpa [Nat.add_comm, Nat.add_left_comm, Nat.add_assoc] using hf)
  refine ⟨C', ?_, by rw [h2, q1], fun i j u hu hj => ?_, fun m hm => ?_⟩
  ·simp only [List.zipIdx_cons, List.map_cons, Instr.fill]
   rw [if_neg]
   ·exact h1
   ·simp only [hv, ne_eq, not_true_eq_false, decide_false, Bool.false_or, decide_eq_true_eq]
    omega
  ·cases i with
   | zero =>
    simp only [List.getElem?_cons_zero, Option.some.injEq] at hu
    subst hu
    rw [Nat.add_zero, h4 _ (by rw [Nat.add_mul]; omega), q2, if_pos (by rw [hv]; omega)]
    congr 1
    omega
   | succ i =>
    have := h3 i j u (by simpa using hu) hj
    rwa [show k + (i + 1) = k + 1 + i by omega]
  ·rw [h4 m (by rw [Nat.add_mul]; omega), q2, if_neg (by omega)]

def partsHV (sz : Nat) : List HV → Option (List (List HV))
 | [] => some []
 | h :: r => match cellsHV h with
  | some xs => if xs.length = sz ∧ isIL xs = true then (partsHV sz r).map (xs :: ·) else none
  | none => none
theorem partsHV_rep {dead : Nat → Prop} {sz : Nat} : ∀ (hs : List HV) (es : List (List HV)) (vs : List Value), partsHV sz hs = some es → vs.length = hs.length →
  (∀ (j : Nat) (h : HV) (v : Value), hs[j]? = some h → vs[j]? = some v → SRep w dead γ bl h v) →
  es.length = hs.length ∧ (∀ x ∈ es, x.length = sz) ∧ (∀ v ∈ vs, v.cells.size = sz ∧ ∀ (j : Nat) (u : Value), v.cells[j]? = some u → u.oneCell' = true) ∧
  ∀ (i j : Nat) (x : List HV) (c : HV) (v u : Value), es[i]? = some x → x[j]? = some c → vs[i]? = some v → v.cells[j]? = some u → IRep w dead c u
 | [], es, vs, e, hl, _ => by
  simp only [partsHV, Option.some.injEq] at e
  subst e
  obtain rfl : vs = [] := List.eq_nil_of_length_eq_zero (by simpa using hl)
  simp
 | h :: r, es, vs, e, hl, hr => by
  cases vs with
  | nil => simp at hl
  | cons v vs =>
   simp only [partsHV] at e
   split at e
   ·next xs hx =>
    split at e
    ·next hc =>
     obtain ⟨hs, hI⟩ := hc
     simp only [Option.map_eq_some_iff] at e
     obtain ⟨es', he, rfl⟩ := e
     obtain ⟨k1, k2, k3⟩ := cellsHV_rep (hr 0 h v rfl rfl) hx
     obtain ⟨g1, g2, g3, g4⟩ := partsHV_rep r es' vs he (by simpa using hl) (fun j h v hh hv => hr (j + 1) h v (by simpa using hh) (by simpa using hv))
     refine ⟨by simp [g1], fun x hx => ?_, fun u hu => ?_, fun i j x c u y hx hcx hu hy => ?_⟩
     ·rcases List.mem_cons.1 hx with rfl | h
      ·exact hs
      ·exact g2 x h
     ·rcases List.mem_cons.1 hu with rfl | h
      ·exact ⟨by rw [k1, hs], k2⟩
      ·exact g3 u h
     ·cases i with
      | zero =>
       simp only [List.getElem?_cons_zero, Option.some.injEq] at hx hu
       subst hx; subst hu
       exact (k3 j c y hcx hy).toI ((isIL_iff _).1 hI c (List.mem_of_getElem? hcx))
      | succ i => exact g4 i j x c u y (by simpa using hx) hcx (by simpa using hu) hy
    ·cases e
   ·cases e

theorem buildSlice_rep (S : Sim D F σ a w γ bl) {t e sz by_ : Nat} (hT : slInfo P t = some (e, sz, by_)) {zs : List HV} (hz : zeroHV P e = some zs) (hzl : zs.length = sz) {hs : List HV} {es : List (List HV)} {vs : List Value}
  (hlim : hs.length * sz ≤ 16777216) (hp : partsHV sz hs = some es) (hl : vs.length = hs.length) (hr : ∀ (j : Nat) (h : HV) (v : Value), hs[j]? = some h → vs[j]? = some v → SRep w (dd D σ.log bl) γ bl h v) :
  ∃ v C, (Instr.buildSlice t hs.length ((vs.zipIdx).map fun x => (x.2, x.1)).toArray).run P w = .ok v (w.alloc (.cells C e)) ∧ IRep (w.alloc (.cells C e)) (dd D σ.log bl) (.sl sz true es) v := by
 obtain ⟨i, ht, hi, rfl, rfl, hsz⟩ := slInfo_some hT
 obtain ⟨i', z, hi', hzr, hzs, hz1, hzI⟩ := zeroHV_some hz
 obtain rfl : i' = i := by rw [hi] at hi'; exact (Option.some.inj hi').symm
 obtain ⟨g1, g2, g3, g4⟩ := partsHV_rep hs es vs hp hl hr
 generalize hZ : (if hs.length * i'.size = 0 then #[] else z.cells : Array Value) = Z
 obtain ⟨C, h1, h2, h3, h4⟩ := fill_seq i'.size vs 0 ((Array.range (hs.length * i'.size)).map (Z[· % Z.size]!)) (fun v hv => (g3 v hv).1) (by simp [hl])
 refine ⟨.slice (some ⟨w.heap.size, 0, none⟩) hs.length hs.length, C, ?_, ?_⟩
 ·unfold Instr.buildSlice
  rw [Sem.run_bind, run_underlying ht, Result.andThen_ok]
  simp only [Sem.run_bind, run_sizeOf_some hi, Result.andThen_ok]
  rw [if_neg (by omega)]
  by_cases h0 : hs.length * i'.size = 0
  ·rw [if_pos h0] at hZ ⊢
   subst hZ
   simp only [Sem.run_bind, Sem.run_pure, Result.andThen_ok, h1]
   rfl
  ·rw [if_neg h0] at hZ ⊢
   subst hZ
   have hzv : (zeroValue e).run P w = .ok z w := by simp [zeroValue, typeInfo, hi, hzr]
   simp only [Sem.run_bind, Sem.run_pure, hzv, Result.andThen_ok, h1]
   rfl
 ·have hcs : C.size = es.length * i'.size := by rw [h2]; simp [g1]
  by_cases he : es = []
  ·subst he
   have : hs.length = 0 := by simpa using g1.symm
   rw [this]
   exact .nil (fun _ => rfl) (fun _ => rfl)
  ·rw [← g1]
   have hcell : ∀ i j, i < es.length → j < i'.size → ∃ v u, vs[i]? = some v ∧ v.cells[j]? = some u ∧ C[i * i'.size + j]? = some u := by
    intro i j hi hj
    have hv : vs[i]? = some (vs[i]'(by omega)) := List.getElem?_eq_getElem (by omega)
    have hsz' := (g3 _ (List.mem_of_getElem? hv)).1
    have hu : (vs[i]'(by omega)).cells[j]? = some ((vs[i]'(by omega)).cells[j]'(by omega)) := Array.getElem?_eq_getElem (by omega)
    exact ⟨_, _, hv, hu, by have := h3 i j _ hv hj; rw [Nat.zero_add] at this; rw [this]; exact hu⟩
   refine .sl (fun i j => C.getD (i * i'.size + j) undef) g2 (Nat.le_refl _) (fun _ => rfl) (not_dd_new S (Nat.le_refl _)) (by simp) (fun i j hi hj => ?_) (fun i j hi hj => ?_) (fun i j x c hx hc => ?_)
   ·obtain ⟨v, u, hv, hu, hC⟩ := hcell i j hi hj
    rw [World.cell?_alloc_new]
    simp [hC, Array.getD_eq_getD_getElem?]
   ·obtain ⟨v, u, hv, hu, hC⟩ := hcell i j hi hj
    show (C.getD (i * i'.size + j) undef).oneCell' = true
    simp only [Array.getD_eq_getD_getElem?, hC, Option.getD_some]
    exact (g3 v (List.mem_of_getElem? hv)).2 j u hu
   ·have hi := getElem?_lt hx
    have hj : j < i'.size := by have := getElem?_lt hc; have := g2 x (List.mem_of_getElem? hx); omega
    obtain ⟨v, u, hv, hu, hC⟩ := hcell i j hi hj
    show IRep _ _ c (C.getD (i * i'.size + j) undef)
    simp only [Array.getD_eq_getD_getElem?, hC, Option.getD_some]
    exact (g4 i j x c v u hx hc hv hu).mono (by simp) (fun b hb _ => Below.heap_alloc _ _ _ hb) (fun _ _ h => h)
end Go.Hv
