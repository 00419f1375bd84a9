import Derived.Test.YtcmomegkhoggpaaGreatDoorHv5
import Derived.Laws.IdiomStrings
import Derived.Laws.BytesString
import Derived.Laws.MakeOwn
set_option linter.unusedVariables false
set_option linter.unusedSectionVars false
set_option linter.unusedSimpArgs false
namespace Go.Hv
open Go Go.RowKit
variable [GI]
variable {P : Program} {D : Nat → Prop} {F : Nat → Prop} {σ : HS} {a : Act} {w : World} {γ : Nat → Value} {bl : Nat → Option Nat}

theorem heap_setCells (b : Nat) (e : TypeId) (fr : Nat × Nat) : ∀ (vs : List Value) (o : Nat) (w : World) (C : Array Value), w.heap[b]? = some (.cells C e fr) →
  ∃ C', (w.setCells b o vs).heap[b]? = some (.cells C' e fr) ∧ C'.size = C.size ∧ ∀ j, C'[j]? = if o ≤ j ∧ j < o + vs.length ∧ j < C.size then vs[j - o]? else C[j]?
 | [], o, w, C, h => ⟨C, h, rfl, fun j => by rw [if_neg]; simp; omega⟩
 | v :: r, o, w, C, h => by
  have h' : (w.setCell ⟨b, o, none⟩ v).heap[b]? = some (.cells (C.setIfInBounds o v) e fr) := by
   simp [World.setCell, Array.getElem?_modify, h]
  obtain ⟨C', h1, h2, h3⟩ := heap_setCells b e fr r (o + 1) _ _ h'
  refine ⟨C', h1, by simpa using h2, fun j => ?_⟩
  rw [h3 j]
  simp only [Array.size_setIfInBounds, List.length_cons]
  by_cases hj : j = o
  ·subst hj
   rw [if_neg (by omega)]
   by_cases hs : j < C.size
   ·rw [if_pos (by omega)]; simp [Array.getElem?_setIfInBounds, hs]
   ·rw [if_neg (by omega)]; simp [Array.getElem?_setIfInBounds, hs]
  ·by_cases hc : o + 1 ≤ j ∧ j < o + 1 + r.length ∧ j < C.size
   ·rw [if_pos hc, if_pos (by omega)]
    rw [show j - o = (j - (o + 1)) + 1 by omega, List.getElem?_cons_succ]
   ·rw [if_neg hc, if_neg (by omega)]
    simp [Array.getElem?_setIfInBounds, Ne.symm hj]
theorem heap_setCells_other (b : Nat) : ∀ (vs : List Value) (o : Nat) (w : World) (k : Nat), k ≠ b → (w.setCells b o vs).heap[k]? = w.heap[k]?
 | [], _, _, _, _ => rfl
 | v :: r, o, w, k, h => by rw [World.setCells, heap_setCells_other b r (o + 1) _ k h]; exact Below.heap_setCell _ _ _ _ h
theorem size_setCells (b : Nat) : ∀ (vs : List Value) (o : Nat) (w : World), (w.setCells b o vs).heap.size = w.heap.size
 | [], _, _ => rfl
 | v :: r, o, w => by rw [World.setCells, size_setCells b r (o + 1)]; simp
theorem Kept.setCell {F : Nat → Prop} {w0 w : World} {b o : Nat} (hb : ¬ F b) (h : Kept F w0 w) (v : Value) : Kept F w0 (w.setCell ⟨b, o, none⟩ v) := by
 have hh : ∀ k, F k → k ≠ b := fun k hk e => hb (e ▸ hk)
 have h2 := (Below.refl 0 w).setCell (p := ⟨b, o, none⟩) (Nat.zero_le _) v
 exact ⟨h2.os.trans h.os, h2.tape.trans h.tape, h2.output.trans h.output, Nat.le_trans h.size h2.size, fun k hk => by rw [Below.heap_setCell w ⟨b, o, none⟩ v k (hh k hk)]; exact h.block k hk⟩
theorem Kept.setCells {F : Nat → Prop} {w0 : World} {b : Nat} (hb : ¬ F b) : ∀ (vs : List Value) (o : Nat) {w : World}, Kept F w0 w → Kept F w0 (w.setCells b o vs)
 | [], _, _, h => h
 | v :: r, o, w, h => by rw [World.setCells]; exact Kept.setCells hb r (o + 1) (h.setCell hb v)

def upd {α : Type} (f : Nat → α) (id : Nat) (v : α) : Nat → α := fun i => if i = id then v else f i
theorem upd_same {α : Type} (f : Nat → α) (id : Nat) (v : α) : upd f id v id = v := by simp [upd]
theorem upd_other {α : Type} (f : Nat → α) (id : Nat) (v : α) : ∀ i, i ≠ id → upd f id v i = f i := fun i h => by simp [upd, h]

theorem Sim.lay (S : Sim D F σ a w γ bl) {w' : World} {id : Nat} {o' : HObj} {hdl : Value} {ob : Option Nat} (hs : w.heap.size ≤ w'.heap.size)
  (hw : ∀ b, b < w.heap.size → ¬ (getO σ.log id ≠ .gone ∧ bl id = some b) → w'.heap[b]? = w.heap[b]?)
  (hb : ∀ b, ob = some b → (w.heap.size ≤ b ∧ b < w'.heap.size) ∨ (getO σ.log id ≠ .gone ∧ bl id = some b))
  (hnew : (∀ (h : HV) (v : Value), SRep w (dd D σ.log bl) γ bl h v → SRep w' (dd D (.o id o' :: .sub id .any .any :: σ.log) (upd bl id ob)) (upd γ id hdl) (upd bl id ob) (HV.sub id .any .any h) v) →
   (∀ (h : HV) (v : Value), IRep w (dd D σ.log bl) h v → IRep w' (dd D (.o id o' :: .sub id .any .any :: σ.log) (upd bl id ob)) h v) → ORel w' (dd D (.o id o' :: .sub id .any .any :: σ.log) (upd bl id ob)) (upd γ id hdl) (upd bl id ob) id o') :
  Sim D F ⟨.o id o' :: .sub id .any .any :: σ.log, σ.n⟩ a w' (upd γ id hdl) (upd bl id ob) :=
 S.new hs hw (upd_other γ id hdl) (upd_other bl id ob) (fun _ b h => hb b (by rw [upd_same] at h; exact h)) (.any _) (fun _ _ => .any _) hnew

theorem not_dd_new (S : Sim D F σ a w γ bl) {b : Nat} (hb : w.heap.size ≤ b) : ¬ dd D σ.log bl b := by
 rintro (h | ⟨i, hi, hbl⟩)
 ·have := S.hbw b (S.hD b h); omega
 ·have := (S.hblk i b hi hbl).2; omega

theorem Sim.layBox (S : Sim D F σ a w γ bl) (id : Nat) (e : TypeId) (C : Array Value) (cs : List HV) (hl : C.size = cs.length) (h1 : ∀ (j : Nat) (v : Value), C[j]? = some v → v.oneCell' = true)
  (h : ∀ (j : Nat) (c : HV) (v : Value), cs[j]? = some c → C[j]? = some v → SRep w (dd D σ.log bl) γ bl c v) :
  Sim D F ⟨.o id (.box (subL id .any .any cs)) :: .sub id .any .any :: σ.log, σ.n⟩ a (w.alloc (.cells C e)) (upd γ id (.pointer (some ⟨w.heap.size, 0, none⟩))) (upd bl id (some w.heap.size)) := by
 refine S.lay (by simp) (fun b hb _ => Below.heap_alloc _ _ _ hb) (fun b hb => .inl (by cases hb; simp)) (fun hS hI => ?_)
 refine ⟨w.heap.size, C, e, upd_same .., heap_alloc_new w _, by rw [subL_length]; exact hl, h1, fun j c v hc hv => ?_⟩
 rw [subL_getElem?] at hc
 cases hj : cs[j]? with
 | none => simp [hj] at hc
 | some c0 => simp only [hj, Option.map_some, Option.some.injEq] at hc; subst hc; exact hS _ _ (h j c0 v hj hv)

theorem run_box {t : TypeId} {v : Value} : (Instr.box t v).run P w = .ok (.pointer (some ⟨w.heap.size, 0, none⟩)) (w.alloc (.cells v.cells t)) := rfl
theorem run_alloc_zero {t : TypeId} {i : TypeInfo} {z : Value} (hi : P.info? t = some i) (hz : i.zero = some z) : (Instr.alloc t true (.tuple #[])).run P w = .ok (.pointer (some ⟨w.heap.size, 0, none⟩)) (w.alloc (.cells z.cells t)) := by
 have : (zeroValue t).run P w = .ok z w := by simp [zeroValue, typeInfo, hi, hz]
 unfold Instr.alloc
 rw [Sem.run_bind, this]
 rfl

def zeroHV (P : Program) (t : TypeId) : Option (List HV) :=
 match P.info? t with
 | some i => match i.zero with
  | some z => if z.cells.toList.all Value.oneCell' then some (z.cells.toList.map ofConst) else none
  | none => none
 | none => none
theorem zeroHV_some {t : TypeId} {cs : List HV} (h : zeroHV P t = some cs) : ∃ i z, P.info? t = some i ∧ i.zero = some z ∧ z.cells.size = cs.length ∧ (∀ (j : Nat) (v : Value), z.cells[j]? = some v → v.oneCell' = true) ∧
  ∀ (w : World) (dead : Nat → Prop) (j : Nat) (c : HV) (v : Value), cs[j]? = some c → z.cells[j]? = some v → IRep w dead c v := by
 unfold zeroHV at h
 split at h
 ·next i hi =>
  split at h
  ·next z hz =>
   simp only [Option.ite_none_right_eq_some, Option.some.injEq] at h
   obtain ⟨hall, rfl⟩ := h
   refine ⟨i, z, hi, hz, by simp, fun j v hv => List.all_eq_true.1 hall v (by rw [← Array.getElem?_toList] at hv; exact List.mem_of_getElem? hv), fun w dead j c v hc hv => ?_⟩
   rw [List.getElem?_map, Array.getElem?_toList, hv] at hc
   simp only [Option.map_some, Option.some.injEq] at hc
   subst hc
   exact ofConst_rep w dead v
  ·cases h
 ·cases h

/-! ### Stores -/
def setSeg (cs : List HV) (off : Nat) (xs : List HV) : List HV := cs.take off ++ xs ++ cs.drop (off + xs.length)

def storeAt (L : List Ev) (p : HV) (xs : List HV) : Option (List Ev) :=
 match p with
 | .ptr id off => match getO L id with
  | .box cs => if off + xs.length ≤ cs.length then some (.o id (.box (setSeg cs off xs)) :: L) else none
  | .row e sz es => if xs.length = sz ∧ off % sz = 0 ∧ off / sz < es.length then some (.o id (.row e sz (es.set (off / sz) xs)) :: L) else
    if off % sz + xs.length ≤ sz ∧ off / sz < es.length then some (.o id (.row e sz (es.set (off / sz) (setSeg (es.getD (off / sz) []) (off % sz) xs))) :: L) else none
  | _ => none
 | _ => none

theorem setSeg_getElem? (cs : List HV) (off : Nat) (xs : List HV) (h : off + xs.length ≤ cs.length) (j : Nat) : (setSeg cs off xs)[j]? = if off ≤ j ∧ j < off + xs.length then xs[j - off]? else cs[j]? := by
 unfold setSeg
 by_cases h1 : j < off
 ·rw [if_neg (by omega), List.append_assoc, List.getElem?_append_left (by simp; omega), List.getElem?_take_of_lt h1]
 ·rw [List.append_assoc, List.getElem?_append_right (by simp; omega)]
  simp only [List.length_take]
  rw [show min off cs.length = off by omega]
  by_cases h2 : j < off + xs.length
  ·rw [if_pos (by omega), List.getElem?_append_left (by omega)]
  ·rw [if_neg (by omega), List.getElem?_append_right (by omega), List.getElem?_drop]
   congr 1
   omega

theorem storeAt_rep (S : Sim D F σ a w γ bl) {p : HV} {xs : List HV} {L' : List Ev} (e : storeAt σ.log p xs = some L') {pv : Value} (r : SRep w (dd D σ.log bl) γ bl p pv) {vs : List Value} (hl : vs.length = xs.length)
  (h1 : ∀ v ∈ vs, v.oneCell' = true) (h : ∀ (j : Nat) (c : HV) (v : Value), xs[j]? = some c → vs[j]? = some v → SRep w (dd D σ.log bl) γ bl c v) :
  ∃ b off, pv = .pointer (some ⟨b, off, none⟩) ∧ (storeCells ⟨b, off, none⟩ vs).run P w = .ok () (w.setCells b off vs) ∧ Kept F w (w.setCells b off vs) ∧ Sim D F ⟨L', σ.n⟩ a (w.setCells b off vs) γ bl := by
 cases p with
 | ptr id off =>
  simp only [storeAt] at e
  cases r with
  | imm hi => cases hi
  | @ptr _ _ b hb =>
   have R := S.hobj id
   cases ho : getO σ.log id with
   | box cs =>
    have hlive : getO σ.log id ≠ .gone := by rw [ho]; simp
    simp only [ho, Option.ite_none_right_eq_some, Option.some.injEq] at e
    obtain ⟨hn, rfl⟩ := e
    rw [ho] at R
    obtain ⟨b', C, e', g1, g2, g3, g4, g5⟩ := R
    obtain rfl : b' = b := by rw [g1] at hb; exact Option.some.inj hb
    have hbase := (S.hblk id b' hlive g1).1
    have hst := run_storeCells_cells (P := P) b' off vs 0 w (fun j hj => by
      have : off + j < C.size := by omega
      simp [World.cell?, g2, this]) (fun j hj => by simp [World.frozen?, g2]) h1
    refine ⟨b', off, rfl, by simpa using hst, Kept.setCells hbase vs off (Kept.refl _ _), ?_⟩
    refine S.set hlive (by simp) (by rw [size_setCells]; exact Nat.le_refl _) (fun k hk hne => heap_setCells_other b' vs off w k (fun x => hne (by rw [x]; exact g1))) (fun hS hI => ?_)
    obtain ⟨C', q1, q2, q3⟩ := heap_setCells b' e' (0, 0) vs off w C g2
    refine ⟨b', C', e', g1, q1, by rw [q2, g3]; simp [setSeg]; omega, fun j v hv => ?_, fun j c v hc hv => ?_⟩
    ·rw [q3] at hv
     split at hv
     ·exact h1 v (List.mem_of_getElem? hv)
     ·exact g4 j v hv
    ·rw [q3] at hv
     rw [setSeg_getElem? cs off xs hn] at hc
     by_cases hin : off ≤ j ∧ j < off + xs.length
     ·rw [if_pos hin] at hc
      rw [if_pos (by omega)] at hv
      exact hS _ _ (h _ c v hc hv)
     ·rw [if_neg hin] at hc
      rw [if_neg (by omega)] at hv
      exact hS _ _ (g5 j c v hc hv)
   | row e0 sz es =>
    have hlive : getO σ.log id ≠ .gone := by rw [ho]; simp
    rw [ho] at R
    obtain ⟨hz, hl0, R⟩ := R
    have hseg : off % sz + xs.length ≤ sz ∧ off / sz < es.length ∧ L' = .o id (.row e0 sz (es.set (off / sz) (setSeg (es.getD (off / sz) []) (off % sz) xs))) :: σ.log := by
     simp only [ho] at e
     split at e
     ·next hc =>
      obtain ⟨hsz, hm, hlt⟩ := hc
      refine ⟨by omega, hlt, ?_⟩
      have hx : es.getD (off / sz) [] = es[off / sz] := by simp [hlt]
      have hxl : (es[off / sz]).length = sz := hl0 _ (List.getElem_mem hlt)
      have : setSeg (es[off / sz]) 0 xs = xs := by
       unfold setSeg
       rw [List.drop_of_length_le (by omega)]; simp
      rw [hx, hm, this]
      exact (Option.some.inj e).symm
     ·simp only [Option.ite_none_right_eq_some, Option.some.injEq] at e
      exact ⟨e.1.1, e.1.2, e.2.symm⟩
    obtain ⟨hfit0, hlt, rfl⟩ := hseg
    rcases R with ⟨rfl, _⟩ | ⟨b', cap, C, fr, g1, g2, g3, g4, g5, g6, g7, g8, g9⟩
    ·simp at hlt
    ·obtain rfl : b' = b := by rw [g2] at hb; exact Option.some.inj hb
     have hbase := (S.hblk id b' hlive g2).1
     have hx0 : es.getD (off / sz) [] = es[off / sz] := by simp [hlt]
     have hxl0 : (es[off / sz]).length = sz := hl0 _ (List.getElem_mem hlt)
     rw [hx0]
     have hsl : (setSeg (es[off / sz]) (off % sz) xs).length = sz := by
      unfold setSeg; simp; omega
     have hdm : off / sz * sz + off % sz = off := by rw [Nat.mul_comm]; exact Nat.div_add_mod off sz
     have hfit : off + vs.length ≤ C.size := by
      rw [g7]
      have : (off / sz + 1) * sz ≤ cap * sz := Nat.mul_le_mul_right _ (by omega)
      rw [Nat.add_mul, Nat.one_mul] at this
      omega
     have hst := run_storeCells_cells (P := P) b' off vs 0 w (fun j hj => by
       have : off + j < C.size := by omega
       simp [World.cell?, g3, this]) (fun j hj => by
       have := g4 (off + 0 + j) (by omega)
       simp only [World.frozen?, g3]
       simpa using this) h1
     refine ⟨b', off, rfl, by simpa using hst, Kept.setCells hbase vs off (Kept.refl _ _), ?_⟩
     refine S.set hlive (by simp) (by rw [size_setCells]; exact Nat.le_refl _) (fun k hk hne => heap_setCells_other b' vs off w k (fun x => hne (by rw [x]; exact g2))) (fun hS hIr => ?_)
     obtain ⟨C', q1, q2, q3⟩ := heap_setCells b' e0 fr vs off w C g3
     refine ⟨hz, fun x hx => ?_, .inr ⟨b', cap, C', fr, by simpa using g1, g2, q1, by rw [q2]; exact g4, by simpa using g5, g6, by rw [q2]; exact g7, fun j v hv => ?_, fun i j x c hx hc => ?_⟩⟩
     ·rcases List.mem_or_eq_of_mem_set hx with h' | rfl
      ·exact hl0 x h'
      ·exact hsl
     ·rw [q3] at hv
      split at hv
      ·exact h1 v (List.mem_of_getElem? hv)
      ·exact g8 j v hv
     ·rw [List.getElem?_set] at hx
      have hjx : j < sz := by
       have hxl : x.length = sz := by
        split at hx
        ·cases hx; exact hsl
        ·exact hl0 x (List.mem_of_getElem? hx)
       rcases Nat.lt_or_ge j x.length with h' | h'
       ·omega
       ·simp [List.getElem?_eq_none h'] at hc
      split at hx
      ·next hi =>
       cases hx
       rw [setSeg_getElem? _ _ _ (by omega)] at hc
       by_cases hin : off % sz ≤ j ∧ j < off % sz + xs.length
       ·rw [if_pos hin] at hc
        have hvj : vs[j - off % sz]? = some (vs[j - off % sz]'(by omega)) := List.getElem?_eq_getElem (by omega)
        refine ⟨vs[j - off % sz]'(by omega), ?_, hS _ _ (h (j - off % sz) c _ hc hvj)⟩
        rw [q3, if_pos (by rw [← hi]; omega), ← hi, show off / sz * sz + j - off = j - off % sz by omega]
        exact hvj
       ·rw [if_neg hin] at hc
        obtain ⟨v, hv, hr⟩ := g9 (off / sz) j _ c (List.getElem?_eq_getElem hlt) hc
        refine ⟨v, ?_, hS _ _ hr⟩
        rw [q3, if_neg (by rw [← hi]; omega), ← hi]
        exact hv
      ·next hi =>
       obtain ⟨v, hv, hr⟩ := g9 i j x c hx hc
       refine ⟨v, ?_, hS _ _ hr⟩
       rw [q3, if_neg]
       ·exact hv
       ·rintro ⟨k1, k2, _⟩
        apply hi
        have k3 : (off / sz) * sz ≤ i * sz + j := by omega
        have k4 : i * sz + j < (off / sz) * sz + sz := by omega
        rcases Nat.lt_trichotomy i (off / sz) with h' | h' | h'
        ·have := Nat.mul_le_mul_right sz (show i + 1 ≤ off / sz from h')
         rw [Nat.add_mul, Nat.one_mul] at this
         omega
        ·exact h'.symm
        ·have := Nat.mul_le_mul_right sz (show off / sz + 1 ≤ i from h')
         rw [Nat.add_mul, Nat.one_mul] at this
         omega
   | gone => simp [ho] at e
   | map es => simp [ho] at e
   | iter es left last => simp [ho] at e
   | prow V0 ob0 t0 z0 es0 => simp [ho] at e
   | mapb es0 bs0 ck0 => simp [ho] at e
 | _ => simp [storeAt] at e

end Go.Hv
