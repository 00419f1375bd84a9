import Derived.Test.YtcmomegkhoggpaaGreatDoorHv1
set_option linter.unusedVariables false
set_option linter.unusedSectionVars false
set_option linter.unusedSimpArgs false
namespace Go.Hv
open Go Go.RowKit
variable [GI]

theorem lt_of_get {w : World} {b : Nat} {o : Obj} (h : w.heap[b]? = some o) : b < w.heap.size := by
 rcases Nat.lt_or_ge b w.heap.size with h' | h'
 ·exact h'
 ·simp [Array.getElem?_eq_none h'] at h

theorem ORel.tr {w w' : World} {dead dead' : Nat → Prop} {γ γ' : Nat → Value} {bl bl' : Nat → Option Nat} {i k0 : Nat} {o o' : HObj}
  (hs : w.heap.size ≤ w'.heap.size) (hw : ∀ b, b < w.heap.size → ¬ dead b → w'.heap[b]? = w.heap[b]?) (hd : ∀ b, b < w.heap.size → dead' b → dead b)
  (hγ : γ' k0 = γ i) (hbl : bl' k0 = bl i) (hb : ∀ b, bl i = some b → b < w.heap.size → w'.heap[b]? = w.heap[b]?)
  (f : HV → HV) (hf : ∀ (h : HV) (v : Value), SRep w dead γ bl h v → SRep w' dead' γ' bl' (f h) v)
  (ho : o' = match o with | .box cs => .box (cs.map f) | .row e sz es => .row e sz (es.map (List.map f)) | .map es => .map (es.map fun p => (p.1, f p.2)) | .iter es left last => .iter es left last | .mapb es bs ck => .mapb (es.map fun p => (p.1, f p.2)) bs ck | .prow V ob e sz es => .prow V ob e sz (es.map (List.map f)) | .gone => .gone)
  (r : ORel w dead γ bl i o) : ORel w' dead' γ' bl' k0 o' := by
 subst ho
 cases o with
 | gone => trivial
 | box cs =>
  obtain ⟨b, C, e, h1, h2, h3, h4, h5⟩ := r
  refine ⟨b, C, e, hbl.trans h1, (hb b h1 (lt_of_get h2)).trans h2, by simpa using h3, h4, fun j c v hc hv => ?_⟩
  rw [List.getElem?_map] at hc
  cases hj : cs[j]? with
  | none => simp [hj] at hc
  | some c0 => simp only [hj, Option.map_some, Option.some.injEq] at hc; subst hc; exact hf _ _ (h5 j c0 v hj hv)
 | row e sz es =>
  obtain ⟨h0, h00, h⟩ := r
  refine ⟨h0, fun x hx => ?_, ?_⟩
  ·obtain ⟨y, hy, rfl⟩ := List.mem_map.1 hx
   rw [List.length_map]; exact h00 y hy
  rcases h with ⟨h1, h2, h3⟩ | ⟨b, cap, C, fr, h1, h2, h3, h4, h5, h6, h7, h8, h9⟩
  ·exact .inl ⟨by rw [h1]; rfl, by rw [hγ]; exact h2, hbl.trans h3⟩
  ·refine .inr ⟨b, cap, C, fr, hγ.trans (by rw [h1, List.length_map]), hbl.trans h2, (hb b h2 (lt_of_get h3)).trans h3, h4, by rw [List.length_map]; exact h5, h6, h7, h8, fun i j x c hx hc => ?_⟩
   rw [List.getElem?_map] at hx
   cases hxi : es[i]? with
   | none => simp [hxi] at hx
   | some x0 =>
    simp only [hxi, Option.map_some, Option.some.injEq] at hx
    subst hx
    rw [List.getElem?_map] at hc
    cases hcj : x0[j]? with
    | none => simp [hcj] at hc
    | some c0 =>
     simp only [hcj, Option.map_some, Option.some.injEq] at hc
     subst hc
     obtain ⟨v, hv, hr⟩ := h9 i j x0 c0 hxi hcj
     exact ⟨v, hv, hf _ _ hr⟩
 | map es =>
  obtain ⟨b, ents, clock, h1, h2, h3, h4, h5, h6⟩ := r
  refine ⟨b, ents, clock, hbl.trans h1, (hb b h1 (lt_of_get h2)).trans h2, by rw [List.length_map]; exact h3, h4, h5, fun i k x e hx he => ?_⟩
  rw [List.getElem?_map] at hx
  cases hxi : es[i]? with
  | none => simp [hxi] at hx
  | some p =>
   obtain ⟨k0, x0⟩ := p
   simp only [hxi, Option.map_some, Option.some.injEq, Prod.mk.injEq] at hx
   obtain ⟨rfl, rfl⟩ := hx
   exact ⟨(h6 i k0 x0 e hxi he).1.mono hs hw hd, hf _ _ (h6 i k0 x0 e hxi he).2⟩
 | prow V ob e sz es =>
  obtain ⟨⟨hV, hob⟩, h0, h00, h⟩ := r
  refine ⟨⟨hγ.trans hV, hbl.trans hob⟩, h0, fun x hx => ?_, ?_⟩
  ·obtain ⟨y, hy, rfl⟩ := List.mem_map.1 hx
   rw [List.length_map]; exact h00 y hy
  rcases h with ⟨h1, h2, h3⟩ | ⟨b, cap, C, fr, h1, h2, h3, h4, h5, h6, h7, h8, h9⟩
  ·exact .inl ⟨by rw [h1]; rfl, by rw [hγ]; exact h2, hbl.trans h3⟩
  ·refine .inr ⟨b, cap, C, fr, hγ.trans (by rw [h1, List.length_map]), hbl.trans h2, (hb b h2 (lt_of_get h3)).trans h3, h4, by rw [List.length_map]; exact h5, h6, h7, h8, fun i j x c hx hc => ?_⟩
   rw [List.getElem?_map] at hx
   cases hxi : es[i]? with
   | none => simp [hxi] at hx
   | some x0 =>
    simp only [hxi, Option.map_some, Option.some.injEq] at hx
    subst hx
    rw [List.getElem?_map] at hc
    cases hcj : x0[j]? with
    | none => simp [hcj] at hc
    | some c0 =>
     simp only [hcj, Option.map_some, Option.some.injEq] at hc
     subst hc
     obtain ⟨v, hv, hr⟩ := h9 i j x0 c0 hxi hcj
     exact ⟨v, hv, hf _ _ hr⟩
 | mapb es bs ck =>
  obtain ⟨b, ents, h1, h2, h3, h4, h5, h6, h7⟩ := r
  refine ⟨b, ents, hbl.trans h1, (hb b h1 (lt_of_get h2)).trans h2, by rw [List.length_map]; exact h3, h4, h5, h6, fun i k x e hx he => ?_⟩
  rw [List.getElem?_map] at hx
  cases hxi : es[i]? with
  | none => simp [hxi] at hx
  | some p =>
   obtain ⟨k0, x0⟩ := p
   simp only [hxi, Option.map_some, Option.some.injEq, Prod.mk.injEq] at hx
   obtain ⟨rfl, rfl⟩ := hx
   exact ⟨(h7 i k0 x0 e hxi he).1.mono hs hw hd, hf _ _ (h7 i k0 x0 e hxi he).2⟩
 | iter es left last =>
  obtain ⟨b, mv, seen, bs, ck, h1, h2, h3, h4, h5⟩ := r
  exact ⟨b, mv, seen, bs, ck, hbl.trans h1, (hb b h1 (lt_of_get h2)).trans h2, h3.mono hs hw hd, h4, h5⟩
theorem ORel.other {w w' : World} {dead dead' : Nat → Prop} {γ γ' : Nat → Value} {bl bl' : Nat → Option Nat} {i : Nat} {o o' : HObj}
  (hs : w.heap.size ≤ w'.heap.size) (hw : ∀ b, b < w.heap.size → ¬ dead b → w'.heap[b]? = w.heap[b]?) (hd : ∀ b, b < w.heap.size → dead' b → dead b)
  (hγ : γ' i = γ i) (hbl : bl' i = bl i) (hb : ∀ b, bl i = some b → b < w.heap.size → w'.heap[b]? = w.heap[b]?)
  (f : HV → HV) (hf : ∀ (h : HV) (v : Value), SRep w dead γ bl h v → SRep w' dead' γ' bl' (f h) v)
  (ho : o' = match o with | .box cs => .box (cs.map f) | .row e sz es => .row e sz (es.map (List.map f)) | .map es => .map (es.map fun p => (p.1, f p.2)) | .iter es left last => .iter es left last | .mapb es bs ck => .mapb (es.map fun p => (p.1, f p.2)) bs ck | .prow V ob e sz es => .prow V ob e sz (es.map (List.map f)) | .gone => .gone)
  (r : ORel w dead γ bl i o) : ORel w' dead' γ' bl' i o' :=
 ORel.tr (k0 := i) hs hw hd hγ hbl hb f hf ho r

theorem subL_map (id : Nat) (xr xm : HV) (cs : List HV) : subL id xr xm cs = cs.map (HV.sub id xr xm) := by
 induction cs with
 | nil => rfl
 | cons c cs ih => simp [subL, ih]

theorem subLL_map (id : Nat) (xr xm : HV) (es : List (List HV)) : subLL id xr xm es = es.map (List.map (HV.sub id xr xm)) := by
 unfold subLL; congr 1; funext x; exact subL_map id xr xm x
theorem map_id_fun {α : Type} (es : List (List α)) : es.map (List.map fun h => h) = es := by
 have : (List.map fun (h : α) => h) = id := by funext x; simp
 rw [this, List.map_id]
theorem HObj.sub_gone {id : Nat} {xr xm : HV} {o : HObj} : o.sub id xr xm = .gone ↔ o = .gone := by cases o <;> simp [HObj.sub]

variable {D : Nat → Prop} {F : Nat → Prop} {σ : HS} {a : Act} {w : World} {γ : Nat → Value} {bl : Nat → Option Nat}

theorem Sim.put (S : Sim D F σ a w γ bl) {d : Nat} {v : Value} {h : HV} (hd : d < σ.n) (r : SRep w (dd D σ.log bl) γ bl h v) :
  Sim D F ⟨.s d h :: σ.log, σ.n⟩ (a.put (some d) v) w γ bl where
 hG := S.hG
 hn := by simpa [Act.put] using S.hn
 hdf := S.hdf
 hD := S.hD
 hbw := S.hbw
 henv := by
  intro t
  show SRep w (dd D σ.log bl) γ bl (if d = t then h else get σ.log t) ((a.tmps.setIfInBounds d v).getD t undef)
  by_cases e : d = t
  ·subst e
   have : d < a.tmps.size := by rw [S.hn]; exact hd
   simp [Array.getD_eq_getD_getElem?, this]
   exact r
  ·rw [if_neg e]
   have := S.henv t
   simpa [Array.getD_eq_getD_getElem?, Array.getElem?_setIfInBounds, e] using this
 hobj := S.hobj
 hblk := S.hblk
 hinj := S.hinj

theorem Sim.world (S : Sim D F σ a w γ bl) {w' : World} (hs : w.heap.size ≤ w'.heap.size) (hw : ∀ b, b < w.heap.size → w'.heap[b]? = w.heap[b]?) : Sim D F σ a w' γ bl where
 hG := S.hG.turn hs (fun b hb => hw b (S.hbw b hb))
 hn := S.hn
 hdf := S.hdf
 hD := S.hD
 hbw := fun b hb => Nat.lt_of_lt_of_le (S.hbw b hb) hs
 henv := fun t => (S.henv t).mono hs (fun b h _ => hw b h) (fun _ _ h => h)
 hobj := fun id => ORel.other hs (fun b h _ => hw b h) (fun _ _ h => h) rfl rfl (fun b _ h => hw b h) (fun h => h) (fun h v r => r.mono hs (fun b h _ => hw b h) (fun _ _ h => h)) (by cases getO σ.log id <;> simp [map_id_fun]) (S.hobj id)
 hblk := fun id b h1 h2 => ⟨(S.hblk id b h1 h2).1, Nat.lt_of_lt_of_le (S.hblk id b h1 h2).2 hs⟩
 hinj := S.hinj

theorem Sim.set (S : Sim D F σ a w γ bl) {w' : World} {id : Nat} {o' : HObj} (hl : getO σ.log id ≠ .gone) (hl' : o' ≠ .gone) (hs : w.heap.size ≤ w'.heap.size)
  (hw : ∀ b, b < w.heap.size → bl id ≠ some b → w'.heap[b]? = w.heap[b]?)
  (hnew : (∀ (h : HV) (v : Value), SRep w (dd D σ.log bl) γ bl h v → SRep w' (dd D σ.log bl) γ bl h v) → (∀ (h : HV) (v : Value), IRep w (dd D σ.log bl) h v → IRep w' (dd D σ.log bl) h v) → ORel w' (dd D σ.log bl) γ bl id o') :
  Sim D F ⟨.o id o' :: σ.log, σ.n⟩ a w' γ bl := by
 have hdd : dd D (.o id o' :: σ.log) bl = dd D σ.log bl := by
  funext b
  refine propext ⟨?_, ?_⟩
  ·rintro (h | ⟨i, hi, hb⟩)
   ·exact .inl h
   ·refine .inr ⟨i, ?_, hb⟩
    by_cases e : id = i
    ·subst e; exact hl
    ·simpa [getO, e] using hi
  ·rintro (h | ⟨i, hi, hb⟩)
   ·exact .inl h
   ·refine .inr ⟨i, ?_, hb⟩
    by_cases e : id = i
    ·subst e; simpa [getO] using hl'
    ·simpa [getO, e] using hi
 have hw' : ∀ b, b < w.heap.size → ¬ dd D σ.log bl b → w'.heap[b]? = w.heap[b]? := fun b h hd => hw b h (fun e => hd (.inr ⟨id, hl, e⟩))
 have hS : ∀ (h : HV) (v : Value), SRep w (dd D σ.log bl) γ bl h v → SRep w' (dd D σ.log bl) γ bl h v := fun h v r => r.mono hs hw' (fun _ _ h => h)
 have hI : ∀ (h : HV) (v : Value), IRep w (dd D σ.log bl) h v → IRep w' (dd D σ.log bl) h v := fun h v r => r.mono hs hw' (fun _ _ h => h)
 refine ⟨S.hG.turn hs (fun b hb => hw b (S.hbw b hb) (fun e => (S.hblk id b hl e).1 hb)), S.hn, S.hdf, S.hD, fun b hb => Nat.lt_of_lt_of_le (S.hbw b hb) hs, ?_, ?_, ?_, ?_⟩
 ·intro t
  show SRep w' (dd D (.o id o' :: σ.log) bl) γ bl (get σ.log t) _
  rw [hdd]
  exact hS _ _ (S.henv t)
 ·intro i
  show ORel w' (dd D (.o id o' :: σ.log) bl) γ bl i (if id = i then o' else getO σ.log i)
  rw [hdd]
  by_cases e : id = i
  ·subst e; rw [if_pos rfl]; exact hnew hS hI
  ·rw [if_neg e]
   by_cases hg : getO σ.log i = .gone
   ·rw [hg]; trivial
   ·exact ORel.other hs hw' (fun _ _ h => h) rfl rfl (fun b hb h => hw b h (fun e' => e (S.hinj id i b hl hg e' hb))) (fun h => h) hS (by cases getO σ.log i <;> simp [map_id_fun]) (S.hobj i)
 ·intro i b hi hb
  by_cases e : id = i
  ·subst e; exact ⟨(S.hblk id b hl hb).1, Nat.lt_of_lt_of_le (S.hblk id b hl hb).2 hs⟩
  ·have hi' : getO σ.log i ≠ .gone := by simpa [getO, e] using hi
   exact ⟨(S.hblk i b hi' hb).1, Nat.lt_of_lt_of_le (S.hblk i b hi' hb).2 hs⟩
 ·intro i i' b hi hi' hb hb'
  have k : ∀ j, getO (.o id o' :: σ.log) j ≠ .gone → getO σ.log j ≠ .gone := fun j hj => by
   by_cases e : id = j
   ·subst e; exact hl
   ·simpa [getO, e] using hj
  exact S.hinj i i' b (k i hi) (k i' hi') hb hb'

theorem Sim.new (S : Sim D F σ a w γ bl) {w' : World} {id : Nat} {o' : HObj} {γ' : Nat → Value} {bl' : Nat → Option Nat} {xr xm : HV} (hs : w.heap.size ≤ w'.heap.size)
  (hw : ∀ b, b < w.heap.size → ¬ (getO σ.log id ≠ .gone ∧ bl id = some b) → w'.heap[b]? = w.heap[b]?)
  (hγ : ∀ i, i ≠ id → γ' i = γ i) (hbl : ∀ i, i ≠ id → bl' i = bl i)
  (hb' : o' ≠ .gone → ∀ b, bl' id = some b → (w.heap.size ≤ b ∧ b < w'.heap.size) ∨ (getO σ.log id ≠ .gone ∧ bl id = some b))
  (hr : SRep w' (dd D (.o id o' :: .sub id xr xm :: σ.log) bl') γ' bl' xr (γ id))
  (hm : ∀ b, bl id = some b → SRep w' (dd D (.o id o' :: .sub id xr xm :: σ.log) bl') γ' bl' xm (.map (some b)))
  (hnew : (∀ (h : HV) (v : Value), SRep w (dd D σ.log bl) γ bl h v → SRep w' (dd D (.o id o' :: .sub id xr xm :: σ.log) bl') γ' bl' (HV.sub id xr xm h) v) →
   (∀ (h : HV) (v : Value), IRep w (dd D σ.log bl) h v → IRep w' (dd D (.o id o' :: .sub id xr xm :: σ.log) bl') h v) → ORel w' (dd D (.o id o' :: .sub id xr xm :: σ.log) bl') γ' bl' id o') :
  Sim D F ⟨.o id o' :: .sub id xr xm :: σ.log, σ.n⟩ a w' γ' bl' := by
 have hgo : ∀ i, i ≠ id → (getO (.o id o' :: .sub id xr xm :: σ.log) i ≠ .gone ↔ getO σ.log i ≠ .gone) := fun i e => by
  have e' : ¬ id = i := fun x => e x.symm
  simp [getO, e', HObj.sub_gone]
 have hdd : ∀ b, b < w.heap.size → dd D (.o id o' :: .sub id xr xm :: σ.log) bl' b → dd D σ.log bl b := by
  rintro b hlt (h | ⟨i, hi, hb⟩)
  ·exact .inl h
  ·by_cases e : i = id
   ·subst e
    have ho : o' ≠ .gone := by simpa [getO] using hi
    rcases hb' ho b hb with h | h
    ·omega
    ·exact .inr ⟨i, h.1, h.2⟩
   ·exact .inr ⟨i, (hgo i e).1 hi, (hbl i e).symm.trans hb⟩
 have hw' : ∀ b, b < w.heap.size → ¬ dd D σ.log bl b → w'.heap[b]? = w.heap[b]? := fun b h hd => hw b h (fun e => hd (.inr ⟨id, e.1, e.2⟩))
 have hS : ∀ (h : HV) (v : Value), SRep w (dd D σ.log bl) γ bl h v → SRep w' (dd D (.o id o' :: .sub id xr xm :: σ.log) bl') γ' bl' (HV.sub id xr xm h) v := fun h v r => SRep.sub hs hw' hdd hγ hbl hr hm r
 have hI : ∀ (h : HV) (v : Value), IRep w (dd D σ.log bl) h v → IRep w' (dd D (.o id o' :: .sub id xr xm :: σ.log) bl') h v := fun h v r => r.mono hs hw' hdd
 refine ⟨S.hG.turn hs (fun b hb => hw b (S.hbw b hb) (fun e => (S.hblk id b e.1 e.2).1 hb)), S.hn, S.hdf, S.hD, fun b hb => Nat.lt_of_lt_of_le (S.hbw b hb) hs, ?_, ?_, ?_, ?_⟩
 ·intro t
  exact hS _ _ (S.henv t)
 ·intro i
  by_cases e : i = id
  ·subst e
   have := hnew hS hI
   simpa [getO] using this
  ·have e' : ¬ id = i := fun x => e x.symm
   show ORel w' _ γ' bl' i (if id = i then o' else HObj.sub id xr xm (getO σ.log i))
   rw [if_neg e']
   by_cases hg : getO σ.log i = .gone
   ·rw [hg]; trivial
   ·refine ORel.other hs hw' hdd (hγ i e) (hbl i e) (fun b hb h => hw b h (fun e'' => e (S.hinj i id b hg e''.1 hb e''.2))) (HV.sub id xr xm) hS ?_ (S.hobj i)
    cases getO σ.log i <;> simp [HObj.sub, subL_map, subLL_map, subM]
 ·intro i b hi hb
  by_cases e : i = id
  ·subst e
   have ho : o' ≠ .gone := by simpa [getO] using hi
   rcases hb' ho b hb with h | h
   ·exact ⟨fun hF => by have := S.hbw b hF; omega, h.2⟩
   ·exact ⟨(S.hblk i b h.1 h.2).1, Nat.lt_of_lt_of_le (S.hblk i b h.1 h.2).2 hs⟩
  ·have := S.hblk i b ((hgo i e).1 hi) ((hbl i e).symm.trans hb)
   exact ⟨this.1, Nat.lt_of_lt_of_le this.2 hs⟩
 ·intro i i' b hi hi' hb hbb
  by_cases e : i = id
  ·by_cases e' : i' = id
   ·rw [e, e']
   ·subst e
    have ho : o' ≠ .gone := by simpa [getO] using hi
    have k := S.hblk i' b ((hgo i' e').1 hi') ((hbl i' e').symm.trans hbb)
    rcases hb' ho b hb with h | h
    ·omega
    ·exact S.hinj i i' b h.1 ((hgo i' e').1 hi') h.2 ((hbl i' e').symm.trans hbb)
  ·by_cases e' : i' = id
   ·subst e'
    have ho : o' ≠ .gone := by simpa [getO] using hi'
    have k := S.hblk i b ((hgo i e).1 hi) ((hbl i e).symm.trans hb)
    rcases hb' ho b hbb with h | h
    ·omega
    ·exact S.hinj i i' b ((hgo i e).1 hi) h.1 ((hbl i e).symm.trans hb) h.2
   ·exact S.hinj i i' b ((hgo i e).1 hi) ((hgo i' e').1 hi') ((hbl i e).symm.trans hb) ((hbl i' e').symm.trans hbb)

end Go.Hv
