import Derived.Test.YtcmomegkhoggpaaGreatDoorHv14
set_option linter.unusedVariables false
set_option linter.unusedSectionVars false
set_option linter.unusedSimpArgs false
namespace Go.Hv
open Go Go.RowKit
variable [GI]
variable {P : Program} {D : Nat → Prop} {F : Nat → Prop} {σ : HS} {a : Act} {w : World} {γ : Nat → Value} {bl : Nat → Option Nat}

theorem src_ref (S : Sim D F σ a w γ bl) {id e sz : Nat} {es : List (List HV)} (ho : getO σ.log id = .row e sz es) (hI : isILL es = true) : ∃ news, Src P w (dd D σ.log bl) sz es (γ id) news := by
 have R := S.hobj id
 rw [ho] at R
 obtain ⟨hz, hl, R⟩ := R
 rcases R with ⟨rfl, ⟨A, hA⟩, _⟩ | ⟨b', cap, C, fr, h1, h2, h3, h4, h5, h6, h7, h8, h9⟩
 ·rw [hA]
  refine ⟨[], fun w' h => ⟨rfl, ?_⟩, by simp, by simp, by simp, by simp⟩
  cases A with
  | none => rfl
  | some a => simp [Builtin.firstCells, loadCells, loadCellsFrom]
 ·rw [h1]
  have hlo : (C.toList.take (es.length * sz)).length = es.length * sz := by
   rw [List.length_take, Array.length_toList (xs := C), h7, Nat.min_eq_left (Nat.mul_le_mul_right _ h5)]
  refine ⟨C.toList.take (es.length * sz), fun w' hw => ⟨rfl, ?_⟩, hlo, fun v hv => ?_, hl, fun i j x c hx hc => ?_⟩
  ·exact run_firstCells_some (P := P) w' sz es.length ⟨b', 0, none⟩ es.length cap _ hlo (fun j v hv => by
    rw [add_at]
    have hj := getElem?_lt hv
    rw [List.getElem?_take_of_lt (by omega), Array.getElem?_toList] at hv
    rw [cell_of_heap hw, Nat.zero_add]
    simp [World.cell?, h3, hv])
  ·obtain ⟨j, hj⟩ := List.mem_iff_getElem?.1 (List.mem_of_mem_take hv)
   rw [Array.getElem?_toList] at hj
   exact h8 j v hj
  ·obtain ⟨v, hv, hr⟩ := h9 i j x c hx hc
   have hj : j < sz := by have := getElem?_lt hc; have := hl x (List.mem_of_getElem? hx); omega
   have := flat_lt (getElem?_lt hx) hj
   exact ⟨v, by rw [List.getElem?_take_of_lt this, Array.getElem?_toList]; exact hv, hr.toI ((isIL_iff _).1 (List.all_eq_true.1 hI x (List.mem_of_getElem? hx)) c (List.mem_of_getElem? hc))⟩

def notInt (P : Program) (u : Nat) : Bool :=
 match P.underlying u with
 | some (.int _) => false
 | some _ => true
 | none => false
theorem notInt_some {u : Nat} (h : notInt P u = true) : ∃ d, P.underlying u = some d ∧ ∀ k, d ≠ .int k := by
 unfold notInt at h
 split at h
 ·cases h
 ·next d hn hu => exact ⟨d, hu, fun k hk => hn k hk⟩
 ·cases h

def newsOf (L : List Ev) (sz : Nat) : HV → Option (List (List HV))
 | .str l => if sz = 1 then some (bytesHV l) else none
 | .sl sz' f es => if es = [] ∨ sz = sz' then some es else none
 | .ref id => match getO L id with
  | .row _ sz' es => if sz' = sz ∧ isILL es = true then some es else none
  | _ => none
 | _ => none
theorem newsOf_src (S : Sim D F σ a w γ bl) {sz : Nat} (hz : 0 < sz) {x : HV} {es : List (List HV)} (e : newsOf σ.log sz x = some es) {v : Value} (r : SRep w (dd D σ.log bl) γ bl x v) :
  ∃ news, Src P w (dd D σ.log bl) sz es v news := by
 cases x with
 | str l =>
  simp only [newsOf, Option.ite_none_right_eq_some, Option.some.injEq] at e
  obtain ⟨rfl, rfl⟩ := e
  rw [r.str_inv]
  exact src_str l _
 | sl sz' f es' =>
  simp only [newsOf, Option.ite_none_right_eq_some, Option.some.injEq] at e
  obtain ⟨h, rfl⟩ := e
  exact src_sl (r.toI rfl) sz h hz
 | ref id =>
  simp only [newsOf] at e
  cases ho : getO σ.log id with
  | row e0 sz' es' =>
   simp only [ho, Option.ite_none_right_eq_some, Option.some.injEq] at e
   obtain ⟨⟨rfl, hI⟩, rfl⟩ := e
   cases r with
   | imm hi => cases hi
   | ref _ h1 => exact src_ref S ho hI
  | gone => simp [ho] at e
  | box cs => simp [ho] at e
  | map es => simp [ho] at e
  | iter es left last => simp [ho] at e
  | prow V0 ob0 t0 z0 es0 => simp [ho] at e
  | mapb es0 bs0 ck0 => simp [ho] at e
 | _ => simp [newsOf] at e

def appendHV (P : Program) (L : List Ev) (d : Option Tmp) (t u : Nat) (s x : HV) : Option (List Ev × HV) :=
 match slInfo P t with
 | some (e, sz, by_) => match zeroHV P e, newsOf L sz x with
  | some zs, some es => if zs.length = sz ∧ notInt P u = true then
    match s with
    | .ref id => match getO L id with
     | .row e0 sz0 es0 => if e0 = e ∧ sz0 = sz ∧ es0.length + es.length ≤ 9223372036854775807 ∧ (es0.length + es.length) * by_ ≤ 140737488355328 then
       some (.o id (.row e sz (subLL id .any .any es0 ++ es)) :: .sub id .any .any :: L, .ref id) else none
     | _ => none
    | .sl sz0 true es0 => match d with
     | some id => if (es0 = [] ∨ sz0 = sz) ∧ (es0 = [] ∨ es ≠ []) ∧ es0.length + es.length ≤ 9223372036854775807 ∧ (es0.length + es.length) * by_ ≤ 140737488355328 then
       some (.o id (.row e sz (es0 ++ es)) :: .sub id .any .any :: L, .ref id) else none
     | none => none
    | _ => none
   else none
  | _, _ => none
 | none => none

theorem appendHV_run (S : Sim D F σ a w γ bl) {d : Option Tmp} {t u ty : Nat} {s x h : HV} {L' : List Ev} {sv xv : Value} (e : appendHV P σ.log d t u s x = some (L', h)) (rs : SRep w (dd D σ.log bl) γ bl s sv) (rx : SRep w (dd D σ.log bl) γ bl x xv) :
  ∃ v w' γ' bl', (Builtin.append_ #[t, u] ty #[sv, xv]).run P w = .ok v w' ∧ Kept F w w' ∧ Sim D F ⟨L', σ.n⟩ a w' γ' bl' ∧ SRep w' (dd D L' bl') γ' bl' h v := by
 unfold appendHV at e
 split at e
 ·next e0 sz by_ hT =>
  split at e
  ·next zs es hz hn =>
   split at e
   ·next hc =>
    obtain ⟨hzl, hni⟩ := hc
    obtain ⟨d2, hu, hd⟩ := notInt_some hni
    have hsz : 0 < sz := by obtain ⟨_, _, _, _, _, h⟩ := slInfo_some hT; exact h
    obtain ⟨news, hX⟩ := newsOf_src (P := P) S hsz hn rx
    split at e
    ·next id =>
     split at e
     ·next e1 sz0 es0 ho =>
      simp only [Option.ite_none_right_eq_some, Option.some.injEq, Prod.mk.injEq] at e
      obtain ⟨⟨rfl, rfl, hm, hb⟩, rfl, rfl⟩ := e
      cases rs with
      | imm hi => cases hi
      | ref _ h1 =>
       obtain ⟨v, w', γ', bl', k1, k2, k3, k4, k5⟩ := append_row (ty := ty) S hT hz hzl hu hd ho hX hm hb
       exact ⟨v, w', γ', bl', k1, k2, k3, by rw [← k4]; exact .ref id (by rw [k4]; exact k5)⟩
     ·cases e
    ·next sz0 es0 =>
     split at e
     ·next id =>
      simp only [Option.ite_none_right_eq_some, Option.some.injEq, Prod.mk.injEq] at e
      obtain ⟨⟨h0, h1, hm, hb⟩, rfl, rfl⟩ := e
      obtain ⟨v, w', γ', bl', k1, k2, k3, k4, k5⟩ := append_full (id := id) (ty := ty) S hT hz hzl hu hd (rs.toI rfl) h0 h1 hX hm hb
      exact ⟨v, w', γ', bl', k1, k2, k3, by rw [← k4]; exact .ref id (by rw [k4]; exact k5)⟩
     ·cases e
    ·cases e
   ·cases e
  ·cases e
 ·cases e

def makeSliceHV (P : Program) (L : List Ev) (d : Option Tmp) (t : Nat) (n m : HV) : Option (List Ev × HV) :=
 match n, m, d, slInfo P t with
 | .lit (.int _ n), .lit (.int _ m), some id, some (e, sz, by_) => match zeroHV P e with
  | some zs => if n = m ∧ 0 ≤ n ∧ zs.length = sz ∧ (by_ : Int) * n ≤ 281474976710656 ∧ n ≤ 9223372036854775807 ∧ isIL zs = true then
    some (.o id (.row e sz (List.replicate n.toNat zs)) :: .sub id .any .any :: L, .ref id) else none
  | none => none
 | _, _, _, _ => none

theorem makeSliceHV_run (S : Sim D F σ a w γ bl) {d : Option Tmp} {t : Nat} {n m h : HV} {L' : List Ev} {nv mv : Value} (e : makeSliceHV P σ.log d t n m = some (L', h)) (rn : SRep w (dd D σ.log bl) γ bl n nv) (rm : SRep w (dd D σ.log bl) γ bl m mv) :
  ∃ v w' γ' bl', (Instr.makeSlice t nv mv).run P w = .ok v w' ∧ Kept F w w' ∧ Sim D F ⟨L', σ.n⟩ a w' γ' bl' ∧ SRep w' (dd D L' bl') γ' bl' h v := by
 unfold makeSliceHV at e
 split at e
 ·next k n k' m id e0 sz by_ hT =>
  split at e
  ·next zs hz =>
   simp only [Option.ite_none_right_eq_some, Option.some.injEq, Prod.mk.injEq] at e
   obtain ⟨⟨rfl, h0, hzl, hby, h63, hI⟩, rfl, rfl⟩ := e
   cases rn.lit_inv; cases rm.lit_inv
   obtain ⟨i, ht, hi, rfl, rfl, hsz⟩ := slInfo_some hT
   obtain ⟨i', z, hi', hzr, hzs, hz1, hzI⟩ := zeroHV_some hz
   obtain rfl : i' = i := by rw [hi] at hi'; exact (Option.some.inj hi').symm
   have hr := run_make (P := P) w t e0 i' z ht hi hzr k k' n n h0 (Int.le_refl _) hby h63
   have hzz : z.cells.size = i'.size := by rw [hzs, hzl]
   have hmade : ∀ q j, q < n.toNat → j < i'.size → (madeCells z.cells (n.toNat * i'.size))[q * i'.size + j]? = z.cells[j]? := by
    intro q j hq hj
    unfold madeCells
    have hlt := flat_lt hq hj
    rw [Array.getElem?_map]
    have : (Array.range (n.toNat * i'.size))[q * i'.size + j]? = some (q * i'.size + j) := by simp [hlt]
    rw [this]
    simp only [Option.map_some]
    rw [hzz, (divmod_idx hj).2, getElem!_pos z.cells j (by omega), Array.getElem?_eq_getElem (by omega)]
   refine ⟨_, _, upd γ id (.slice (some ⟨w.heap.size, 0, none⟩) n.toNat n.toNat), upd bl id (some w.heap.size), hr, (Kept.refl _ _).alloc S.hbw _, ?_, ?_⟩
   ·refine S.lay (by simp) (fun b hb _ => Below.heap_alloc _ _ _ hb) (fun b hb => .inl (by cases hb; simp)) (fun hS hIr => ?_)
    refine ⟨hsz, fun x hx => by rw [List.mem_replicate] at hx; rw [hx.2]; exact hzl, .inr ⟨w.heap.size, n.toNat, _, (0, 0), by rw [upd_same]; simp, upd_same .., heap_alloc_new w _, by simp, by simp, by unfold maxLen; omega, size_madeCells _ _, fun j v hv => ?_, fun q j x c hx hc => ?_⟩⟩
    ·have hj : j < n.toNat * i'.size := by
      rcases Nat.lt_or_ge j (n.toNat * i'.size) with h' | h'
      ·exact h'
      ·rw [Array.getElem?_eq_none (by rw [size_madeCells]; exact h')] at hv; cases hv
     have h1 : j / i'.size < n.toNat := Nat.div_lt_of_lt_mul (by rwa [Nat.mul_comm])
     have h2 : j % i'.size < i'.size := Nat.mod_lt _ hsz
     have := hmade _ _ h1 h2
     rw [show j / i'.size * i'.size + j % i'.size = j by rw [Nat.mul_comm]; exact Nat.div_add_mod j i'.size, hv] at this
     exact hz1 _ v this.symm
    ·have hq := getElem?_lt hx
     simp only [List.length_replicate] at hq
     rw [List.getElem?_replicate, if_pos hq] at hx
     cases hx
     have hj := getElem?_lt hc
     have hv : z.cells[j]? = some (z.cells[j]'(by omega)) := Array.getElem?_eq_getElem (by omega)
     exact ⟨_, by rw [hmade q j hq (by omega)]; exact hv, .imm (hIr _ _ (hzI w _ j c _ hc hv))⟩
   ·have : Value.slice (some ⟨w.heap.size, 0, none⟩) n.toNat n.toNat = upd γ id (.slice (some ⟨w.heap.size, 0, none⟩) n.toNat n.toNat) id := (upd_same ..).symm
    have h2 := SRep.ref (w := w.alloc (.cells (madeCells z.cells (n.toNat * i'.size)) e0)) (dead := dd D (.o id (.row e0 i'.size (List.replicate n.toNat zs)) :: .sub id .any .any :: σ.log) (upd bl id (some w.heap.size)))
     (γ := upd γ id (.slice (some ⟨w.heap.size, 0, none⟩) n.toNat n.toNat)) (bl := upd bl id (some w.heap.size)) id (by rw [upd_same]; rfl)
    rw [upd_same] at h2
    exact h2
  ·cases e
 ·cases e

def strBytesHV (P : Program) (L : List Ev) (d : Option Tmp) (s t : Nat) (x : HV) : Option (List Ev × HV) :=
 match x, d, tk P s, tk P t, slInfo P t with
 | .str l, some id, some .string, some .bytes, some (e, sz, _) => if sz = 1 ∧ l.length ≤ 9223372036854775807 then some (.o id (.row e 1 (bytesHV l)) :: .sub id .any .any :: L, .ref id) else none
 | _, _, _, _, _ => none

theorem strBytesHV_run (S : Sim D F σ a w γ bl) {d : Option Tmp} {s t : Nat} {x h : HV} {L' : List Ev} {xv : Value} (e : strBytesHV P σ.log d s t x = some (L', h)) (rx : SRep w (dd D σ.log bl) γ bl x xv) :
    ∃ v w' γ' bl', (convert s t xv).run P w = .ok v w' ∧ Kept F w w' ∧ Sim D F ⟨L', σ.n⟩ a w' γ' bl' ∧ SRep w' (dd D L' bl') γ' bl' h v := by
  unfold strBytesHV at e
  split at e
  · next l id e0 sz by_ hs ht hT =>
    simp only [Option.ite_none_right_eq_some, Option.some.injEq, Prod.mk.injEq] at e
    obtain ⟨⟨rfl, hlen⟩, rfl, rfl⟩ := e
    cases rx.str_inv
    obtain ⟨d1, hu1, h1⟩ := tk_some hs
    simp only at h1
    subst h1
    obtain ⟨d2, hu2, e1, rfl, hu0⟩ := tk_some ht
    obtain ⟨i, ht', hi, hsz1, rfl, hsz⟩ := slInfo_some hT
    obtain rfl : e1 = e0 := by rw [hu2] at ht'; cases ht'; rfl
    have hr := run_bytes_of_string (P := P) w s t e1 ⟨l.toArray⟩ hu1 hu2 hu0
    have hss : (⟨l.toArray⟩ : ByteArray).size = l.length := rfl
    have hge := grownCap_ge w (⟨l.toArray⟩ : ByteArray).size 0 e1
    have hcm := grownCap_le_maxLen w (⟨l.toArray⟩ : ByteArray).size 0 e1 (by rw [hss]; unfold maxLen; exact hlen)
    generalize hcap : grownCap w (⟨l.toArray⟩ : ByteArray).size 0 e1 = cap at hr hge hcm
    have hbs : (bytesRow ⟨l.toArray⟩ cap).size = cap := by
      unfold bytesRow
      simp only [Array.size_append, Array.size_map, Array.size_replicate]
      have : (l.toArray).size = l.length := by simp
      show l.toArray.size + (cap - l.length) = cap
      rw [hss] at hge
      omega
    have hb : ∀ j (hj : j < l.length), (bytesRow ⟨l.toArray⟩ cap)[j]? = some (.int .u8 (l[j].toNat : Int)) := by
      intro j hj
      unfold bytesRow
      rw [Array.getElem?_append_left (by simpa using hj)]
      simp [hj]
    have hone : ∀ (j : Nat) (v : Value), (bytesRow ⟨l.toArray⟩ cap)[j]? = some v → v.oneCell' = true := by
      intro j v hv
      unfold bytesRow at hv
      rw [Array.getElem?_append] at hv
      split at hv
      · rw [Array.getElem?_map] at hv
        cases hq : l.toArray[j]? with
        | none => rw [hq] at hv; cases hv
        | some q => rw [hq] at hv; cases hv; rfl
      · rw [Array.getElem?_replicate] at hv
        split at hv
        · cases hv; rfl
        · cases hv
    refine ⟨_, _, upd γ id (.slice (some ⟨w.heap.size, 0, none⟩) l.length cap), upd bl id (some w.heap.size), hr, Kept.drewAlloc w _ S.hbw, ?_, ?_⟩
    · refine S.lay (by simp) (fun b hb _ => Below.heap_alloc _ _ _ hb) (fun b hb => .inl (by cases hb; simp)) (fun hS hIr => ?_)
      refine ⟨by omega, fun x hx => ?_, .inr ⟨w.heap.size, cap, _, _, by rw [upd_same]; simp [bytesHV], upd_same .., heap_alloc_new w.drew _, ?_, by simp only [bytesHV, List.length_map]; exact hge, hcm, by rw [hbs]; omega, hone, fun q j x c hx hc => ?_⟩⟩
      · simp only [bytesHV, List.mem_map] at hx
        obtain ⟨_, _, rfl⟩ := hx
        rfl
      · intro q hq h
        have := h.1
        simp only at this
        omega
      · simp only [bytesHV, List.getElem?_map] at hx
        cases hq : l[q]? with
        | none => simp [hq] at hx
        | some b =>
          simp only [hq, Option.map_some, Option.some.injEq] at hx
          subst hx
          have hlt := getElem?_lt hq
          cases j with
          | zero =>
            simp at hc
            subst hc
            refine ⟨_, by rw [Nat.mul_one, Nat.add_zero]; exact hb q hlt, ?_⟩
            have : l[q] = b := by rw [List.getElem?_eq_getElem hlt] at hq; exact Option.some.inj hq
            rw [this]
            exact .imm (.lit _)
          | succ j => simp at hc
    · have h2 := SRep.ref (w := (w.drew.alloc (.cells (bytesRow ⟨l.toArray⟩ cap) e1 ((bytesRow ⟨l.toArray⟩ cap).size, (bytesRow ⟨l.toArray⟩ cap).size + 1)))) (dead := dd D (.o id (.row e1 1 (bytesHV l)) :: .sub id .any .any :: σ.log) (upd bl id (some w.heap.size)))
          (γ := upd γ id (.slice (some ⟨w.heap.size, 0, none⟩) l.length cap)) (bl := upd bl id (some w.heap.size)) id (by rw [upd_same]; rfl)
      rw [upd_same] at h2
      exact h2
  · cases e
end Go.Hv
