import Derived.Test.YtcmomegkhoggpaaGreatDoorHv30
set_option linter.unusedVariables false
set_option linter.unusedSectionVars false
set_option linter.unusedSimpArgs false
/- Contracts of functions that turn an own row; boxes, rows and families that are frozen; an object that gets another number. -/
namespace Go.Hv
open Go Go.RowKit
variable [GI]
variable {P : Program} {D F : Nat → Prop} {σ : HS} {a : Act} {w : World} {γ : Nat → Value} {bl : Nat → Option Nat}

theorem get_initO (hs : List HV) (R : Nat) (o : HObj) : ∀ (k t : Nat), get (initL k hs ++ [.o R o]) t = get (initL k hs) t := by
 induction hs with
 | nil => intro k t; rfl
 | cons h r ih => intro k t; simp only [initL, List.cons_append, get, ih]
theorem getO_initO (hs : List HV) (R : Nat) (o : HObj) : ∀ (k t : Nat), getO (initL k hs ++ [.o R o]) t = if R = t then o else .gone := by
 induction hs with
 | nil => intro k t; rfl
 | cons h r ih => intro k t; simp only [initL, List.cons_append, getO, ih]
theorem SpecR.of_HT {f : FuncId} {fn : Func} {c : Code} {xs : List HV} {r : ResultVar} {e sz : Nat} {es es' : List (List HV)} (hf : P.funcs[f]? = some fn) (hb : fn.body = some c) (hn : xs.length + 1 ≤ fn.ntmps) (hr : fn.results = #[r])
    (H : HT P c ⟨initL 0 (.ref 900 :: xs) ++ [.o 900 (.row e sz es)], fn.ntmps⟩ (RetO P r e sz es')) : SpecR P f e sz es xs es' := by
  intro D w v us ob hD hob hG hone hes hO hus hrep
  let L0 : List Ev := initL 0 (.ref 900 :: xs) ++ [.o 900 (.row e sz es)]
  let bl0 : Nat → Option Nat := fun i => if i = 900 then ob else none
  have hg0 : ∀ t, getO L0 t = if 900 = t then .row e sz es else .gone := getO_initO _ _ _ 0
  have hsize : ∀ b, ob = some b → b < w.heap.size := fun b hb => by
    rcases hO.2.2 with ⟨_, _, h⟩ | ⟨b', cap, C, fr, _, h2, h3, _⟩
    · have h : ob = none := h
      rw [h] at hb; cases hb
    · have h2 : ob = some b' := h2
      rw [h2] at hb; cases hb; exact lt_of_get h3
  have hdd : ∀ b, dd D L0 bl0 b → (D b ∨ ob = some b) := by
    rintro b (h | ⟨i, h1, h2⟩)
    · exact .inl h
    · by_cases hi : i = 900
      · subst hi; exact .inr (by simpa [bl0] using h2)
      · simp [bl0, hi] at h2
  have S : Sim D (fun b => b < w.heap.size ∧ ob ≠ some b) ⟨L0, fn.ntmps⟩ { tmps := (#[v] ++ us) ++ Array.replicate (fn.ntmps - (#[v] ++ us).size) undef, defers := [] } w (fun _ => v) bl0 := by
    refine ⟨hG, by simp [hus]; omega, rfl, fun b hb => ⟨hD b hb, fun h => hob b h hb⟩, fun b h => h.1, fun t => ?_, fun id => ?_, fun id b h h2 => ?_, fun id id' b h h' _ _ => ?_⟩
    · show SRep w (dd D L0 bl0) (fun _ => v) bl0 (get L0 t) _
      rw [get_initO, get_initL, if_pos (Nat.zero_le _), Nat.sub_zero]
      cases t with
      | zero =>
        have : ((#[v] ++ us) ++ Array.replicate (fn.ntmps - (#[v] ++ us).size) undef).getD 0 undef = v := by simp [Array.getD_eq_getD_getElem?, Array.getElem?_append]
        rw [this]
        exact SRep.ref (γ := fun _ => v) 900 hone
      | succ t =>
        simp only [List.getElem?_cons_succ]
        cases ht : xs[t]? with
        | none => exact .any _
        | some x =>
          have hlt := getElem?_lt ht
          have hv : us[t]? = some (us[t]'(by omega)) := Array.getElem?_eq_getElem (by omega)
          have : ((#[v] ++ us) ++ Array.replicate (fn.ntmps - (#[v] ++ us).size) undef).getD (t + 1) undef = us[t]'(by omega) := by
            rw [Array.getD_eq_getD_getElem?, Array.getElem?_append_left (by simp; omega), Array.getElem?_append_right (by simp)]
            simp [hv]
          rw [this]
          exact .imm ((hrep t x _ ht hv).mono (Nat.le_refl _) (fun _ _ _ => rfl) (fun b _ h => hdd b h))
    · show ORel w (dd D L0 bl0) (fun _ => v) bl0 id (getO L0 id)
      rw [hg0]
      split
      · next h => subst h; exact ORel.idx hes rfl (by simp [bl0]) (ORel.dead hes (fun b _ h => hdd b h) hO)
      · trivial
    · have h : getO L0 id ≠ .gone := h
      rw [hg0] at h
      split at h
      · next e' => subst e'; have h2 : ob = some b := by simpa [bl0] using h2
                   exact ⟨fun h => h.2 h2, hsize b h2⟩
      · exact absurd rfl h
    · have h : getO L0 id ≠ .gone := h
      have h' : getO L0 id' ≠ .gone := h'
      rw [hg0] at h h'
      split at h
      · split at h'
        · omega
        · exact absurd rfl h'
      · exact absurd rfl h
  refine calls_of_wp hf hb (Code.wp_mono ?_ (H D _ _ w _ _ S))
  rintro x a' w' ⟨σ', ⟨hx, hIL, id, h1, h2⟩, hB, γ', bl', S'⟩
  obtain ⟨u, k1, k2⟩ := resHV_run S' h1
  have hu := results_one hr k1
  have hlive : getO σ'.log id ≠ .gone := by rw [h2]; simp
  have R := S'.hobj id
  rw [h2] at R
  obtain rfl : u = γ' id := k2.ref_inv
  have fin : ∃ r ob', Ending.returned (γ' id) = .returned r ∧ r.oneCell' = true ∧ Kept (fun b => b < w.heap.size ∧ ob ≠ some b) w w' ∧ isILL es' = true ∧ (∀ b, ob' = some b → b < w'.heap.size ∧ (w.heap.size ≤ b ∨ ob = some b)) ∧
      ORel w' (fun b => D b ∨ ob' = some b) (fun _ => r) (fun _ => ob') 0 (.row e sz es') := by
    refine ⟨γ' id, bl' id, rfl, k2.one rfl, hB, hIL, fun b hb => ?_, ORel.idx hIL rfl rfl (ORel.dead hIL ?_ R)⟩
    · have := S'.hblk id b hlive hb
      refine ⟨this.2, ?_⟩
      rcases Nat.lt_or_ge b w.heap.size with h | h
      · right
        refine Classical.byContradiction fun hne => ?_
        exact this.1 ⟨h, hne⟩
      · exact .inl h
    · rintro b _ (h | h)
      · exact .inl h
      · exact .inr ⟨id, hlive, h⟩
  rcases hx with rfl | rfl
  · exact ⟨S'.hdf, γ' id, hu, fin⟩
  · exact ⟨S'.hdf, γ' id, hu, fin⟩

theorem HS.le_frzref {L : List Ev} {n id : Nat} {xr xm : HV} (h : frz1 L id = some (xr, xm)) : HS.le ⟨L, n⟩ ⟨.o id .gone :: .sub id xr xm :: L, n⟩ := by
 intro D F a w γ bl S
 obtain ⟨S', _⟩ := Sim.frz1 (σ := ⟨L, n⟩) S h
 exact ⟨γ, bl, S'⟩
theorem HS.le_frzbox {L : List Ev} {n : Nat} (t id : Nat) {cs : List HV} (ht : t < n) (h : get L t = .ptr id 0) (ho : getO L id = .box cs) (hI : isIL cs = true) :
  HS.le ⟨L, n⟩ ⟨.s t (.cptr cs) :: .o id .gone :: .sub id .any .any :: L, n⟩ := by
 intro D F a w γ bl S
 have R := S.hobj id
 rw [ho] at R
 obtain ⟨b, C, e0, h1, h2, h3, h4, h5⟩ := R
 have r := S.henv t
 rw [h] at r
 have hv : a.tmps.getD t undef = .pointer (some ⟨b, 0, none⟩) := by
  generalize a.tmps.getD t undef = v at r
  cases r with
  | imm hi => cases hi
  | ptr hb => rw [h1] at hb; cases hb; rfl
 have hlive : getO L id ≠ .gone := by rw [ho]; simp
 have S1 : Sim D F ⟨.o id .gone :: .sub id .any .any :: L, n⟩ a w γ bl :=
  Sim.new (σ := ⟨L, n⟩) S (Nat.le_refl _) (fun _ _ _ => rfl) (fun _ _ => rfl) (fun _ _ => rfl) (fun hc => absurd rfl hc) (.any _) (fun _ _ => .any _) (fun _ _ => trivial)
 have hnd : ¬ dd D (.o id .gone :: .sub id .any .any :: L) bl b := by
  rintro (h | ⟨i, h6, h7⟩)
  ·exact (S.hblk id b hlive h1).1 (S.hD b h)
  ·by_cases hi : id = i
   ·subst hi; simp [getO] at h6
   ·have hli : getO L i ≠ .gone := by simpa [getO, hi, HObj.sub_gone, -HObj.sub] using h6
    exact hi (S.hinj id i b hlive hli h1 h7)
 have hsub : ∀ b, dd D (.o id .gone :: .sub id .any .any :: L) bl b → dd D L bl b := by
  rintro b (h | ⟨i, h6, h7⟩)
  ·exact .inl h
  ·by_cases hi : id = i
   ·subst hi; simp [getO] at h6
   ·exact .inr ⟨i, by simpa [getO, hi, HObj.sub_gone, -HObj.sub] using h6, h7⟩
 have S2 := Sim.put S1 (d := t) (v := .pointer (some ⟨b, 0, none⟩)) (h := .cptr cs) ht (.imm (.cptr (fun j => C.getD j undef) hnd (lt_of_get h2) (fun j hj => by
   have hg : C[j]? = some C[j] := Array.getElem?_eq_getElem (by omega)
   simp [World.cell?, h2, hg, Array.getD_eq_getD_getElem?]) (fun j hj => by
   have hg : C[j]? = some C[j] := Array.getElem?_eq_getElem (by omega)
   show (C.getD j undef).oneCell' = true
   rw [Array.getD_eq_getD_getElem?, hg]
   exact h4 j _ hg) (fun j c hc => by
   have hj := getElem?_lt hc
   have hg : C[j]? = some C[j] := Array.getElem?_eq_getElem (by omega)
   show IRep w _ c (C.getD j undef)
   rw [Array.getD_eq_getD_getElem?, hg]
   exact ((h5 j c _ hc hg).toI ((isIL_iff _).1 hI c (List.mem_of_getElem? hc))).mono (Nat.le_refl _) (fun _ _ _ => rfl) (fun b _ h => hsub b h))))
 have hp : a.put (some t) (.pointer (some ⟨b, 0, none⟩)) = a := by
  have hlt : t < a.tmps.size := by have := S.hn; simp at this; omega
  have hv' : a.tmps[t] = .pointer (some ⟨b, 0, none⟩) := by
   rw [← hv, Array.getD_eq_getD_getElem?, Array.getElem?_eq_getElem hlt]; rfl
  have : a.tmps.setIfInBounds t (.pointer (some ⟨b, 0, none⟩)) = a.tmps := by
   apply Array.ext_getElem?
   intro i
   rw [Array.getElem?_setIfInBounds]
   split
   ·next e => subst e; rw [Array.getElem?_eq_getElem hlt, hv']
   ·rfl
  show ({ a with tmps := a.tmps.setIfInBounds t (.pointer (some ⟨b, 0, none⟩)) } : Act) = a
  rw [this]
 rw [hp] at S2
 exact ⟨γ, bl, S2⟩
theorem HS.le_ren {L : List Ev} {n : Nat} (old new : Nat) {e sz : Nat} {es : List (List HV)} (ho : getO L old = .row e sz es) (hnew : getO L new = .gone) :
  HS.le ⟨L, n⟩ ⟨.o new ((HObj.row e sz es).sub new .any .any |>.sub old (.ref new) (.mref new)) :: .o old .gone :: .sub old (.ref new) (.mref new) :: .sub new .any .any :: L, n⟩ := by
 intro D F a w γ bl S
 have hne : old ≠ new := by rintro rfl; rw [ho] at hnew; cases hnew
 let o' : HObj := (HObj.row e sz es).sub new .any .any |>.sub old (.ref new) (.mref new)
 let L2 : List Ev := .o new o' :: .o old .gone :: .sub old (.ref new) (.mref new) :: .sub new .any .any :: L
 let γ2 := upd γ new (γ old)
 let bl2 := upd bl new (bl old)
 have hlive : getO L old ≠ .gone := by rw [ho]; simp
 have R0 := S.hobj old
 rw [ho] at R0
 have hone : (γ old).oneCell' = true := by
  rcases R0.2.2 with ⟨_, ⟨A, hA⟩, _⟩ | ⟨b, cap, C, fr, h, _⟩
  ·rw [hA]; rfl
  ·rw [h]; rfl
 have hg : ∀ i, getO L2 i = if new = i then o' else if old = i then .gone else ((getO L i).sub new .any .any).sub old (.ref new) (.mref new) := fun i => by
  simp only [L2, getO]
 have ho' : o' ≠ .gone := by simp [o', HObj.sub]
 have hgo : ∀ i, i ≠ new → i ≠ old → (getO L2 i ≠ .gone ↔ getO L i ≠ .gone) := fun i h1 h2 => by
  rw [hg, if_neg (fun h => h1 h.symm), if_neg (fun h => h2 h.symm)]
  simp [HObj.sub_gone, -HObj.sub]
 have hbn : bl2 new = bl old := upd_same ..
 have hbo : ∀ i, i ≠ new → bl2 i = bl i := fun i h => upd_other _ _ _ i h

 have back : ∀ i b, getO L2 i ≠ .gone → bl2 i = some b → ∃ j, getO L j ≠ .gone ∧ bl j = some b ∧ (i = new → j = old) ∧ (i ≠ new → j = i) := by
  intro i b hi hb
  by_cases h1 : i = new
  ·subst h1; exact ⟨old, hlive, by rw [← hbn]; exact hb, fun _ => rfl, fun h => absurd rfl h⟩
  ·by_cases h2 : i = old
   ·subst h2; rw [hg, if_neg (fun h => h1 h.symm), if_pos rfl] at hi; exact absurd rfl hi
   ·exact ⟨i, (hgo i h1 h2).1 hi, by rw [← hbo i h1]; exact hb, fun h => absurd h h1, fun _ => rfl⟩
 have hdd : ∀ b, dd D L2 bl2 b → dd D L bl b := by
  rintro b (h | ⟨i, hi, hb⟩)
  ·exact .inl h
  ·obtain ⟨j, h1, h2, _⟩ := back i b hi hb
   exact .inr ⟨j, h1, h2⟩
 have hS : ∀ (h : HV) (v : Value), SRep w (dd D L bl) γ bl h v → SRep w (dd D L2 bl2) γ2 bl2 (HV.sub old (.ref new) (.mref new) (HV.sub new .any .any h)) v := by
  intro h v r
  have r1 : SRep w (dd D L2 bl2) γ2 bl2 (HV.sub new .any .any h) v := SRep.sub (Nat.le_refl _) (fun _ _ _ => rfl) (fun b _ h => hdd b h) (fun i hi => upd_other _ _ _ i hi) (fun i hi => upd_other _ _ _ i hi) (.any _) (fun _ _ => .any _) r
  refine SRep.sub (γ' := γ2) (bl' := bl2) (Nat.le_refl _) (fun _ _ _ => rfl) (fun b _ h => h) (fun _ _ => rfl) (fun _ _ => rfl) ?_ (fun b hb => ?_) r1
  ·have h2 := SRep.ref (w := w) (dead := dd D L2 bl2) (γ := γ2) (bl := bl2) new (by simp only [γ2, upd_same]; exact hone)
   have e1 : γ2 new = γ2 old := by simp only [γ2, upd_same]; rw [upd_other _ _ _ old hne]
   rw [e1] at h2
   exact h2
  ·refine .mref ?_
   rw [hbn, ← hb, hbo old hne]
 have hO : ∀ i o, ORel w (dd D L bl) γ bl i o → ∀ k, γ2 k = γ i → bl2 k = bl i → ORel w (dd D L2 bl2) γ2 bl2 k ((o.sub new .any .any).sub old (.ref new) (.mref new)) := by
  intro i o r k hk1 hk2
  refine ORel.tr (k0 := k) (Nat.le_refl _) (fun _ _ _ => rfl) (fun b _ h => hdd b h) hk1 hk2 (fun _ _ _ => rfl) (fun h => HV.sub old (.ref new) (.mref new) (HV.sub new .any .any h)) hS ?_ r
  cases o <;> simp only [HObj.sub, subL_map, subLL_map, subM, List.map_map] <;> first | rfl | (congr 1; apply List.map_congr_left; intro x _; simp [List.map_map, Function.comp_def])
 refine ⟨γ2, bl2, S.hG, S.hn, S.hdf, S.hD, S.hbw, fun t => hS _ _ (S.henv t), fun i => ?_, fun i b hi hb => ?_, fun i i' b hi hi' hb hb' => ?_⟩
 ·show ORel w (dd D L2 bl2) γ2 bl2 i (getO L2 i)
  rw [hg]
  split
  ·next h => subst h; exact hO old _ R0 new (upd_same ..) (upd_same ..)
  ·next h =>
   split
   ·trivial
   ·exact hO i _ (S.hobj i) i (upd_other _ _ _ i (fun x => h x.symm)) (hbo i (fun x => h x.symm))
 ·obtain ⟨j, h1, h2, _⟩ := back i b hi hb
  exact S.hblk j b h1 h2
 ·obtain ⟨j, h1, h2, h3, h4⟩ := back i b hi hb
  obtain ⟨j', h1', h2', h3', h4'⟩ := back i' b hi' hb'
  have hj := S.hinj j j' b h1 h1' h2 h2'
  by_cases e1 : i = new
  ·by_cases e2 : i' = new
   ·rw [e1, e2]
   ·exfalso
    rw [h3 e1, h4' e2] at hj
    subst hj
    rw [hg, if_neg (fun h => e2 h.symm), if_pos rfl] at hi'
    exact hi' rfl
  ·by_cases e2 : i' = new
   ·exfalso
    rw [h4 e1, h3' e2] at hj
    subst hj
    rw [hg, if_neg (fun h => e1 h.symm), if_pos rfl] at hi
    exact hi rfl
   ·rw [h4 e1, h4' e2] at hj; exact hj
theorem HS.le_wk {L : List Ev} {n : Nat} (t : Nat) {h : HV} (h' : HV) (ht : t < n) (hg : get L t = h) (hi : isI h = true) (hle : HLe h h') : HS.le ⟨L, n⟩ ⟨.s t h' :: L, n⟩ := by
 intro D F a w γ bl S
 have r := S.henv t
 rw [hg] at r
 have S2 := S.put (d := t) (v := a.tmps.getD t undef) (h := h') ht (.imm (hle _ _ _ (r.toI hi)))
 have hp : a.put (some t) (a.tmps.getD t undef) = a := by
  have hlt : t < a.tmps.size := by have := S.hn; simp at this; omega
  have : a.tmps.setIfInBounds t (a.tmps.getD t undef) = a.tmps := by
   apply Array.ext_getElem?
   intro i
   rw [Array.getElem?_setIfInBounds]
   split
   ·next e => subst e; simp [hlt]
   ·rfl
  show ({ a with tmps := a.tmps.setIfInBounds t (a.tmps.getD t undef) } : Act) = a
  rw [this]
 rw [hp] at S2
 exact ⟨γ, bl, S2⟩
end Go.Hv
