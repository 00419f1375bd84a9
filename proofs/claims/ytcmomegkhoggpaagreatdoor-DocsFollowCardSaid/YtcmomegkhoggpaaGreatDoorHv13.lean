import Derived.Test.YtcmomegkhoggpaaGreatDoorHv12
set_option linter.unusedVariables false
set_option linter.unusedSectionVars false
set_option linter.unusedSimpArgs false
namespace Go.Hv
open Go Go.RowKit
variable [GI]
variable {P : Program} {D : Nat → Prop} {F : Nat → Prop} {σ : HS} {a : Act} {w : World} {γ : Nat → Value} {bl : Nat → Option Nat}

theorem sliceStr_run (S : Sim D F σ a w γ bl) {t : Nat} {x h : HV} {lo hi mx : Option Operand} {l hh m : Option Int} (el : boundOf σ.log lo = some l) (eh : boundOf σ.log hi = some hh) (em : boundOf σ.log mx = some m)
  (e : sliceStrHV P t x l hh m.isSome = some h) {v : Value} (r : SRep w (dd D σ.log bl) γ bl x v) :
  ∃ u, (Instr.sliceAt t v (lo.map a.eval) (hi.map a.eval) (mx.map a.eval)).run P w = .ok u w ∧ SRep w (dd D σ.log bl) γ bl h u := by
 unfold sliceStrHV at e
 split at e
 ·next s ht =>
  cases r.str_inv
  obtain ⟨d, hu, hd⟩ := tk_some ht
  simp only at hd
  subst hd
  simp only [Option.ite_none_right_eq_some, Option.some.injEq] at e
  obtain ⟨⟨h0, h1, h2, h3⟩, rfl⟩ := e
  obtain rfl : m = none := by cases m with | none => rfl | some x => simp at h0
  have hmx : mx = none := by
   rcases boundOf_rep S em with ⟨rfl, _⟩ | ⟨x, k, i, _, hc, _⟩
   ·rfl
   ·cases hc
  subst hmx
  have hsz : (⟨s.toArray⟩ : ByteArray).size = s.length := rfl
  have hb := run_sliceBounds (P := P) S (isS := false) el eh em (len := s.length) (cap := s.length) (Nat.le_refl _) h1 h2 h3 (.inl rfl)
  refine ⟨_, ?_, .imm (.str _)⟩
  unfold Instr.sliceAt
  rw [Sem.run_bind, run_underlying hu, Result.andThen_ok]
  simp only
  unfold Instr.slice
  rw [Sem.run_bind, run_underlying hu, Result.andThen_ok]
  simp only [Option.map_none, Option.isSome_none, Bool.false_eq_true, if_false, hsz]
  simp only [Option.map_none] at hb
  simp only [Sem.run_bind, hb, Result.andThen_ok, Sem.run_pure]
  congr 2
  apply ByteArray.ext
  have := Lib.extract_data ⟨s.toArray⟩ (l.getD 0).toNat (hh.getD s.length).toNat
  simp [List.extract_eq_take_drop]
  rw [List.drop_take]
 ·cases e

theorem sliceSl_run (S : Sim D F σ a w γ bl) {t : Nat} {x h : HV} {lo hi mx : Option Operand} {l hh m : Option Int} (el : boundOf σ.log lo = some l) (eh : boundOf σ.log hi = some hh) (em : boundOf σ.log mx = some m)
  (e : sliceSlHV P t x l hh m = some h) {v : Value} {dead : Nat → Prop} (r : IRep w dead x v) :
  ∃ u, (Instr.sliceAt t v (lo.map a.eval) (hi.map a.eval) (mx.map a.eval)).run P w = .ok u w ∧ IRep w dead h u := by
 unfold sliceSlHV at e
 split at e
 ·next sz' full es e0 sz by_ hT =>
  obtain ⟨inf, ht, hi', rfl, rfl, hsz⟩ := slInfo_some hT
  simp only [Option.ite_none_right_eq_some, Option.some.injEq] at e
  obtain ⟨⟨hz, h1, h2, h3, h4⟩, rfl⟩ := e
  obtain ⟨A, cap, rfl, hlc, hfull⟩ := isl_len r
  have hb := run_sliceBounds (P := P) S (isS := true) el eh em (len := es.length) (cap := cap) hlc h1 h2 h3 h4
  refine ⟨.slice (if capOf m cap = (l.getD 0).toNat then A else A.map (·.add ((l.getD 0).toNat * inf.size))) ((hh.getD es.length).toNat - (l.getD 0).toNat) (capOf m cap - (l.getD 0).toNat), ?_, ?_⟩
  ·unfold Instr.sliceAt
   rw [Sem.run_bind, run_underlying ht, Result.andThen_ok]
   simp only
   unfold Instr.slice
   rw [Sem.run_bind, run_underlying ht, Result.andThen_ok]
   simp only [Sem.run_bind, hb, Result.andThen_ok, run_sizeOf_some hi', Sem.run_pure]
  ·generalize hlo : (l.getD 0).toNat = lo'
   generalize hhi : (hh.getD es.length).toNat = hi2
   have b1 : lo' ≤ hi2 := by omega
   have b2 : hi2 ≤ es.length := by omega
   generalize hM : capOf m cap = M
   have b3 : hi2 ≤ M := by
    rw [← hM]
    cases m with
    | none => simp only [capOf]; omega
    | some m =>
     rcases h4 with h4 | ⟨_, h4⟩
     ·cases h4
     ·simp only [capOf]; rw [← hhi, ← h4]; simp
   have hlen : ((es.take hi2).drop lo').length = hi2 - lo' := by simp; omega
   have hfl : (m.isSome || (full && decide (hh.getD es.length = es.length))) = true → M - lo' = hi2 - lo' := by
    intro hf
    simp only [Bool.or_eq_true, Bool.and_eq_true, decide_eq_true_eq] at hf
    rw [← hM]
    cases m with
    | none =>
     rcases hf with hf | ⟨hf1, hf2⟩
     ·cases hf
     ·have := hfull hf1; simp only [capOf]; omega
    | some m =>
     rcases h4 with h4 | ⟨_, h4⟩
     ·cases h4
     ·simp only [capOf]; rw [← hhi, ← h4]; simp
   have hMc : M ≤ cap := by
    rw [← hM]
    cases m with
    | none => exact Nat.le_refl _
    | some m =>
     rcases h4 with h4 | ⟨_, h4⟩
     ·cases h4
     ·simp only [capOf]; have : hh.getD es.length = m := by rw [← h4]; rfl
      omega
   by_cases hnil : (es.take hi2).drop lo' = []
   ·have : hi2 - lo' = 0 := by rw [← hlen, hnil]; rfl
    rw [hnil, this]
    refine .nil (fun h => by rw [hfl h, this]) (fun hA => ?_)
    split at hA
    ·next hml => omega
    ·next hml =>
     cases A with
     | some ad => simp at hA
     | none =>
      have hc0 : cap = 0 := by
       generalize hes : es = es' at r
       cases r with
       | nil hf hA' => exact hA' rfl
      omega
   ·rw [← hlen]
    cases r with
    | nil hf hA => simp at hnil
    | @sl _ _ _ _ b off f hsz' hc hf hb' hbl hcell hone hr =>
     have hzz : sz' = inf.size := by
      rcases hz with h | h
      ·exact h
      ·subst h; simp at hnil
     subst hzz
     have hpos : 0 < hi2 - lo' := by rw [← hlen]; exact List.length_pos_iff.2 hnil
     have hne : ¬ M = lo' := by omega
     rw [if_neg hne]
     simp only [Option.map_some, add_at]
     refine .sl (fun i j => f (lo' + i) j) (fun x hx => hsz' x (List.mem_of_mem_take (List.mem_of_mem_drop hx))) (by rw [hlen]; omega) (fun h => by rw [hlen]; exact hfl h) hb' hbl (fun i j hi hj => ?_) (fun i j hi hj => ?_) (fun i j x c hx hc' => ?_)
     ·have := hcell (lo' + i) j (by omega) hj
      rw [show off + lo' * inf.size + (i * inf.size + j) = off + ((lo' + i) * inf.size + j) by rw [Nat.add_mul]; omega]
      exact this
     ·exact hone _ _ (by omega) hj
     ·have hi := getElem?_lt hx
      rw [List.getElem?_drop, List.getElem?_take_of_lt (by omega)] at hx
      exact hr _ _ _ _ hx hc'
 ·cases e

theorem field_run {s j : Nat} {x h : HV} {dead : Nat → Prop} {v : Value} (e : fieldHV P s j x = some h) (r : SRep w dead γ bl x v) : ∃ u, (Instr.field s v j).run P w = .ok u w ∧ SRep w dead γ bl h u := by
 unfold fieldHV at e
 split at e
 ·next off n ag hf =>
  unfold fdInfo at hf
  split at hf
  ·next fs hu =>
   split at hf
   ·next f hfj =>
    split at hf
    ·next i d hi hd =>
     split at hf
     ·cases hf
     ·next hsz =>
      simp only [Option.some.injEq, Prod.mk.injEq] at hf
      obtain ⟨rfl, rfl, rfl⟩ := hf
      split at e
      ·next cs =>
       simp only [Option.ite_none_right_eq_some] at e
       obtain ⟨hfit, e⟩ := e
       have key : ∃ vs, v = .agg vs ∧ vs.size = cs.length ∧ ∀ (j : Nat) (c : HV) (u : Value), cs[j]? = some c → vs[j]? = some u → SRep w dead γ bl c u := by
        cases r with
        | imm hi =>
         cases hi with
         | agg hl h => exact ⟨_, rfl, hl, fun j c u hc hu => .imm (h j c u hc hu)⟩
        | agg hl h => exact ⟨_, rfl, hl, h⟩
       obtain ⟨vs, rfl, hl, hr⟩ := key
       have hrun : (Instr.field s (.agg vs) j).run P w = (part f.type vs f.offset).run P w := by
        unfold Instr.field
        rw [Sem.run_bind, run_underlying hu, Result.andThen_ok]
        simp [hfj, asAgg]
       rw [hrun]
       unfold part
       rw [Sem.run_bind, run_isAgg hd, Result.andThen_ok]
       unfold ofCells at e
       cases hag : isAg d with
       | true =>
        rw [hag] at e
        simp only [if_true, Option.some.injEq] at e
        subst e
        refine ⟨.agg (vs.extract f.offset (f.offset + i.size)), by simp [run_sizeOf_some hi], .agg (by simp; omega) (fun k c u hc hu => ?_)⟩
        have hk := getElem?_lt hc
        simp at hk
        rw [List.getElem?_take_of_lt (by omega), List.getElem?_drop] at hc
        rw [Array.getElem?_extract] at hu
        split at hu
        ·exact hr _ c u hc hu
        ·cases hu
       | false =>
        rw [hag] at e
        simp only [Bool.false_eq_true, if_false] at e ⊢
        split at e
        ·next c hc =>
         simp only [Option.some.injEq] at e
         subst e
         have h0 : cs[f.offset]? = some c := by
          have : ((cs.drop f.offset).take i.size)[0]? = some c := by rw [hc]; rfl
          rw [List.getElem?_take_of_lt (by omega), List.getElem?_drop] at this
          simpa using this
         have hlt := getElem?_lt h0
         have hv : vs[f.offset]? = some (vs[f.offset]'(by omega)) := Array.getElem?_eq_getElem (by omega)
         exact ⟨_, by simp [hv], hr _ _ _ h0 hv⟩
        ·cases e
      ·cases e
    ·cases hf
   ·cases hf
  ·cases hf
 ·cases e
end Go.Hv
