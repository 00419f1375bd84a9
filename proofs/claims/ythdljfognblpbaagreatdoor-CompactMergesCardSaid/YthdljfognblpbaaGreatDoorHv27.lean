import Derived.Test.YthdljfognblpbaaGreatDoorHv25
set_option linter.unusedVariables false
set_option linter.unusedSectionVars false
set_option linter.unusedSimpArgs false
namespace Go.Hv
open Go Go.RowKit
variable [GI]
variable {P : Program} {D F : Nat → Prop} {σ : HS} {a : Act} {w : World} {γ γ' : Nat → Value} {bl bl' : Nat → Option Nat} {B : Nat}

/-! ### Rows of rows of one's own: the inner ones' ids begin at B -/
mutual
def lowR (B : Nat) (h : HV) : Bool :=
  match h with
  | .ref i | .mref i | .ptr i _ | .view i _ _ => decide (i < B)
  | .agg cs => lowRL B cs
  | .tup cs => lowRL B cs
  | .fn _ cs => lowRL B cs
  | _ => true
  termination_by structural h
def lowRL (B : Nat) (l : List HV) : Bool :=
  match l with
  | [] => true
  | c :: cs => lowR B c && lowRL B cs
  termination_by structural l
end
theorem belowL_iff (l : List HV) : lowRL B l = true ↔ ∀ c ∈ l, lowR B c = true := by
  induction l with
  | nil => simp [lowRL]
  | cons c cs ih => simp [lowRL, ih]
def belowO (B : Nat) : HObj → Bool
  | .gone => true
  | .box cs => lowRL B cs
  | .row _ _ es => es.all (lowRL B)
  | .map es => es.all fun p => lowR B p.2
  | .iter .. => true
  | .prow _ _ _ _ es => es.all (lowRL B)
def evB (B : Nat) : List Ev → Bool
  | [] => true
  | .s _ h :: r => lowR B h && evB B r
  | .o id o :: r => decide (id < B) && belowO B o && evB B r
  | .sub _ xr xm :: r => lowR B xr && lowR B xm && evB B r
  | .os _ :: _ => false
mutual
theorem below_isI (h : HV) (hi : isI h = true) : lowR B h = true := by
  cases h with
  | agg cs => simp only [lowR]; exact belowL_isI cs (by simpa [isI] using hi)
  | fn f cs => simp only [lowR]; exact belowL_isI cs (by simpa [isI] using hi)
  | cptr v => rfl
  | lit v => rfl
  | str v => rfl
  | sl a b c => rfl
  | mp a => rfl
  | _ => simp [isI] at hi
  termination_by structural h
theorem belowL_isI (l : List HV) (hi : isIL l = true) : lowRL B l = true := by
  cases l with
  | nil => rfl
  | cons c cs =>
    simp only [isIL, Bool.and_eq_true] at hi
    simp only [lowRL, below_isI c hi.1, belowL_isI cs hi.2, Bool.and_self]
  termination_by structural l
end
mutual
theorem below_sub (id : Nat) (xr xm : HV) (hr : lowR B xr = true) (hm : lowR B xm = true) (h : HV) (hb : lowR B h = true) : lowR B (HV.sub id xr xm h) = true := by
  cases h with
  | ref i => simp only [HV.sub]; split; exact hr; exact hb
  | mref i => simp only [HV.sub]; split; exact hm; exact hb
  | ptr i o => simp only [HV.sub]; split; rfl; exact hb
  | view i o n => simp only [HV.sub]; split; rfl; exact hb
  | agg cs => simp only [HV.sub, lowR]; exact belowL_sub id xr xm hr hm cs (by simpa [lowR] using hb)
  | tup cs => simp only [HV.sub, lowR]; exact belowL_sub id xr xm hr hm cs (by simpa [lowR] using hb)
  | fn f cs => simp only [HV.sub, lowR]; exact belowL_sub id xr xm hr hm cs (by simpa [lowR] using hb)
  | _ => rfl
  termination_by structural h
theorem belowL_sub (id : Nat) (xr xm : HV) (hr : lowR B xr = true) (hm : lowR B xm = true) (l : List HV) (hb : lowRL B l = true) : lowRL B (subL id xr xm l) = true := by
  cases l with
  | nil => rfl
  | cons c cs =>
    simp only [lowRL, Bool.and_eq_true] at hb
    simp only [subL, lowRL, below_sub id xr xm hr hm c hb.1, belowL_sub id xr xm hr hm cs hb.2, Bool.and_self]
  termination_by structural l
end
theorem belowO_sub (id : Nat) (xr xm : HV) (hr : lowR B xr = true) (hm : lowR B xm = true) (o : HObj) (hb : belowO B o = true) : belowO B (o.sub id xr xm) = true := by
  cases o with
  | gone => rfl
  | box cs => exact belowL_sub id xr xm hr hm cs hb
  | row e sz es =>
    simp only [HObj.sub, belowO, subLL, List.all_map, List.all_eq_true] at hb ⊢
    exact fun x hx => belowL_sub id xr xm hr hm x (hb x hx)
  | map es =>
    simp only [HObj.sub, belowO, subM, List.all_map, List.all_eq_true] at hb ⊢
    exact fun x hx => below_sub id xr xm hr hm x.2 (hb x hx)
  | iter es left last => rfl
  | prow V ob e sz es =>
    simp only [HObj.sub, belowO, subLL, List.all_map, List.all_eq_true] at hb ⊢
    exact fun x hx => belowL_sub id xr xm hr hm x (hb x hx)
theorem get_below : ∀ {L : List Ev}, evB B L = true → ∀ t, lowR B (get L t) = true
  | [], _, t => rfl
  | .s k h :: r, hb, t => by
    simp only [evB, Bool.and_eq_true] at hb
    simp only [get]
    split
    · exact hb.1
    · exact get_below hb.2 t
  | .o id o :: r, hb, t => by
    simp only [evB, Bool.and_eq_true] at hb
    exact get_below (L := r) hb.2 t
  | .sub id xr xm :: r, hb, t => by
    simp only [evB, Bool.and_eq_true] at hb
    exact below_sub id xr xm hb.1.1 hb.1.2 _ (get_below hb.2 t)
  | .os g :: r, hb, t => by simp [evB] at hb
theorem getO_below : ∀ {L : List Ev}, evB B L = true → ∀ t, belowO B (getO L t) = true ∧ (B ≤ t → getO L t = .gone)
  | [], _, t => ⟨rfl, fun _ => rfl⟩
  | .s k h :: r, hb, t => by
    simp only [evB, Bool.and_eq_true] at hb
    exact getO_below (L := r) hb.2 t
  | .o id o :: r, hb, t => by
    simp only [evB, Bool.and_eq_true, decide_eq_true_eq] at hb
    simp only [getO]
    split
    · next e => subst e; exact ⟨hb.1.2, fun h => by omega⟩
    · exact getO_below hb.2 t
  | .sub id xr xm :: r, hb, t => by
    simp only [evB, Bool.and_eq_true] at hb
    have := getO_below hb.2 t
    exact ⟨belowO_sub id xr xm hb.1.1 hb.1.2 _ this.1, fun h => by simp only [getO, this.2 h]; rfl⟩
  | .os g :: r, hb, t => by simp [evB] at hb

theorem SRep.gam {dead : Nat → Prop} (hγ : ∀ i, i < B → γ' i = γ i) (hbl : ∀ i, i < B → bl' i = bl i) {h : HV} {v : Value} (r : SRep w dead γ bl h v) (hb : lowR B h = true) : SRep w dead γ' bl' h v := by
  induction r with
  | any v => exact .any v
  | imm hi => exact .imm hi
  | agg hl h ih => exact .agg hl fun j c v hc hv => ih j c v hc hv ((belowL_iff _).1 (by simpa [lowR] using hb) c (List.mem_of_getElem? hc))
  | tup hl h ih => exact .tup hl fun j c v hc hv => ih j c v hc hv ((belowL_iff _).1 (by simpa [lowR] using hb) c (List.mem_of_getElem? hc))
  | ref id h1 =>
    have : id < B := by simpa [lowR] using hb
    rw [← hγ id this]
    exact .ref id (by rw [hγ id this]; exact h1)
  | ptr hb' => exact .ptr ((hbl _ (by simpa [lowR] using hb)).trans hb')
  | mref hb' => exact .mref ((hbl _ (by simpa [lowR] using hb)).trans hb')
  | view h => exact .view fun hn => let ⟨b, hb', hA⟩ := h hn; ⟨b, (hbl _ (by simpa [lowR] using hb)).trans hb', hA⟩
  | fn hl h ih => exact .fn hl fun j c v hc hv => ih j c v hc hv ((belowL_iff _).1 (by simpa [lowR] using hb) c (List.mem_of_getElem? hc))

def refs (B sz n : Nat) : List (List HV) := (List.range n).map fun i => (List.range sz).map fun j => .ref (B + (i * sz + j))
def fam (B m : Nat) (g : Nat → HObj) : Nat → Option HObj := fun i => if B ≤ i ∧ i < B + m then some (g (i - B)) else none
theorem refs_get {sz n i : Nat} {x : List HV} (h : (refs B sz n)[i]? = some x) : i < n ∧ x = (List.range sz).map fun j => .ref (B + (i * sz + j)) := by
  unfold refs at h
  rw [List.getElem?_map] at h
  rcases Nat.lt_or_ge i n with hlt | hge
  · rw [List.getElem?_range hlt] at h
    exact ⟨hlt, (Option.some.inj h).symm⟩
  · rw [List.getElem?_eq_none (by simpa using hge)] at h; cases h
theorem refsCell {sz i j : Nat} {c : HV} (h : ((List.range sz).map fun j => HV.ref (B + (i * sz + j)))[j]? = some c) : j < sz ∧ c = .ref (B + (i * sz + j)) := by
  rw [List.getElem?_map] at h
  rcases Nat.lt_or_ge j sz with hlt | hge
  · rw [List.getElem?_range hlt] at h
    exact ⟨hlt, (Option.some.inj h).symm⟩
  · rw [List.getElem?_eq_none (by simpa using hge)] at h; cases h
@[simp] theorem refs_length (sz n : Nat) : (refs B sz n).length = n := by simp [refs]

theorem HS.le_rows {L : List Ev} {n id e sz : Nat} (B : Nat) (ty : Nat → Nat × Nat) {es : List (List HV)} (hB : evB B L = true) (ho : getO L id = .row e sz es) (hnil : ∀ x ∈ es, ∀ c ∈ x, ∃ z, c = .sl z true []) (hty : ∀ j, 0 < (ty j).2) :
    HS.le ⟨L, n⟩ ⟨.o id (.row e sz (refs B sz es.length)) :: .os (fam B (es.length * sz) fun m => .row (ty (m % sz)).1 (ty (m % sz)).2 []) :: L, n⟩ := by
  intro D F a w γ bl S
  have hidB : id < B := by
    rcases Nat.lt_or_ge id B with h | h
    · exact h
    · rw [(getO_below hB id).2 h] at ho; cases ho
  have hlive : getO L id ≠ .gone := by rw [ho]; simp
  have R := S.hobj id
  simp only at R
  rw [ho] at R
  obtain ⟨hz, hl, R⟩ := R
  -- the cells' values
  have hcells : ∃ val : Nat → Value, ∀ i j, i < es.length → j < sz → (∃ A, val (i * sz + j) = .slice A 0 0) ∧ ∀ b cap C fr, γ id = .slice (some ⟨b, 0, none⟩) es.length cap → w.heap[b]? = some (.cells C e fr) → bl id = some b → C[i * sz + j]? = some (val (i * sz + j)) := by
    rcases R with ⟨rfl, _⟩ | ⟨b, cap, C, fr, h1, h2, h3, h4, h5, h6, h7, h8, h9⟩
    · exact ⟨fun _ => undef, fun i j hi => by simp at hi⟩
    · refine ⟨fun m => C.getD m undef, fun i j hi hj => ?_⟩
      have hx := List.getElem?_eq_getElem hi
      have hxl : (es[i]).length = sz := hl _ (List.getElem_mem hi)
      have hc := List.getElem?_eq_getElem (l := es[i]) (i := j) (by omega)
      obtain ⟨v, hv, hr⟩ := h9 i j _ _ hx hc
      have hgd : C.getD (i * sz + j) undef = v := by simp [Array.getD_eq_getD_getElem?, hv]
      obtain ⟨z, hzz⟩ := hnil _ (List.getElem_mem hi) _ (List.getElem_mem (l := es[i]) (n := j) (by omega))
      rw [hzz] at hr
      refine ⟨?_, fun b' cap' C' fr' _ hb' hbl' => ?_⟩
      · simp only [hgd]
        cases hr with
        | imm hi =>
          cases hi with
          | @nil _ _ A cap hf hA => rw [hf rfl]; exact ⟨A, rfl⟩
          | sl f hsz hc hf hb hbl hcell h1 h =>
            have := hf rfl
            simp only [List.length_nil] at this
            subst this
            exact ⟨_, rfl⟩
      · have : b' = b := by rw [h2] at hbl'; exact (Option.some.inj hbl').symm
        subst this
        rw [h3] at hb'
        cases hb'
        simp only [hgd]; exact hv
  obtain ⟨val, hval⟩ := hcells
  have hin : ∀ m, m < es.length * sz → m / sz < es.length ∧ m % sz < sz ∧ m / sz * sz + m % sz = m := fun m hm =>
    ⟨Nat.div_lt_of_lt_mul (by rw [Nat.mul_comm]; exact hm), Nat.mod_lt _ hz, by rw [Nat.mul_comm]; exact Nat.div_add_mod m sz⟩
  let γ2 : Nat → Value := fun i => if B ≤ i ∧ i < B + es.length * sz then val (i - B) else γ i
  let bl2 : Nat → Option Nat := fun i => if B ≤ i then none else bl i
  have hγ2 : ∀ i, i < B → γ2 i = γ i := fun i h => by simp only [γ2]; rw [if_neg (by omega)]
  have hbl2 : ∀ i, i < B → bl2 i = bl i := fun i h => by simp only [bl2]; rw [if_neg (by omega)]
  let L2 : List Ev := .o id (.row e sz (refs B sz es.length)) :: .os (fam B (es.length * sz) fun m => .row (ty (m % sz)).1 (ty (m % sz)).2 []) :: L
  have hgetO : ∀ i, i < B → i ≠ id → getO L2 i = getO L i := fun i hi hne => by
    have e1 : ¬ id = i := fun x => hne x.symm
    have e2 : ¬ (B ≤ i ∧ i < B + es.length * sz) := by omega
    simp [L2, getO, fam, e1, e2]
  have hgetI : getO L2 id = .row e sz (refs B sz es.length) := by simp [L2, getO]
  have hgetN : ∀ i, B ≤ i → i ≠ id → getO L2 i = if i < B + es.length * sz then .row (ty ((i - B) % sz)).1 (ty ((i - B) % sz)).2 [] else .gone := fun i hi hne => by
    have e1 : ¬ id = i := fun x => hne x.symm
    by_cases e2 : i < B + es.length * sz
    · simp [L2, getO, fam, e1, e2, hi]
    · simp [L2, getO, fam, e1, e2, (getO_below hB i).2 hi]
  have hdd : dd D L2 bl2 = dd D L bl := by
    funext b
    refine propext ⟨?_, ?_⟩
    · rintro (h | ⟨i, hi, hb⟩)
      · exact .inl h
      · rcases Nat.lt_or_ge i B with hlt | hge
        · refine .inr ⟨i, ?_, (hbl2 i hlt).symm.trans hb⟩
          by_cases e : i = id
          · subst e; exact hlive
          · rwa [hgetO i hlt e] at hi
        · simp only [bl2, if_pos hge] at hb; cases hb
    · rintro (h | ⟨i, hi, hb⟩)
      · exact .inl h
      · have hlt : i < B := by
          rcases Nat.lt_or_ge i B with h | h
          · exact h
          · exact absurd ((getO_below hB i).2 h) hi
        refine .inr ⟨i, ?_, (hbl2 i hlt).trans hb⟩
        by_cases e : i = id
        · subst e; rw [hgetI]; simp
        · rw [hgetO i hlt e]; exact hi
  have hlow : ∀ i, getO L2 i ≠ .gone → bl2 i ≠ none → i < B ∧ getO L i ≠ .gone := fun i hi hb => by
    have hlt : i < B := by
      rcases Nat.lt_or_ge i B with h | h
      · exact h
      · simp only [bl2, if_pos h] at hb; exact absurd rfl hb
    refine ⟨hlt, ?_⟩
    by_cases e : i = id
    · subst e; exact hlive
    · rwa [hgetO i hlt e] at hi
  refine ⟨γ2, bl2, S.hG, S.hn, S.hdf, S.hD, S.hbw, fun t => ?_, fun i => ?_, fun i b hi hb => ?_, fun i i' b hi hi' hb hb' => ?_⟩
  · show SRep w (dd D L2 bl2) γ2 bl2 (get L t) _
    rw [hdd]
    exact (S.henv t).gam hγ2 hbl2 (get_below hB t)
  · show ORel w (dd D L2 bl2) γ2 bl2 i (getO L2 i)
    rw [hdd]
    by_cases e1 : i = id
    · subst e1
      rw [hgetI]
      rcases R with ⟨h1, h2, h3⟩ | ⟨b, cap, C, fr, h1, h2, h3, h4, h5, h6, h7, h8, h9⟩
      · refine ⟨hz, fun x hx => ?_, .inl ⟨by rw [h1]; rfl, by rw [hγ2 i hidB]; exact h2, (hbl2 i hidB).trans h3⟩⟩
        obtain ⟨k, hk⟩ := List.mem_iff_getElem?.1 hx
        rw [(refs_get hk).2]; simp
      · refine ⟨hz, fun x hx => ?_, .inr ⟨b, cap, C, fr, by rw [hγ2 i hidB, refs_length]; exact h1, (hbl2 i hidB).trans h2, h3, h4, by rw [refs_length]; exact h5, h6, h7, h8, fun k j x c hx hc => ?_⟩⟩
        · obtain ⟨k, hk⟩ := List.mem_iff_getElem?.1 hx
          rw [(refs_get hk).2]; simp
        · obtain ⟨hk, rfl⟩ := refs_get hx
          obtain ⟨hj, rfl⟩ := refsCell hc
          obtain ⟨⟨A, hA⟩, hv⟩ := hval k j hk hj
          have hlt : k * sz + j < es.length * sz := by
            have : (k + 1) * sz ≤ es.length * sz := Nat.mul_le_mul_right _ hk
            rw [Nat.add_mul, Nat.one_mul] at this; omega
          have hg : γ2 (B + (k * sz + j)) = val (k * sz + j) := by
            simp only [γ2]; rw [if_pos (by omega), Nat.add_sub_cancel_left]
          refine ⟨_, hv b cap C fr h1 h3 h2, ?_⟩
          rw [← hg]
          exact .ref _ (by rw [hg, hA]; rfl)
    · rcases Nat.lt_or_ge i B with hlt | hge
      · rw [hgetO i hlt e1]
        have hbo := (getO_below hB i).1
        have Ri := S.hobj i
        simp only at Ri
        cases hgi : getO L i with
        | gone => trivial
        | box cs =>
          rw [hgi] at Ri hbo
          obtain ⟨b, C, e', g1, g2, g3, g4, g5⟩ := Ri
          exact ⟨b, C, e', (hbl2 i hlt).trans g1, g2, g3, g4, fun j c v hc hv => (g5 j c v hc hv).gam hγ2 hbl2 ((belowL_iff _).1 hbo c (List.mem_of_getElem? hc))⟩
        | row e' sz' es' =>
          rw [hgi] at Ri hbo
          obtain ⟨g1, g2, g3⟩ := Ri
          refine ⟨g1, g2, ?_⟩
          rcases g3 with ⟨k1, k2, k3⟩ | ⟨b, cap, C, fr, k1, k2, k3, k4, k5, k6, k7, k8, k9⟩
          · exact .inl ⟨k1, by rw [hγ2 i hlt]; exact k2, (hbl2 i hlt).trans k3⟩
          · refine .inr ⟨b, cap, C, fr, (hγ2 i hlt).trans k1, (hbl2 i hlt).trans k2, k3, k4, k5, k6, k7, k8, fun p j x c hx hc => ?_⟩
            obtain ⟨v, hv, hr⟩ := k9 p j x c hx hc
            simp only [belowO, List.all_eq_true] at hbo
            exact ⟨v, hv, hr.gam hγ2 hbl2 ((belowL_iff _).1 (hbo x (List.mem_of_getElem? hx)) c (List.mem_of_getElem? hc))⟩
        | map es' =>
          rw [hgi] at Ri hbo
          obtain ⟨b, ents, clock, k1, k2, k3, k4, k5, k6⟩ := Ri
          refine ⟨b, ents, clock, (hbl2 i hlt).trans k1, k2, k3, k4, k5, fun p k x e' hx he => ?_⟩
          simp only [belowO, List.all_eq_true] at hbo
          exact ⟨(k6 p k x e' hx he).1, (k6 p k x e' hx he).2.gam hγ2 hbl2 (hbo (k, x) (List.mem_of_getElem? hx))⟩
        | iter es' left last =>
          rw [hgi] at Ri
          obtain ⟨b, mv, seen, k1, k2, k3, k4, k5⟩ := Ri
          exact ⟨b, mv, seen, (hbl2 i hlt).trans k1, k2, k3, k4, k5⟩
        | prow V0 ob0 t0 z0 es0 =>
          rw [hgi] at Ri hbo
          obtain ⟨⟨kV, kb⟩, k0, k1, k2⟩ := Ri
          refine ⟨⟨(hγ2 i hlt).trans kV, (hbl2 i hlt).trans kb⟩, k0, k1, ?_⟩
          rcases k2 with ⟨q1, ⟨A, q2⟩, q3⟩ | ⟨b, cap, C, fr, q1, q2, q3, q4, q5, q6, q7, q8, q9⟩
          · exact .inl ⟨q1, ⟨A, (hγ2 i hlt).trans q2⟩, (hbl2 i hlt).trans q3⟩
          · refine .inr ⟨b, cap, C, fr, (hγ2 i hlt).trans q1, (hbl2 i hlt).trans q2, q3, q4, q5, q6, q7, q8, fun p j x c hx hc => ?_⟩
            obtain ⟨v, hv, hr⟩ := q9 p j x c hx hc
            simp only [belowO, List.all_eq_true] at hbo
            exact ⟨v, hv, hr.gam hγ2 hbl2 ((belowL_iff _).1 (hbo x (List.mem_of_getElem? hx)) c (List.mem_of_getElem? hc))⟩
      · rw [hgetN i hge e1]
        split
        · next hlt2 =>
          obtain ⟨q1, q2, q3⟩ := hin (i - B) (by omega)
          obtain ⟨⟨A, hA⟩, _⟩ := hval ((i - B) / sz) ((i - B) % sz) q1 q2
          rw [q3] at hA
          refine ⟨hty _, by simp, .inl ⟨rfl, ⟨A, ?_⟩, ?_⟩⟩
          · simp only [γ2]; rw [if_pos ⟨hge, hlt2⟩]; exact hA
          · simp only [bl2]; rw [if_pos hge]
        · trivial
  · obtain ⟨hlt, hg⟩ := hlow i hi (by rw [hb]; simp)
    exact S.hblk i b hg ((hbl2 i hlt).symm.trans hb)
  · obtain ⟨hlt, hg⟩ := hlow i hi (by rw [hb]; simp)
    obtain ⟨hlt', hg'⟩ := hlow i' hi' (by rw [hb']; simp)
    exact S.hinj i i' b hg hg' ((hbl2 i hlt).symm.trans hb) ((hbl2 i' hlt').symm.trans hb')
end Go.Hv
