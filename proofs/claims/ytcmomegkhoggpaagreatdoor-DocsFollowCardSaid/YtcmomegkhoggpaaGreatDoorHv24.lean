import Derived.Test.YtcmomegkhoggpaaGreatDoorHv23
set_option linter.unusedVariables false
set_option linter.unusedSectionVars false
set_option linter.unusedSimpArgs false
namespace Go.Hv
open Go Go.RowKit
variable [GI]
variable {P : Program} {D : Nat → Prop} {F : Nat → Prop} {σ : HS} {a : Act} {w : World} {γ : Nat → Value} {bl : Nat → Option Nat} {ops : Array Oper}

theorem countP_set {B : List Nat} (hn : B.Nodup) {listed : Array Bool} {i : Nat} (hi : i ∈ B) (hu : listed.getD i true = false) :
  B.countP (fun j => !listed.getD j true) = B.countP (fun j => !(listed.setIfInBounds i true).getD j true) + 1 := by
 induction B with
 | nil => simp at hi
 | cons k r ih =>
  rw [List.nodup_cons] at hn
  rw [List.countP_cons, List.countP_cons]
  have hlt := (getD_of_false hu).1
  by_cases hk : i = k
  ·subst hk
   have : r.countP (fun j => !listed.getD j true) = r.countP (fun j => !(listed.setIfInBounds i true).getD j true) := by
    apply List.countP_congr
    intro j hj
    have hne : i ≠ j := fun e => hn.1 (e ▸ hj)
    rw [getD_set_ne true hne]
   rw [this, hu, getD_set_self hlt]
   simp
  ·have hr : i ∈ r := by rcases List.mem_cons.1 hi with h | h; exact absurd h hk; exact h
   rw [ih hn.2 hr, getD_set_ne true hk]
   omega

def MInv (ops : Array Oper) (vs : List (Nat × HV)) (L : List Ev) (listed : Array Bool) (M : List Ev) : Prop :=
 (∀ j h, (j, h) ∈ vs → listed.getD j false = true → ∀ t, dstOf ops j = some t → get M t = h) ∧
 (∀ t, (∀ j h, (j, h) ∈ vs → listed.getD j false = true → dstOf ops j ≠ some t) → get M t = get L t) ∧ ∀ id, getO M id = getO L id

theorem setAll_size (B : List Nat) : ∀ l : Array Bool, (setAll l B).size = l.size := by
 induction B with
 | nil => intro l; rfl
 | cons i r ih => intro l; show (setAll (l.setIfInBounds i true) r).size = _; rw [ih]; simp
theorem setAll_out (B : List Nat) : ∀ (l : Array Bool) (k : Nat) (d : Bool), k ∉ B → (setAll l B).getD k d = l.getD k d := by
 induction B with
 | nil => intro l k d _; rfl
 | cons i r ih =>
  intro l k d hk
  show (setAll (l.setIfInBounds i true) r).getD k d = _
  rw [ih _ _ _ (fun h => hk (by simp [h])), getD_set_ne d (fun (e : i = k) => hk (by simp [e]))]
theorem setAll_keep (B : List Nat) : ∀ (l : Array Bool) (k : Nat), l.getD k false = true → (setAll l B).getD k false = true := by
 induction B with
 | nil => intro l k h; exact h
 | cons i r ih => intro l k h; exact ih _ _ (getD_set_true h)
theorem setAll_in (B : List Nat) : ∀ (l : Array Bool) (k : Nat), k ∈ B → k < l.size → (setAll l B).getD k false = true := by
 induction B with
 | nil => intro l k h; simp at h
 | cons i r ih =>
  intro l k hk hlt
  show (setAll (l.setIfInBounds i true) r).getD k false = _
  rcases List.mem_cons.1 hk with rfl | hk
  ·exact setAll_keep _ _ _ (getD_set_self hlt false)
  ·exact ih _ _ hk (by simpa using hlt)

theorem eq_of_getD {x y : Array Bool} (hs : x.size = y.size) (h : ∀ k, k < x.size → x.getD k false = y.getD k false) : x = y := by
 apply Array.ext hs
 intro i h1 h2
 have := h i h1
 simpa [h1, h2] using this

theorem nodup_split {α : Type} {pre post : List α} {x y : α} (h : (pre ++ x :: post).Nodup) (hy : y ∈ pre) : y ≠ x ∧ y ∉ post := by
 rw [List.nodup_append] at h
 refine ⟨h.2.2 y hy x (by simp), fun hp => h.2.2 y hy y (by simp [hp]) rfl⟩

theorem filterMap_fst (vs : List (Nat × HV)) (f : Nat → Option Nat) : vs.filterMap (fun p => f p.1) = (vs.map (·.1)).filterMap f := by
 induction vs with
 | nil => rfl
 | cons p r ih => simp only [List.filterMap_cons, List.map_cons, ih]

theorem nodup_of_dst {B : List Nat} (f : Nat → Option Nat) (hs : ∀ i ∈ B, (f i).isSome = true) (hn : (B.filterMap f).Nodup) : B.Nodup := by
 induction B with
 | nil => simp
 | cons i r ih =>
  obtain ⟨d, hd⟩ := Option.isSome_iff_exists.1 (hs i (by simp))
  rw [List.filterMap_cons_some (b := d) hd, List.nodup_cons] at hn
  rw [List.nodup_cons]
  exact ⟨fun h => hn.1 (List.mem_filterMap.2 ⟨i, h, hd⟩), ih (fun j hj => hs j (by simp [hj])) hn.2⟩
theorem dst_inj {B : List Nat} (f : Nat → Option Nat) (hn : (B.filterMap f).Nodup) {i j t : Nat} (hi : i ∈ B) (hj : j ∈ B) (h1 : f i = some t) (h2 : f j = some t) : i = j := by
 induction B with
 | nil => simp at hi
 | cons k r ih =>
  cases hk : f k with
  | none =>
   rw [List.filterMap_cons_none hk] at hn
   rcases List.mem_cons.1 hi with rfl | hi
   ·rw [hk] at h1; cases h1
   ·rcases List.mem_cons.1 hj with rfl | hj
    ·rw [hk] at h2; cases h2
    ·exact ih hn hi hj
  | some d =>
   rw [List.filterMap_cons_some hk, List.nodup_cons] at hn
   rcases List.mem_cons.1 hi with e1 | hi'
   ·rcases List.mem_cons.1 hj with e2 | hj'
    ·rw [e1, e2]
    ·subst e1; rw [hk] at h1; cases h1; exact absurd (List.mem_filterMap.2 ⟨j, hj', h2⟩) hn.1
   ·rcases List.mem_cons.1 hj with e2 | hj'
    ·subst e2; rw [hk] at h2; cases h2; exact absurd (List.mem_filterMap.2 ⟨i, hi', h1⟩) hn.1
    ·exact ih hn.2 hi' hj'

theorem batch_wp {Q : Exit → Act → World → Prop} {vs : List (Nat × HV)} {L L' : List Ev} {n fuel : Nat} {listed0 : Array Bool} {w0 : World} (hB : batchOK ops listed0 (vs.map (·.1)) = true) (hrun : RunA P ops n vs L L')
  (KW : ∀ a' w' γ' bl', Sim D F ⟨L', n⟩ a' w' γ' bl' → Kept F w0 w' → wpAny P .any ops Q fuel (setAll listed0 (vs.map (·.1))) a' w') :
  ∀ (m : Nat) (listed : Array Bool) (M : List Ev) (a : Act) (w : World) (γ : Nat → Value) (bl : Nat → Option Nat), BInv ops (vs.map (·.1)) listed0 listed → MInv ops vs L listed M →
   (vs.map (·.1)).countP (fun j => !listed.getD j true) = m → Sim D F ⟨M, n⟩ a w γ bl → Kept F w0 w → wpAny P .any ops Q (fuel + m) listed a w := by
 simp only [batchOK, Bool.and_eq_true, decide_eq_true_eq] at hB
 obtain ⟨⟨⟨⟨htopo, hnd⟩, hsome⟩, hreads⟩, hbl⟩ := hB
 have hsome' : ∀ i ∈ vs.map (·.1), (dstOf ops i).isSome = true := fun i hi => List.all_eq_true.1 hsome i hi
 have hnB : (vs.map (·.1)).Nodup := nodup_of_dst _ hsome' hnd
 have hnd' : (vs.filterMap (fun p => dstOf ops p.1)).Nodup := by rw [filterMap_fst vs (dstOf ops)]; exact hnd
 have hfresh := topo_fresh htopo
 intro m
 induction m with
 | zero =>
  intro listed M a w γ bl I MI hc S hBw
  have hall : ∀ j ∈ vs.map (·.1), listed.getD j true = true := by
   intro j hj
   rw [List.countP_eq_zero] at hc
   simpa using hc j hj
  have hall' : ∀ j ∈ vs.map (·.1), listed.getD j false = true := fun j hj => by
   rw [← getD_true_false (by rw [I.size]; exact (getD_of_false (hfresh j hj)).1)]; exact hall j hj
  have heq : listed = setAll listed0 (vs.map (·.1)) := by
   refine eq_of_getD (by rw [setAll_size, I.size]) (fun k hk => ?_)
   by_cases hkB : k ∈ vs.map (·.1)
   ·rw [hall' k hkB, setAll_in _ _ _ hkB (by rw [← I.size]; exact hk)]
   ·rw [I.out k false hkB, setAll_out _ _ _ _ hkB]
  obtain ⟨q1, q2, q3⟩ := RunA.views hnd' hrun
  have hle : HS.le ⟨M, n⟩ ⟨L', n⟩ := HS.le_of rfl (fun t => .inr (by
   show get L' t = get M t
   by_cases hx : ∃ j h, (j, h) ∈ vs ∧ dstOf ops j = some t
   ·obtain ⟨j, h, hj, ht⟩ := hx
    rw [q1 j h t hj ht, MI.1 j h hj (hall' j (List.mem_map.2 ⟨_, hj, rfl⟩)) t ht]
   ·have hx' : ∀ j h, (j, h) ∈ vs → dstOf ops j ≠ some t := fun j h hj ht => hx ⟨j, h, hj, ht⟩
    rw [q2 t hx', MI.2.1 t (fun j h hj _ => hx' j h hj)])) (fun id => .inr (by
   show getO L' id = getO M id
   rw [q3, MI.2.2]))
  obtain ⟨γ', bl', S'⟩ := hle D F a w γ bl S
  rw [heq]
  exact KW a w γ' bl' S' hBw
 | succ m ih =>
  intro listed M a w γ bl I MI hc S hBw
  have hex : ∃ i ∈ vs.map (·.1), listed.getD i true = false := by
   have : 0 < (vs.map (·.1)).countP (fun j => !listed.getD j true) := by omega
   obtain ⟨i, hi, hu⟩ := List.countP_pos_iff.1 this
   exact ⟨i, hi, by simpa using hu⟩
  have hmono : ∀ e, listed0.getD e false = true → listed.getD e false = true := fun e he => by
   by_cases heB : e ∈ vs.map (·.1)
   ·have := hfresh e heB
    rw [(getD_of_false this).2] at he
    cases he
   ·rw [I.out e false heB]; exact he
  have hnotall : ¬ ∀ b ∈ vs.map (·.1), listed.getD b false = true := fun h => by
   obtain ⟨i, hi, hu⟩ := hex
   have := h i hi
   rw [(getD_of_false hu).2] at this
   cases this
  refine ⟨fun h => ?_, fun i hi => ?_⟩
  ·obtain ⟨i, hiB, hu, hp⟩ := topo_next htopo I.size.symm hmono hex
   have hir : i ∈ Region.ready .any ops listed := by
    refine ready_iff.2 ⟨hu, ?_, hp⟩
    obtain ⟨d, hd⟩ := Option.isSome_iff_exists.1 (hsome' i hiB)
    unfold dstOf at hd
    cases ho : ops[i]? with
    | none => simp [ho] at hd
    | some o => exact ⟨o, rfl⟩
   rw [h] at hir
   cases hir
  ·by_cases hiB : i ∈ vs.map (·.1)
   ·obtain ⟨⟨i', h⟩, hmem, rfl⟩ := List.mem_map.1 hiB
    obtain ⟨pre, post, hsplit⟩ := List.append_of_mem hmem
    obtain ⟨hu, _, hp⟩ := ready_iff.1 hi
    have hrun' := hrun
    rw [hsplit] at hrun'
    obtain ⟨Mi, o, d, hpre, ho, hd, hdn, hPG⟩ := RunA.split hrun'
    have hdst : dstOf ops i' = some d := by simp [dstOf, ho, hd]
    have hpn : (pre.filterMap (fun p => dstOf ops p.1)).Nodup := by
     rw [hsplit, List.filterMap_append, List.nodup_append] at hnd'
     exact hnd'.1
    obtain ⟨q1, q2, q3⟩ := RunA.views hpn hpre
    have hBs : vs.map (·.1) = pre.map (·.1) ++ i' :: post.map (·.1) := by rw [hsplit]; simp
    have hcong : ∀ t ∈ o.looksAt ops, get Mi t = get M t := by
     intro t ht
     by_cases hx : ∃ j x, (j, x) ∈ vs ∧ dstOf ops j = some t
     ·obtain ⟨j, x, hj, hjt⟩ := hx
      have hjB : j ∈ vs.map (·.1) := List.mem_map.2 ⟨_, hj, rfl⟩
      by_cases hij : i' = j
      ·subst hij
       rw [q2 t (fun j' x' hj' e => by
        have hj'B : j' ∈ pre.map (·.1) := List.mem_map.2 ⟨_, hj', rfl⟩
        have : j' = i' := dst_inj _ hnd (by rw [hBs]; simp [hj'B]) hjB e hjt
        have hne := (nodup_split (by rw [← hBs]; exact hnB) hj'B).1
        exact hne this), MI.2.1 t (fun j' x' hj' hl e => by
        have : j' = i' := dst_inj _ hnd (List.mem_map.2 ⟨_, hj', rfl⟩) hjB e hjt
        subst this
        rw [(getD_of_false hu).2] at hl
        cases hl)]
      ·have hread := List.all_eq_true.1 (List.all_eq_true.1 hreads i' hiB) j hjB
       have hlook : (looksOf ops i').contains t = true := by simp only [looksOf, ho]; simpa using ht
       simp only [hjt, hlook, Bool.or_eq_true, beq_iff_eq, hij, false_or, Bool.not_true, Bool.false_eq_true] at hread
       rcases hread with hdep | hdep
       ·
        have hdep' : j ∈ preds ops i' := by simpa using hdep
        have hjl := hp j hdep'
        have hjpre : j ∈ pre.map (·.1) := by
         rcases topo_split (by rw [← hBs]; exact htopo) j hdep' with h0 | h0
         ·have := hfresh j hjB
          rw [(getD_of_false this).2] at h0
          cases h0
         ·exact h0
        obtain ⟨⟨j', x'⟩, hj', e⟩ := List.mem_map.1 hjpre
        simp only at e
        subst e
        have hj'v : (j', x') ∈ vs := by rw [hsplit]; simp [hj']
        rw [q1 j' x' t hj' hjt, MI.1 j' x' hj'v hjl t hjt]
       ·
        have hdep' : i' ∈ preds ops j := by simpa using hdep
        have hjnl : ∀ x, listed.getD j x = true → listed.getD j false = true → False := fun x _ hl => by
         have := I.down j hjB hl i' hdep'
         rw [(getD_of_false hu).2] at this
         cases this
        have hjnpre : j ∉ pre.map (·.1) := by
         intro hjp
         obtain ⟨p1, p2, hsp⟩ := List.append_of_mem hjp
         have ht2 : topo ops listed0 (p1 ++ j :: (p2 ++ i' :: post.map (·.1))) = true := by
          have := htopo
          rw [hBs, hsp] at this
          simpa using this
         rcases topo_split ht2 i' hdep' with h0 | h0
         ·have := hfresh i' hiB
          rw [(getD_of_false this).2] at h0
          cases h0
         ·have hnn := hnB
          rw [hBs, hsp] at hnn
          have hnn' : (p1 ++ (j :: (p2 ++ i' :: post.map (·.1)))).Nodup := by simpa using hnn
          have := (nodup_split hnn' h0).2
          exact this (by simp)
        rw [q2 t (fun j' x' hj' e => by
         have hj'B : j' ∈ pre.map (·.1) := List.mem_map.2 ⟨_, hj', rfl⟩
         have : j' = j := dst_inj _ hnd (by rw [hBs]; simp [hj'B]) hjB e hjt
         exact hjnpre (this ▸ hj'B)), MI.2.1 t (fun j' x' hj' hl e => by
         have : j' = j := dst_inj _ hnd (List.mem_map.2 ⟨_, hj', rfl⟩) hjB e hjt
         subst this
         exact hjnl false hl hl)]
     ·have hx' : ∀ j x, (j, x) ∈ vs → dstOf ops j ≠ some t := fun j x hj e => hx ⟨j, x, hj, e⟩
      rw [q2 t (fun j x hj => hx' j x (by rw [hsplit]; simp [hj])), MI.2.1 t (fun j x hj _ => hx' j x hj)]
    have hPG' : PG P ops o M h := hPG.congr hcong (fun id => by rw [q3, MI.2.2])
    refine hPG'.wpOp ho hd hdn S (fun a' w' γ' bl' S' hB' => ?_)
    refine ih (listed.setIfInBounds i' true) (.s d h :: M) a' w' γ' bl' (I.set hiB hi) ⟨fun j x hj hl t ht => ?_, fun t hfree => ?_, fun id => by rw [← MI.2.2]; rfl⟩ ?_ S' (hBw.trans hB')
    ·by_cases hij : i' = j
     ·subst hij
      have : d = t := by rw [hdst] at ht; exact Option.some.inj ht
      subst this
      have hxh : x = h := by
       have h1 : (i', x) ∈ vs := hj
       rw [hsplit] at h1
       rcases List.mem_append.1 h1 with h1 | h1
       ·have := (nodup_split (by rw [← hBs]; exact hnB) (List.mem_map.2 ⟨(i', x), h1, rfl⟩)).1
        exact absurd rfl this
       ·rcases List.mem_cons.1 h1 with e | h1
        ·cases e; rfl
        ·have hnn : (i' :: post.map (·.1)).Nodup := by
          have := hnB; rw [hBs, List.nodup_append] at this; exact this.2.1
         rw [List.nodup_cons] at hnn
         exact absurd (List.mem_map.2 ⟨(i', x), h1, rfl⟩) hnn.1
      simp [get, hxh]
     ·rw [getD_set_ne false hij] at hl
      have hne : d ≠ t := fun e => hij (dst_inj _ hnd hiB (List.mem_map.2 ⟨_, hj, rfl⟩) (by rw [hdst, e]) ht)
      simp only [get, if_neg hne]
      exact MI.1 j x hj hl t ht
    ·have hne : d ≠ t := fun e => hfree i' h hmem (getD_set_self (getD_of_false hu).1 false) (by rw [hdst, e])
     simp only [get, if_neg hne]
     refine MI.2.1 t (fun j x hj hl => hfree j x hj (getD_set_true hl))
    ·have h9 : (vs.map (·.1)).countP (fun j => !listed.getD j true) = (vs.map (·.1)).countP (fun j => !(listed.setIfInBounds i' true).getD j true) + 1 := countP_set hnB hiB hu
     omega
   ·exact absurd (I.only hbl hiB hi) hnotall
end Go.Hv
