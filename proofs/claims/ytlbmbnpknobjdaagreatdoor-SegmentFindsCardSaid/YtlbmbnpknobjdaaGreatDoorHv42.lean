import Derived.Test.YtlbmbnpknobjdaaGreatDoorHv25
set_option linter.unusedVariables false
set_option linter.unusedSectionVars false
set_option linter.unusedSimpArgs false
namespace Go.Hv
open Go Go.RowKit
variable [GI]
variable {P : Program} {D : Nat → Prop} {F : Nat → Prop} {σ : HS} {a : Act} {w : World} {γ : Nat → Value} {bl : Nat → Option Nat} {ops : Array Oper}

/-! ### Trees of a drawn region: a batch with a way out, and a choice told branch by branch -/
def unl (ops : Array Oper) (listed : Array Bool) : Nat := (List.range ops.size).countP (fun j => !listed.getD j true)
theorem unl_set {listed : Array Bool} {i : Nat} (hi : i ∈ Region.ready .any ops listed) : unl ops listed = unl ops (listed.setIfInBounds i true) + 1 := by
  obtain ⟨h0, ⟨o, ho⟩, _⟩ := ready_iff.1 hi
  exact countP_set List.nodup_range (List.mem_range.2 (Array.getElem?_eq_some_iff.1 ho).1) h0
theorem wpAny_fuel {Q : Exit → Act → World → Prop} : ∀ (n m : Nat) (listed : Array Bool) (a : Act) (w : World), wpAny P .any ops Q n listed a w → unl ops listed ≤ m → wpAny P .any ops Q m listed a w := by
  intro n
  induction n with
  | zero =>
    intro m listed a w h hm
    obtain ⟨h1, h2⟩ := h
    cases m with
    | zero => exact ⟨h1, h2⟩
    | succ m => exact ⟨fun _ => h2, fun i hi => by rw [h1] at hi; simp at hi⟩
  | succ n ih =>
    intro m listed a w h hm
    obtain ⟨h1, h2⟩ := h
    cases m with
    | zero =>
      have hr : Region.ready .any ops listed = [] := by
        apply List.eq_nil_iff_forall_not_mem.2
        intro i hi
        have := unl_set hi
        omega
      exact ⟨hr, h1 hr⟩
    | succ m => exact ⟨h1, fun i hi => wpOp_mono (fun a' w' h' => ih m _ a' w' h' (by have := unl_set hi; omega)) (h2 i hi)⟩

def chainB (ops : Array Oper) : List Nat → Bool
  | i :: j :: r => (preds ops j).contains i && chainB ops (j :: r)
  | _ => true
def blockedT (ops : Array Oper) (listed : Array Bool) (S R : List Nat) (k : Nat) : Bool :=
  (S ++ R).contains k || listed.getD k true || (preds ops k).any (fun e => !(S ++ R).contains e && !listed.getD e false) || S.all fun b => (reachB ops (S ++ R).reverse (preds ops k)).contains b
def tillOK (ops : Array Oper) (listed : Array Bool) (S R : List Nat) : Bool :=
  topo ops listed (S ++ R) && decide ((S ++ R).filterMap (dstOf ops)).Nodup && (S ++ R).all (fun i => (dstOf ops i).isSome) && readsOK ops (S ++ R) && chainB ops R && (List.range ops.size).all (blockedT ops listed S R)

theorem BInv.onlyT {S R : List Nat} {listed0 listed : Array Bool} (I : BInv ops (S ++ R) listed0 listed) (hb : (List.range ops.size).all (blockedT ops listed0 S R) = true) {k : Nat} (hk : k ∉ S ++ R) (hr : k ∈ Region.ready .any ops listed) : ∀ b ∈ S, listed.getD b false = true := by
  obtain ⟨h0, ⟨o, ho⟩, hp⟩ := ready_iff.1 hr
  have hlt : k < ops.size := (Array.getElem?_eq_some_iff.1 ho).1
  have := List.all_eq_true.1 hb k (List.mem_range.2 hlt)
  simp only [blockedT, Bool.or_eq_true] at this
  rcases this with ((h | h) | h) | h
  · exact absurd (by simpa using h) hk
  · rw [← I.out k true hk, h0] at h; cases h
  · obtain ⟨e, he, hx⟩ := List.any_eq_true.1 h
    simp only [Bool.and_eq_true, Bool.not_eq_true', List.contains_eq_mem, decide_eq_false_iff_not] at hx
    have := hp e he
    rw [I.out e false hx.1, hx.2] at this
    cases this
  · intro b hbB
    have := List.all_eq_true.1 h b hbB
    exact reach_listed (S ++ R).reverse _ (fun i hi => I.down i (List.mem_reverse.1 hi)) hp b (by simpa using this)

theorem chain_split {listed : Array Bool} : ∀ {R : List Nat}, chainB ops R = true → (∀ i ∈ R, listed.getD i false = true → ∀ e ∈ preds ops i, listed.getD e false = true) →
    ∃ r, r ≤ R.length ∧ (∀ i ∈ R.take r, listed.getD i false = true) ∧ ∀ i ∈ R.drop r, listed.getD i false = false
  | [], _, _ => ⟨0, by simp, by simp, by simp⟩
  | [i], _, _ => by
    cases h : listed.getD i false with
    | true => exact ⟨1, by simp, by simpa using h, by simp⟩
    | false => exact ⟨0, by simp, by simp, by simpa using h⟩
  | i :: j :: r, hc, hd => by
    simp only [chainB, Bool.and_eq_true] at hc
    obtain ⟨q, hq, h1, h2⟩ := chain_split (R := j :: r) hc.2 (fun k hk => hd k (List.mem_cons_of_mem _ hk))
    cases h : listed.getD i false with
    | true =>
      refine ⟨q + 1, by simpa using hq, fun k hk => ?_, fun k hk => h2 k (by simpa using hk)⟩
      rw [List.take_succ_cons] at hk
      rcases List.mem_cons.1 hk with rfl | hk
      · exact h
      · exact h1 k hk
    | false =>
      have hq0 : q = 0 := by
        cases q with
        | zero => rfl
        | succ q =>
          have hj := h1 j (by simp)
          have := hd j (by simp) hj i (by simpa using hc.1)
          rw [h] at this; cases this
      subst hq0
      refine ⟨0, by simp, by simp, fun k hk => ?_⟩
      simp only [List.drop_zero] at hk h2
      rcases List.mem_cons.1 hk with rfl | hk
      · exact h
      · exact h2 k hk
theorem RunA.pre {n : Nat} : ∀ {pre post : List (Nat × HV)} {L L' : List Ev}, RunA P ops n (pre ++ post) L L' → ∃ M, RunA P ops n pre L M
  | [], post, L, L', _ => ⟨L, rfl⟩
  | (i, h) :: pre, post, L, L', hr => by
    obtain ⟨o, d, ho, hd, hdn, hp, hr⟩ := hr
    obtain ⟨M, h1⟩ := RunA.pre hr
    exact ⟨M, o, d, ho, hd, hdn, hp, h1⟩
theorem RunA.fn {n : Nat} : ∀ {vs : List (Nat × HV)} {L L1 L2 : List Ev}, RunA P ops n vs L L1 → RunA P ops n vs L L2 → L1 = L2
  | [], L, L1, L2, h1, h2 => by simp only [RunA] at h1 h2; rw [h1, h2]
  | (i, h) :: r, L, L1, L2, h1, h2 => by
    obtain ⟨o, d, ho, hd, _, _, h1⟩ := h1
    obtain ⟨o', d', ho', hd', _, _, h2⟩ := h2
    rw [ho] at ho'; cases ho'
    rw [hd] at hd'; cases hd'
    exact RunA.fn h1 h2
theorem RunA.app {n : Nat} : ∀ {pre post : List (Nat × HV)} {L M L' : List Ev}, RunA P ops n pre L M → RunA P ops n post M L' → RunA P ops n (pre ++ post) L L'
  | [], post, L, M, L', h1, h2 => by simp only [RunA] at h1; subst h1; exact h2
  | (i, h) :: pre, post, L, M, L', h1, h2 => by
    obtain ⟨o, d, ho, hd, hdn, hp, h1⟩ := h1
    exact ⟨o, d, ho, hd, hdn, hp, RunA.app h1 h2⟩

theorem till_wp {Q : Exit → Act → World → Prop} {vs : List (Nat × HV)} {S R : List Nat} {L L' : List Ev} {n : Nat} {listed0 : Array Bool} {w0 : World} (hvs : vs.map (·.1) = S ++ R) (hT : tillOK ops listed0 S R = true) (hrun : RunA P ops n vs L L')
    (KW : ∀ r Lr, r ≤ R.length → RunA P ops n (vs.take (S.length + r)) L Lr → ∀ a' w' γ' bl', Sim D F ⟨Lr, n⟩ a' w' γ' bl' → Kept F w0 w' → wpAny P .any ops Q (unl ops (setAll listed0 (S ++ R.take r))) (setAll listed0 (S ++ R.take r)) a' w') :
    ∀ (m : Nat) (listed : Array Bool) (M : List Ev) (a : Act) (w : World) (γ : Nat → Value) (bl : Nat → Option Nat), BInv ops (S ++ R) listed0 listed → MInv ops vs L listed M →
      (S ++ R).countP (fun j => !listed.getD j true) = m → Sim D F ⟨M, n⟩ a w γ bl → Kept F w0 w → wpAny P .any ops Q (unl ops listed) listed a w := by
  simp only [tillOK, Bool.and_eq_true, decide_eq_true_eq] at hT
  obtain ⟨⟨⟨⟨⟨htopo, hnd⟩, hsome⟩, hreads⟩, hchain⟩, hbl⟩ := hT
  rw [← hvs] at htopo hnd hsome hreads
  have hsome' : ∀ i ∈ vs.map (·.1), (dstOf ops i).isSome = true := fun i hi => List.all_eq_true.1 hsome i hi
  have hnB : (vs.map (·.1)).Nodup := nodup_of_dst _ hsome' hnd
  have hnd' : (vs.filterMap (fun p => dstOf ops p.1)).Nodup := by rw [filterMap_fst vs (dstOf ops)]; exact hnd
  have hfresh := topo_fresh htopo
  have hexit : ∀ (listed : Array Bool) (M : List Ev) (a : Act) (w : World) (γ : Nat → Value) (bl : Nat → Option Nat), BInv ops (S ++ R) listed0 listed → MInv ops vs L listed M →
      Sim D F ⟨M, n⟩ a w γ bl → Kept F w0 w → (∀ s ∈ S, listed.getD s false = true) → wpAny P .any ops Q (unl ops listed) listed a w := by
    intro listed M a w γ bl I MI S1 hBw hS
    obtain ⟨r, hr, hr1, hr2⟩ := chain_split hchain (fun i hi => I.down i (by simp [hi]))
    have hsp : vs = vs.take (S.length + r) ++ vs.drop (S.length + r) := (List.take_append_drop _ _).symm
    have hpm : (vs.take (S.length + r)).map (·.1) = S ++ R.take r := by rw [List.map_take, hvs, List.take_length_add_append]
    have hqm : (vs.drop (S.length + r)).map (·.1) = R.drop r := by rw [List.map_drop, hvs, List.drop_length_add_append]
    obtain ⟨Lr, hLr⟩ := RunA.pre (by rw [← hsp]; exact hrun)
    have hpn : ((vs.take (S.length + r)).filterMap (fun p => dstOf ops p.1)).Nodup := by
      rw [hsp, List.filterMap_append, List.nodup_append] at hnd'
      exact hnd'.1
    obtain ⟨q1, q2, q3⟩ := RunA.views hpn hLr
    have hyes : ∀ j ∈ S ++ R.take r, listed.getD j false = true := fun j hj => by
      rcases List.mem_append.1 hj with h | h
      · exact hS j h
      · exact hr1 j h
    have heq : listed = setAll listed0 (S ++ R.take r) := by
      refine eq_of_getD (by rw [setAll_size, I.size]) (fun k hk => ?_)
      by_cases hkB : k ∈ S ++ R.take r
      · rw [hyes k hkB, setAll_in _ _ _ hkB (by rw [← I.size]; exact hk)]
      · rw [setAll_out _ _ _ _ hkB]
        by_cases hkR : k ∈ R.drop r
        · rw [hr2 k hkR]
          have hm : k ∈ vs.map (·.1) := by rw [hvs, List.mem_append]; exact .inr (List.mem_of_mem_drop hkR)
          rw [(getD_of_false (hfresh k hm)).2]
        · refine I.out k false (fun h => ?_)
          rcases List.mem_append.1 h with h | h
          · exact hkB (by simp [h])
          · rw [← List.take_append_drop r R] at h
            rcases List.mem_append.1 h with h | h
            · exact hkB (by simp [h])
            · exact hkR h
    have hle : HS.le ⟨M, n⟩ ⟨Lr, n⟩ := HS.le_of rfl (fun t => .inr (by
      show get Lr t = get M t
      by_cases hx : ∃ j h, (j, h) ∈ vs.take (S.length + r) ∧ dstOf ops j = some t
      · obtain ⟨j, h, hj, ht⟩ := hx
        rw [q1 j h t hj ht, MI.1 j h (List.mem_of_mem_take hj) (hyes j (by rw [← hpm]; exact List.mem_map.2 ⟨_, hj, rfl⟩)) t ht]
      · have hx' : ∀ j h, (j, h) ∈ vs.take (S.length + r) → dstOf ops j ≠ some t := fun j h hj ht => hx ⟨j, h, hj, ht⟩
        rw [q2 t hx', MI.2.1 t (fun j h hj hl => by
          rw [hsp] at hj
          rcases List.mem_append.1 hj with hj | hj
          · exact hx' j h hj
          · have : j ∈ R.drop r := by rw [← hqm]; exact List.mem_map.2 ⟨_, hj, rfl⟩
            rw [hr2 j this] at hl; cases hl)])) (fun id => .inr (by
      show getO Lr id = getO M id
      rw [q3, MI.2.2]))
    obtain ⟨γ', bl', S'⟩ := hle D F a w γ bl S1
    rw [heq]
    exact KW r Lr hr hLr a w γ' bl' S' hBw
  intro m
  induction m with
  | zero =>
    intro listed M a w γ bl I MI hc S1 hBw
    refine hexit listed M a w γ bl I MI S1 hBw (fun s hs => ?_)
    rw [List.countP_eq_zero] at hc
    have h1 : listed.getD s true = true := by simpa using hc s (by simp [hs])
    rw [← getD_true_false (by rw [I.size]; exact (getD_of_false (hfresh s (by rw [hvs]; simp [hs]))).1)]; exact h1
  | succ m ih =>
    intro listed M a w γ bl I MI hc S1 hBw
    by_cases hS : ∀ s ∈ S, listed.getD s false = true
    · exact hexit listed M a w γ bl I MI S1 hBw hS
    rw [← hvs] at I hc
    have hex : ∃ i ∈ vs.map (·.1), listed.getD i true = false := by
      have : 0 < (vs.map (·.1)).countP (fun j => !listed.getD j true) := by omega
      obtain ⟨i, hi, hu⟩ := List.countP_pos_iff.1 this
      exact ⟨i, hi, by simpa using hu⟩
    have hmono : ∀ e, listed0.getD e false = true → listed.getD e false = true := fun e he => by
      by_cases heB : e ∈ vs.map (·.1)
      · have := hfresh e heB
        rw [(getD_of_false this).2] at he
        cases he
      · rw [I.out e false heB]; exact he
    have hun : ∃ u, unl ops listed = u + 1 := by
      obtain ⟨i, hiB, hu, hp⟩ := topo_next htopo I.size.symm hmono hex
      have hir : i ∈ Region.ready .any ops listed := by
        refine ready_iff.2 ⟨hu, ?_, hp⟩
        obtain ⟨d, hd⟩ := Option.isSome_iff_exists.1 (hsome' i hiB)
        unfold dstOf at hd
        cases ho : ops[i]? with
        | none => simp [ho] at hd
        | some o => exact ⟨o, rfl⟩
      exact ⟨_, unl_set hir⟩
    obtain ⟨u, hun⟩ := hun
    rw [hun]
    refine ⟨fun h => ?_, fun i hi => ?_⟩
    · obtain ⟨i, hiB, hu, hp⟩ := topo_next htopo I.size.symm hmono hex
      have hir : i ∈ Region.ready .any ops listed := by
        refine ready_iff.2 ⟨hu, ?_, hp⟩
        obtain ⟨d, hd⟩ := Option.isSome_iff_exists.1 (hsome' i hiB)
        unfold dstOf at hd
        cases ho : ops[i]? with
        | none => simp [ho] at hd
        | some o => exact ⟨o, rfl⟩
      rw [h] at hir
      cases hir
    · by_cases hiB : i ∈ vs.map (·.1)
      · obtain ⟨⟨i', h⟩, hmem, rfl⟩ := List.mem_map.1 hiB
        obtain ⟨pre, post, hsplit⟩ := List.append_of_mem hmem
        obtain ⟨hu, _, hp⟩ := ready_iff.1 hi
        have hrun' := hrun
        rw [hsplit] at hrun'
        obtain ⟨Mi, o, d, hpre, ho, hd, hdn, hPG⟩ := RunA.split hrun'
        have hdst : dstOf ops i' = some d := by simp [dstOf, ho, hd]
        have hpn : (pre.filterMap (fun p => dstOf ops p.1)).Nodup := by
          rw [hsplit, List.filterMap_append, List.nodup_append] at hnd'
          exact hnd'.1
        obtain ⟨q1, q2, q3⟩ := RunA.views hpn hpre
        have hBs : vs.map (·.1) = pre.map (·.1) ++ i' :: post.map (·.1) := by rw [hsplit]; simp
        have hcong : ∀ t ∈ o.looksAt ops, get Mi t = get M t := by
          intro t ht
          by_cases hx : ∃ j x, (j, x) ∈ vs ∧ dstOf ops j = some t
          · obtain ⟨j, x, hj, hjt⟩ := hx
            have hjB : j ∈ vs.map (·.1) := List.mem_map.2 ⟨_, hj, rfl⟩
            by_cases hij : i' = j
            · subst hij
              rw [q2 t (fun j' x' hj' e => by
                have hj'B : j' ∈ pre.map (·.1) := List.mem_map.2 ⟨_, hj', rfl⟩
                have : j' = i' := dst_inj _ hnd (by rw [hBs]; simp [hj'B]) hjB e hjt
                have hne := (nodup_split (by rw [← hBs]; exact hnB) hj'B).1
                exact hne this), MI.2.1 t (fun j' x' hj' hl e => by
                have : j' = i' := dst_inj _ hnd (List.mem_map.2 ⟨_, hj', rfl⟩) hjB e hjt
                subst this
                rw [(getD_of_false hu).2] at hl
                cases hl)]
            · have hread := List.all_eq_true.1 (List.all_eq_true.1 hreads i' hiB) j hjB
              have hlook : (looksOf ops i').contains t = true := by simp only [looksOf, ho]; simpa using ht
              simp only [hjt, hlook, Bool.or_eq_true, beq_iff_eq, hij, false_or, Bool.not_true, Bool.false_eq_true] at hread
              rcases hread with hdep | hdep
              · -- j ahead of i'
                have hdep' : j ∈ preds ops i' := by simpa using hdep
                have hjl := hp j hdep'
                have hjpre : j ∈ pre.map (·.1) := by
                  rcases topo_split (by rw [← hBs]; exact htopo) j hdep' with h0 | h0
                  · have := hfresh j hjB
                    rw [(getD_of_false this).2] at h0
                    cases h0
                  · exact h0
                obtain ⟨⟨j', x'⟩, hj', e⟩ := List.mem_map.1 hjpre
                simp only at e
                subst e
                have hj'v : (j', x') ∈ vs := by rw [hsplit]; simp [hj']
                rw [q1 j' x' t hj' hjt, MI.1 j' x' hj'v hjl t hjt]
              · -- j behind i'
                have hdep' : i' ∈ preds ops j := by simpa using hdep
                have hjnl : ∀ x, listed.getD j x = true → listed.getD j false = true → False := fun x _ hl => by
                  have := I.down j hjB hl i' hdep'
                  rw [(getD_of_false hu).2] at this
                  cases this
                have hjnpre : j ∉ pre.map (·.1) := by
                  intro hjp
                  obtain ⟨p1, p2, hsp⟩ := List.append_of_mem hjp
                  have ht2 : topo ops listed0 (p1 ++ j :: (p2 ++ i' :: post.map (·.1))) = true := by
                    have := htopo
                    rw [hBs, hsp] at this
                    simpa using this
                  rcases topo_split ht2 i' hdep' with h0 | h0
                  · have := hfresh i' hiB
                    rw [(getD_of_false this).2] at h0
                    cases h0
                  · have hnn := hnB
                    rw [hBs, hsp] at hnn
                    have hnn' : (p1 ++ (j :: (p2 ++ i' :: post.map (·.1)))).Nodup := by simpa using hnn
                    have := (nodup_split hnn' h0).2
                    exact this (by simp)
                rw [q2 t (fun j' x' hj' e => by
                  have hj'B : j' ∈ pre.map (·.1) := List.mem_map.2 ⟨_, hj', rfl⟩
                  have : j' = j := dst_inj _ hnd (by rw [hBs]; simp [hj'B]) hjB e hjt
                  exact hjnpre (this ▸ hj'B)), MI.2.1 t (fun j' x' hj' hl e => by
                  have : j' = j := dst_inj _ hnd (List.mem_map.2 ⟨_, hj', rfl⟩) hjB e hjt
                  subst this
                  exact hjnl false hl hl)]
          · have hx' : ∀ j x, (j, x) ∈ vs → dstOf ops j ≠ some t := fun j x hj e => hx ⟨j, x, hj, e⟩
            rw [q2 t (fun j x hj => hx' j x (by rw [hsplit]; simp [hj])), MI.2.1 t (fun j x hj _ => hx' j x hj)]
        have hPG' : PG P ops o M h := hPG.congr hcong (fun id => by rw [q3, MI.2.2])
        refine hPG'.wpOp ho hd hdn S1 (fun a' w' γ' bl' S' hB' => ?_)
        have hu2 : u = unl ops (listed.setIfInBounds i' true) := by have h8 : unl ops listed = unl ops (listed.setIfInBounds i' true) + 1 := unl_set hi; omega
        rw [hu2]
        refine ih (listed.setIfInBounds i' true) (.s d h :: M) a' w' γ' bl' (by rw [← hvs]; exact I.set hiB hi) ⟨fun j x hj hl t ht => ?_, fun t hfree => ?_, fun id => by rw [← MI.2.2]; rfl⟩ ?_ S' (hBw.trans hB')
        · by_cases hij : i' = j
          · subst hij
            have : d = t := by rw [hdst] at ht; exact Option.some.inj ht
            subst this
            have hxh : x = h := by
              have h1 : (i', x) ∈ vs := hj
              rw [hsplit] at h1
              rcases List.mem_append.1 h1 with h1 | h1
              · have := (nodup_split (by rw [← hBs]; exact hnB) (List.mem_map.2 ⟨(i', x), h1, rfl⟩)).1
                exact absurd rfl this
              · rcases List.mem_cons.1 h1 with e | h1
                · cases e; rfl
                · have hnn : (i' :: post.map (·.1)).Nodup := by
                    have := hnB; rw [hBs, List.nodup_append] at this; exact this.2.1
                  rw [List.nodup_cons] at hnn
                  exact absurd (List.mem_map.2 ⟨(i', x), h1, rfl⟩) hnn.1
            simp [get, hxh]
          · rw [getD_set_ne false hij] at hl
            have hne : d ≠ t := fun e => hij (dst_inj _ hnd hiB (List.mem_map.2 ⟨_, hj, rfl⟩) (by rw [hdst, e]) ht)
            simp only [get, if_neg hne]
            exact MI.1 j x hj hl t ht
        · have hne : d ≠ t := fun e => hfree i' h hmem (getD_set_self (getD_of_false hu).1 false) (by rw [hdst, e])
          simp only [get, if_neg hne]
          refine MI.2.1 t (fun j x hj hl => hfree j x hj (getD_set_true hl))
        · have h9 : (vs.map (·.1)).countP (fun j => !listed.getD j true) = (vs.map (·.1)).countP (fun j => !(listed.setIfInBounds i' true).getD j true) + 1 := countP_set hnB hiB hu
          rw [← hvs]
          omega
      · exact absurd ((hvs ▸ I).onlyT hbl (by rw [← hvs]; exact hiB) hi) hS

inductive PT where
  | lin (l : List Ph)
  | pre (p : Ph) (t : PT)
  | alt (l : List Nat) (t : Nat → PT)
  | till (S R : List Nat) (t : Nat → PT)
def phOK (ops : Array Oper) : Ph → Array Bool → Bool
  | .take i, listed => (match ops[i]? with | some o => isMove o | none => false) && Region.free .any ops listed i && (Region.ready .any ops listed).contains i
  | .batch B, listed => batchOK ops listed B
  | .one i, listed => Region.ready .any ops listed == [i]
def phSet : Ph → Array Bool → Array Bool
  | .take i, listed => listed.setIfInBounds i true
  | .batch B, listed => setAll listed B
  | .one i, listed => listed.setIfInBounds i true
def treeOK (ops : Array Oper) : PT → Array Bool → Bool
  | .lin l, listed => planOK ops l listed
  | .pre p t, listed => phOK ops p listed && treeOK ops t (phSet p listed)
  | .alt l t, listed => (Region.ready .any ops listed == l) && !l.isEmpty && l.all (fun i => treeOK ops (t i) (listed.setIfInBounds i true))
  | .till S R t, listed => tillOK ops listed S R && (List.range (R.length + 1)).all (fun r => treeOK ops (t r) (setAll listed (S ++ R.take r)))
def allL : List Nat → (Nat → Prop) → Prop
  | [], _ => True
  | i :: r, f => f i ∧ allL r f
def evR (P : Program) (ops : Array Oper) (f : Nat → HS → Prop) : List Nat → Nat → HS → Prop
  | [], k, σ => f k σ
  | i :: r, k, σ => f k σ ∧ match ops[i]? with
    | some o => evPG P ops o σ fun σ' => evR P ops f r (k + 1) σ'
    | none => False
def evPh (P : Program) (ops : Array Oper) (p : Ph) (σ : HS) (K : HS → Prop) : Prop :=
  match p with
  | .take i => match ops[i]? with
    | some o => evPG P ops o σ K
    | none => False
  | .batch B => evPs P ops B σ K
  | .one i => match ops[i]? with
    | some o => evG P ops o σ K
    | none => False
def evPT (P : Program) (ops : Array Oper) : PT → HS → (HS → Prop) → Prop
  | .lin l, σ, K => evPl P ops l σ K
  | .pre p t, σ, K => evPh P ops p σ fun σ' => evPT P ops t σ' K
  | .alt l t, σ, K => allL l fun i => match ops[i]? with
    | some o => evG P ops o σ fun σ' => evPT P ops (t i) σ' K
    | none => False
  | .till S R t, σ, K => evPs P ops S σ fun σ' => evR P ops (fun r σ' => evPT P ops (t r) σ' K) R 0 σ'
theorem allL_iff {f : Nat → Prop} : ∀ {l : List Nat}, allL l f ↔ ∀ i ∈ l, f i
  | [] => by simp [allL]
  | i :: r => by simp [allL, allL_iff (l := r)]
theorem evR_run {f : Nat → HS → Prop} : ∀ {R : List Nat} {k : Nat} {σ : HS}, (∀ i ∈ R, (dstOf ops i).isSome = true) → evR P ops f R k σ →
    ∃ us : List (Nat × HV), us.map (·.1) = R ∧ ∀ r, r ≤ R.length → ∃ Lr, RunA P ops σ.n (us.take r) σ.log Lr ∧ f (k + r) ⟨Lr, σ.n⟩
  | [], k, σ, _, h => ⟨[], rfl, fun r hr => ⟨σ.log, by simp [RunA], by
      obtain rfl : r = 0 := by simpa using hr
      exact h⟩⟩
  | i :: R, k, σ, hs, h => by
    obtain ⟨h0, h⟩ := h
    split at h
    · next o ho =>
      obtain ⟨x, σ', h1, h2, h3⟩ := evPG_ex h
      obtain ⟨d, hd⟩ := Option.isSome_iff_exists.1 (hs i (by simp))
      have hd' : o.dst = some d := by simpa [dstOf, ho] using hd
      rw [hd'] at h2
      obtain ⟨hlt, rfl⟩ := put_some h2
      obtain ⟨us, q1, q2⟩ := evR_run (fun j hj => hs j (by simp [hj])) h3
      refine ⟨(i, x) :: us, by simp [q1], fun r hr => ?_⟩
      cases r with
      | zero => exact ⟨σ.log, by simp [RunA], h0⟩
      | succ r =>
        obtain ⟨Lr, g1, g2⟩ := q2 r (by simpa using hr)
        exact ⟨Lr, ⟨o, d, ho, hd', hlt, h1, g1⟩, by rw [show k + (r + 1) = k + 1 + r by omega]; exact g2⟩
    · exact h.elim

theorem evPT_wp {Q : Exit → Act → World → Prop} (hs : Region.noSelect ops = true) (hQ : ∀ c a w, ¬ Q (.panic c) a w) {K : HS → Prop} {w0 : World}
    (hN : ∀ σ' a' w' γ' bl', K σ' → Sim D F σ' a' w' γ' bl' → Kept F w0 w' → Q .normal a' w') :
    ∀ (t : PT) (listed : Array Bool) (σ : HS) (a : Act) (w : World) (γ : Nat → Value) (bl : Nat → Option Nat), treeOK ops t listed = true → evPT P ops t σ K → Sim D F σ a w γ bl → Kept F w0 w →
      wpAny P .any ops Q (unl ops listed) listed a w
  | .lin l, listed, σ, a, w, γ, bl, hp, h, S, hB => wpAny_fuel _ _ _ _ _ (evPl_wp hs hQ hN l listed σ a w γ bl hp h S hB) (Nat.le_refl _)
  | .pre (.take i) t, listed, σ, a, w, γ, bl, hp, h, S, hB => by
    simp only [treeOK, phOK, phSet, Bool.and_eq_true] at hp
    obtain ⟨⟨⟨hm, hf⟩, hr⟩, hp⟩ := hp
    simp only [evPT, evPh] at h
    split at h
    · next o ho =>
      simp only [ho] at hm
      obtain ⟨v, σ', hy, hk, S'⟩ := take_yields hm h S
      rw [unl_set (by simpa using hr)]
      exact wpAny_take ho hs hf hr (fun c a w hq => absurd hq (hQ c _ _)) hy (evPT_wp hs hQ hN t _ σ' _ w γ bl hp hk S' hB)
    · exact h.elim
  | .pre (.batch B) t, listed, σ, a, w, γ, bl, hp, h, S, hB => by
    simp only [treeOK, phOK, phSet, Bool.and_eq_true] at hp
    obtain ⟨hbk, hp⟩ := hp
    simp only [evPT, evPh] at h
    have hbk' := hbk
    simp only [batchOK, Bool.and_eq_true] at hbk'
    obtain ⟨vs, L', rfl, hrun, hk⟩ := evPs_run (fun i hi => List.all_eq_true.1 hbk'.1.1.2 i hi) h
    have hfresh := topo_fresh hbk'.1.1.1.1
    have hall : (vs.map (·.1)).countP (fun j => !listed.getD j true) = (vs.map (·.1)).length := by
      rw [List.countP_eq_length]
      intro j hj
      rw [hfresh j hj]; rfl
    refine wpAny_fuel _ _ _ _ _ (batch_wp (w0 := w0) hbk hrun (fun a' w' γ' bl' S' hB' => evPT_wp hs hQ hN t _ ⟨L', σ.n⟩ a' w' γ' bl' hp hk S' hB') _ listed σ.log a w γ bl ⟨rfl, fun _ _ _ => rfl, fun i hi hl => ?_⟩ ⟨fun j x hj hl => ?_, fun _ _ => rfl, fun _ => rfl⟩ hall S hB) (Nat.le_refl _)
    · have := hfresh i hi
      rw [(getD_of_false this).2] at hl
      cases hl
    · have := hfresh j (List.mem_map.2 ⟨_, hj, rfl⟩)
      rw [(getD_of_false this).2] at hl
      cases hl
  | .pre (.one i) t, listed, σ, a, w, γ, bl, hp, h, S, hB => by
    simp only [treeOK, phOK, phSet, Bool.and_eq_true, beq_iff_eq] at hp
    simp only [evPT, evPh] at h
    split at h
    · next o ho =>
      rw [unl_set (i := i) (by rw [hp.1]; simp)]
      refine wpAny_all hp.1 (by simp) (fun j hj => ?_)
      obtain rfl : j = i := by simpa using hj
      exact evG_wpOp ho h S (fun σ' a' w' γ' bl' hk S' hB' => evPT_wp hs hQ hN t _ σ' a' w' γ' bl' hp.2 hk S' (hB.trans hB'))
    · exact h.elim
  | .alt l t, listed, σ, a, w, γ, bl, hp, h, S, hB => by
    simp only [treeOK, Bool.and_eq_true, beq_iff_eq] at hp
    obtain ⟨⟨hr, hne⟩, hall⟩ := hp
    simp only [evPT] at h
    have h := allL_iff.1 h
    obtain ⟨j0, hj0⟩ : ∃ j, j ∈ l := by
      cases l with
      | nil => simp at hne
      | cons j r => exact ⟨j, by simp⟩
    rw [unl_set (show j0 ∈ _ by rw [hr]; exact hj0)]
    refine wpAny_all hr (by rintro rfl; simp at hj0) (fun j hj => ?_)
    have hj' := h j hj
    split at hj'
    · next o ho =>
      have hu : unl ops (listed.setIfInBounds j0 true) = unl ops (listed.setIfInBounds j true) := by
        have h1 := unl_set (show j0 ∈ Region.ready .any ops listed by rw [hr]; exact hj0)
        have h2 := unl_set (show j ∈ Region.ready .any ops listed by rw [hr]; exact hj)
        omega
      rw [hu]
      exact evG_wpOp ho hj' S (fun σ' a' w' γ' bl' hk S' hB' => evPT_wp hs hQ hN (t j) _ σ' a' w' γ' bl' (List.all_eq_true.1 hall j hj) hk S' (hB.trans hB'))
    · exact hj'.elim
  | .till B R t, listed, σ, a, w, γ, bl, hp, h, S, hB => by
    simp only [treeOK, Bool.and_eq_true] at hp
    obtain ⟨hbk, hp⟩ := hp
    simp only [evPT] at h
    have hbk' := hbk
    simp only [tillOK, Bool.and_eq_true] at hbk'
    have hsome := fun i hi => List.all_eq_true.1 hbk'.1.1.1.2 i hi
    obtain ⟨vs, L', hvs, hrun, hk⟩ := evPs_run (fun i hi => hsome i (by simp [hi])) h
    obtain ⟨us, hus, hk⟩ := evR_run (fun i hi => hsome i (by simp [hi])) hk
    have hfresh := topo_fresh hbk'.1.1.1.1.1
    have hvu : (vs ++ us).map (·.1) = B ++ R := by rw [List.map_append, hvs, hus]
    obtain ⟨L2, hr2, _⟩ := hk R.length (Nat.le_refl _)
    have hlen : vs.length = B.length := by rw [← hvs, List.length_map]
    have hlen2 : us.length = R.length := by rw [← hus, List.length_map]
    rw [List.take_of_length_le (by omega)] at hr2
    refine till_wp (w0 := w0) hvu hbk (hrun.app hr2) (fun r Lr hr hLr a' w' γ' bl' S' hB' => ?_) _ listed σ.log a w γ bl ⟨rfl, fun _ _ _ => rfl, fun i hi hl => ?_⟩ ⟨fun j x hj hl => ?_, fun _ _ => rfl, fun _ => rfl⟩ rfl S hB
    · obtain ⟨L3, g1, g2⟩ := hk r hr
      have : L3 = Lr := by
        rw [← hlen, List.take_length_add_append] at hLr
        exact (hrun.app g1).fn hLr
      subst this
      rw [Nat.zero_add] at g2
      exact evPT_wp hs hQ hN (t r) _ ⟨L3, σ.n⟩ a' w' γ' bl' (List.all_eq_true.1 hp r (List.mem_range.2 (by omega))) g2 S' hB'
    · have := hfresh i hi
      rw [(getD_of_false this).2] at hl
      cases hl
    · have := hfresh j (by rw [← hvu]; exact List.mem_map.2 ⟨_, hj, rfl⟩)
      rw [(getD_of_false this).2] at hl
      cases hl

def drawTOK (P : Program) (ops : Array Oper) (t : PT) : Bool :=
  P.follows .mixedOrders && Region.noSelect ops && treeOK ops t (Array.replicate ops.size false)
theorem HT.drawT {id : Nat} {l : List Oper} {Q : Exit → HS → Prop} (t : PT) (hp : drawTOK P l.toArray t = true) (h : evPT P l.toArray t σ (Q .normal)) : HT P (.region id l.toArray true) σ Q := by
  simp only [drawTOK, Bool.and_eq_true] at hp
  obtain ⟨⟨hm, hs⟩, hp⟩ := hp
  intro D F a w γ bl S
  refine Code.wp_mono (Q := fun e a' w' => e = .normal ∧ ∃ σ', Q .normal σ' ∧ Kept F w w' ∧ ∃ γ' bl', Sim D F σ' a' w' γ' bl') (fun e a' w' ⟨he, hq⟩ => by subst he; exact hq) ?_
  refine wp_region_any hm ?_
  have hB : Kept F w { w with drawn := w.drawn + 1 } := ⟨rfl, rfl, rfl, Nat.le_refl _, fun _ _ => rfl⟩
  refine wpAny_fuel _ _ _ _ _ (evPT_wp (w0 := w) (Q := fun e a' w' => e = .normal ∧ ∃ σ', Q .normal σ' ∧ Kept F w w' ∧ ∃ γ' bl', Sim D F σ' a' w' γ' bl') hs (fun c a w hq => by cases hq.1) (fun σ' a' w' γ' bl' hk S' hB' => ⟨rfl, σ', hk, hB', γ', bl', S'⟩) t _ σ a { w with drawn := w.drawn + 1 } γ bl hp h (S.world (Nat.le_refl _) (fun _ _ => rfl)) hB) ?_
  unfold unl
  exact Nat.le_trans List.countP_le_length (by simp)
attribute [simp ↓] evPT evPh allL evR
end Go.Hv
