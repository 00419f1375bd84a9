import Derived.Test.YtcmomegkhoggpaaGreatDoorHv22
set_option linter.unusedVariables false
set_option linter.unusedSectionVars false
set_option linter.unusedSimpArgs false
namespace Go.Hv
open Go Go.RowKit
variable [GI]
variable {P : Program} {D : Nat → Prop} {F : Nat → Prop} {σ : HS} {a : Act} {w : World} {γ : Nat → Value} {bl : Nat → Option Nat} {ops : Array Oper}

/-! ### A batch of a drawn region: operations that only fill slots, in whatever order -/
def preds (ops : Array Oper) (i : Nat) : List Nat :=
 match ops[i]? with
 | some o => (o.after.toList.filter (Region.binds .any)).map (·.on)
 | none => []
def dstOf (ops : Array Oper) (i : Nat) : Option Nat := (ops[i]?).bind (·.dst)
def looksOf (ops : Array Oper) (i : Nat) : List Nat :=
 match ops[i]? with
 | some o => o.looksAt ops
 | none => []
def topo (ops : Array Oper) : Array Bool → List Nat → Bool
 | _, [] => true
 | cur, i :: r => (cur.getD i true == false) && (preds ops i).all (fun e => cur.getD e false) && topo ops (cur.setIfInBounds i true) r
def setAll (l : Array Bool) (B : List Nat) : Array Bool := B.foldl (fun l i => l.setIfInBounds i true) l
def reachB (ops : Array Oper) : List Nat → List Nat → List Nat
 | [], R => R
 | i :: r, R => reachB ops r (if R.contains i then R ++ preds ops i else R)
def readsOK (ops : Array Oper) (B : List Nat) : Bool :=
 B.all fun i => B.all fun j => i == j || (match dstOf ops j with
  | some t => !(looksOf ops i).contains t || (preds ops i).contains j || (preds ops j).contains i
  | none => false)
def blocked (ops : Array Oper) (listed : Array Bool) (B : List Nat) (k : Nat) : Bool :=
 B.contains k || listed.getD k true || (preds ops k).any (fun e => !B.contains e && !listed.getD e false) || B.all fun b => (reachB ops B.reverse (preds ops k)).contains b
def batchOK (ops : Array Oper) (listed : Array Bool) (B : List Nat) : Bool :=
 topo ops listed B && decide (B.filterMap (dstOf ops)).Nodup && B.all (fun i => (dstOf ops i).isSome) && readsOK ops B && (List.range ops.size).all (blocked ops listed B)

theorem mem_preds {i e : Nat} : e ∈ preds ops i ↔ ∃ o, ops[i]? = some o ∧ ∃ x ∈ o.after, Region.binds .any x = true ∧ x.on = e := by
 unfold preds
 cases h : ops[i]? with
 | none => simp
 | some o => simp [and_assoc]
theorem ready_iff {listed : Array Bool} {i : Nat} : i ∈ Region.ready .any ops listed ↔ listed.getD i true = false ∧ (∃ o, ops[i]? = some o) ∧ ∀ e ∈ preds ops i, listed.getD e false = true := by
 rw [mem_ready]
 constructor
 ·rintro ⟨h0, o, ho, h⟩
  refine ⟨h0, ⟨o, ho⟩, fun e he => ?_⟩
  obtain ⟨o', ho', x, hx, hb, rfl⟩ := mem_preds.1 he
  obtain rfl : o' = o := by rw [ho] at ho'; exact (Option.some.inj ho').symm
  exact h x hx hb
 ·rintro ⟨h0, ⟨o, ho⟩, h⟩
  exact ⟨h0, o, ho, fun x hx hb => h _ (mem_preds.2 ⟨o, ho, x, hx, hb, rfl⟩)⟩

theorem getD_of_false {l : Array Bool} {i : Nat} (h : l.getD i true = false) : i < l.size ∧ l.getD i false = false := by
 rcases Nat.lt_or_ge i l.size with hlt | hge
 ·exact ⟨hlt, by simp [hlt] at h ⊢; exact h⟩
 ·simp [Array.getElem?_eq_none hge] at h
theorem getD_true_false {l : Array Bool} {i : Nat} (hlt : i < l.size) : l.getD i true = l.getD i false := by simp [hlt]
theorem getD_set_self {l : Array Bool} {i : Nat} (h : i < l.size) (d : Bool) : (l.setIfInBounds i true).getD i d = true := by simp [h]

structure BInv (ops : Array Oper) (B : List Nat) (listed0 listed : Array Bool) : Prop where
 size : listed.size = listed0.size
 out : ∀ k d, k ∉ B → listed.getD k d = listed0.getD k d
 down : ∀ i ∈ B, listed.getD i false = true → ∀ e ∈ preds ops i, listed.getD e false = true

theorem topo_split {cur : Array Bool} {pre post : List Nat} {i : Nat} (h : topo ops cur (pre ++ i :: post) = true) : ∀ e ∈ preds ops i, cur.getD e false = true ∨ e ∈ pre := by
 induction pre generalizing cur with
 | nil =>
  simp only [List.nil_append, topo, Bool.and_eq_true, List.all_eq_true] at h
  exact fun e he => .inl (h.1.2 e he)
 | cons j pre ih =>
  simp only [List.cons_append, topo, Bool.and_eq_true] at h
  intro e he
  rcases ih h.2 e he with h1 | h1
  ·by_cases hj : j = e
   ·exact .inr (by simp [hj])
   ·rw [getD_set_ne false hj] at h1; exact .inl h1
  ·exact .inr (by simp [h1])
theorem topo_fresh {cur : Array Bool} {B : List Nat} (h : topo ops cur B = true) : ∀ i ∈ B, cur.getD i true = false := by
 induction B generalizing cur with
 | nil => simp
 | cons j r ih =>
  simp only [topo, Bool.and_eq_true, beq_iff_eq] at h
  intro i hi
  rcases List.mem_cons.1 hi with rfl | hi
  ·exact h.1.1
  ·have := ih h.2 i hi
   by_cases hj : j = i
   ·subst hj; exact h.1.1
   ·rwa [getD_set_ne true hj] at this
theorem topo_next {cur listed : Array Bool} {B : List Nat} (h : topo ops cur B = true) (hs : cur.size = listed.size) (hc : ∀ e, cur.getD e false = true → listed.getD e false = true) (hx : ∃ i ∈ B, listed.getD i true = false) :
  ∃ i ∈ B, listed.getD i true = false ∧ ∀ e ∈ preds ops i, listed.getD e false = true := by
 induction B generalizing cur with
 | nil => obtain ⟨i, hi, _⟩ := hx; simp at hi
 | cons j r ih =>
  simp only [topo, Bool.and_eq_true, List.all_eq_true] at h
  cases hj : listed.getD j true with
  | false => exact ⟨j, by simp, hj, fun e he => hc e (h.1.2 e he)⟩
  | true =>
   obtain ⟨i, hi, hu⟩ := hx
   rcases List.mem_cons.1 hi with rfl | hi
   ·rw [hj] at hu; cases hu
   ·obtain ⟨i', hi', h'⟩ := ih h.2 (by simpa using hs) (fun e he => by
     by_cases hje : j = e
     ·subst hje
      rcases Nat.lt_or_ge j listed.size with hlt | hge
      ·rw [← getD_true_false hlt]; exact hj
      ·exfalso
       have hge' : cur.size ≤ j := by omega
       simp [hge'] at he
     ·rw [getD_set_ne false hje] at he; exact hc e he) ⟨i, hi, hu⟩
    exact ⟨i', by simp [hi'], h'⟩
theorem reach_listed {listed : Array Bool} : ∀ (l R : List Nat), (∀ i ∈ l, listed.getD i false = true → ∀ e ∈ preds ops i, listed.getD e false = true) → (∀ x ∈ R, listed.getD x false = true) → ∀ x ∈ reachB ops l R, listed.getD x false = true
 | [], R, _, hR, x, hx => hR x hx
 | i :: r, R, hd, hR, x, hx => by
  simp only [reachB] at hx
  refine reach_listed r _ (fun j hj => hd j (by simp [hj])) (fun y hy => ?_) x hx
  split at hy
  ·next hc =>
   rcases List.mem_append.1 hy with hy | hy
   ·exact hR y hy
   ·exact hd i (by simp) (hR i (by simpa using hc)) y hy
  ·exact hR y hy
theorem BInv.only {B : List Nat} {listed0 listed : Array Bool} (I : BInv ops B listed0 listed) (hb : (List.range ops.size).all (blocked ops listed0 B) = true) {k : Nat} (hk : k ∉ B) (hr : k ∈ Region.ready .any ops listed) : ∀ b ∈ B, listed.getD b false = true := by
 obtain ⟨h0, ⟨o, ho⟩, hp⟩ := ready_iff.1 hr
 have hlt : k < ops.size := (Array.getElem?_eq_some_iff.1 ho).1
 have := List.all_eq_true.1 hb k (List.mem_range.2 hlt)
 simp only [blocked, Bool.or_eq_true] at this
 rcases this with ((h | h) | h) | h
 ·exact absurd (by simpa using h) hk
 ·rw [← I.out k true hk, h0] at h; cases h
 ·obtain ⟨e, he, hx⟩ := List.any_eq_true.1 h
  simp only [Bool.and_eq_true, Bool.not_eq_true', List.contains_eq_mem, decide_eq_false_iff_not] at hx
  have := hp e he
  rw [I.out e false hx.1, hx.2] at this
  cases this
 ·intro b hbB
  have := List.all_eq_true.1 h b hbB
  exact reach_listed B.reverse _ (fun i hi => I.down i (by simpa using hi)) hp b (by simpa using this)
theorem BInv.set {B : List Nat} {listed0 listed : Array Bool} (I : BInv ops B listed0 listed) {i : Nat} (hi : i ∈ B) (hr : i ∈ Region.ready .any ops listed) : BInv ops B listed0 (listed.setIfInBounds i true) := by
 refine ⟨by simp [I.size], fun k d hk => ?_, fun j hj hl e he => ?_⟩
 ·rw [getD_set_ne d (fun (h : i = k) => hk (by rw [← h]; exact hi))]; exact I.out k d hk
 ·obtain ⟨_, _, hp⟩ := ready_iff.1 hr
  by_cases hij : i = j
  ·subst hij; exact getD_set_true (hp e he)
  ·rw [getD_set_ne false hij] at hl
   exact getD_set_true (I.down j hj hl e he)

def RunA (P : Program) (ops : Array Oper) (n : Nat) : List (Nat × HV) → List Ev → List Ev → Prop
 | [], L, L' => L' = L
 | (i, h) :: r, L, L' => ∃ o d, ops[i]? = some o ∧ o.dst = some d ∧ d < n ∧ PG P ops o L h ∧ RunA P ops n r (.s d h :: L) L'
theorem RunA.views {n : Nat} : ∀ {vs : List (Nat × HV)} {L L' : List Ev}, (vs.filterMap (fun p => dstOf ops p.1)).Nodup → RunA P ops n vs L L' →
  (∀ j h t, (j, h) ∈ vs → dstOf ops j = some t → get L' t = h) ∧ (∀ t, (∀ j h, (j, h) ∈ vs → dstOf ops j ≠ some t) → get L' t = get L t) ∧ ∀ id, getO L' id = getO L id
 | [], L, L', _, hr => by simp only [RunA] at hr; subst hr; exact ⟨by simp, fun _ _ => rfl, fun _ => rfl⟩
 | (i, h) :: r, L, L', hn, hr => by
  obtain ⟨o, d, ho, hd, hdn, hp, hr⟩ := hr
  have hdi : dstOf ops i = some d := by simp [dstOf, ho, hd]
  rw [List.filterMap_cons_some (b := d) (by simpa using hdi), List.nodup_cons] at hn
  obtain ⟨q1, q2, q3⟩ := RunA.views hn.2 hr
  have hfree : ∀ j h', (j, h') ∈ r → dstOf ops j ≠ some d := fun j h' hj e => hn.1 (List.mem_filterMap.2 ⟨(j, h'), hj, e⟩)
  refine ⟨fun j h' t hj ht => ?_, fun t ht => ?_, fun id => by rw [q3]; rfl⟩
  ·rcases List.mem_cons.1 hj with e | hj
   ·cases e
    obtain rfl : d = t := by rw [hdi] at ht; exact Option.some.inj ht
    rw [q2 d hfree]; simp [get]
   ·exact q1 j h' t hj ht
  ·rw [q2 t (fun j h' hj => ht j h' (by simp [hj]))]
   have : d ≠ t := fun e => ht i h (by simp) (by rw [hdi, e])
   simp [get, this]
theorem RunA.split {n : Nat} : ∀ {pre post : List (Nat × HV)} {i : Nat} {h : HV} {L L' : List Ev}, RunA P ops n (pre ++ (i, h) :: post) L L' → ∃ M o d, RunA P ops n pre L M ∧ ops[i]? = some o ∧ o.dst = some d ∧ d < n ∧ PG P ops o M h
 | [], post, i, h, L, L', hr => by
  obtain ⟨o, d, ho, hd, hdn, hp, _⟩ := hr
  exact ⟨L, o, d, rfl, ho, hd, hdn, hp⟩
 | (j, x) :: pre, post, i, h, L, L', hr => by
  obtain ⟨o, d, ho, hd, hdn, hp, hr⟩ := hr
  obtain ⟨M, o', d', h1, h2⟩ := RunA.split hr
  exact ⟨M, o', d', ⟨o, d, ho, hd, hdn, hp, h1⟩, h2⟩
end Go.Hv
