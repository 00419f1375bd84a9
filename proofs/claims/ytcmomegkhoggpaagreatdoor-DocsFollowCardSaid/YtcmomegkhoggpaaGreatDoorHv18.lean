import Derived.Test.YtcmomegkhoggpaaGreatDoorHv17
set_option linter.unusedVariables false
set_option linter.unusedSectionVars false
set_option linter.unusedSimpArgs false
namespace Go.Hv
open Go Go.RowKit
variable [GI]
variable {P : Program} {D : Nat → Prop} {F : Nat → Prop} {σ τ : HS} {a : Act} {w : World} {γ : Nat → Value} {bl : Nat → Option Nat}

structure Tag.{u} {α : Sort u} (x : α) : Type where
def HT (P : Program) (c : Code) (σ : HS) (Q : Exit → HS → Prop) (_ : Tag c := ⟨⟩) (_ : Tag Q := ⟨⟩) : Prop := ∀ D F a w γ bl, Sim D F σ a w γ bl →
 c.wp P (fun e a' w' => ∃ σ', Q e σ' ∧ Kept F w w' ∧ ∃ γ' bl', Sim D F σ' a' w' γ' bl') a w

theorem HT.mono {c : Code} {Q R : Exit → HS → Prop} (h : HT P c σ Q) (hq : ∀ e σ', Q e σ' → R e σ') : HT P c σ R :=
 fun D F a w γ bl S => Code.wp_mono (fun e a' w' ⟨σ', q, r⟩ => ⟨σ', hq e σ' q, r⟩) (h D F a w γ bl S)

def Exit.seqH (K : HS → Prop) (Q : Exit → HS → Prop) : Exit → HS → Prop
 | .normal, σ => K σ
 | e, σ => Q e σ
theorem HT.seq {x y : Code} {Q : Exit → HS → Prop} (h : HT P x σ (Exit.seqH (fun σ' => HT P y σ' Q) Q)) : HT P (.seq x y) σ Q := by
 intro D F a w γ bl S
 refine wp_seq (Code.wp_mono ?_ (h D F a w γ bl S))
 rintro e a' w' ⟨σ', q, hB, γ', bl', S'⟩
 cases e with
 | normal => exact Code.wp_mono (fun e a2 w2 ⟨σ2, q2, hB2, r⟩ => ⟨σ2, q2, hB.trans hB2, r⟩) (q D F a' w' γ' bl' S')
 | _ => exact ⟨σ', q, hB, γ', bl', S'⟩

theorem HT.skip {Q : Exit → HS → Prop} (h : Q .normal σ) : HT P .skip σ Q := fun D F a w γ bl S => wp_skip ⟨σ, h, Kept.refl _ _, γ, bl, S⟩
theorem HT.exit {id : Nat} {Q : Exit → HS → Prop} (h : Q (.exit id) σ) : HT P (.exit id) σ Q := fun D F a w γ bl S => wp_exit ⟨σ, h, Kept.refl _ _, γ, bl, S⟩
theorem HT.ret {Q : Exit → HS → Prop} (h : Q .ret σ) : HT P .ret σ Q := fun D F a w γ bl S => wp_ret ⟨σ, h, Kept.refl _ _, γ, bl, S⟩

theorem HT.cond {c : Operand} {x y : Code} {b : Bool} {Q : Exit → HS → Prop} (hc : opd σ.log c = .lit (.bool b)) (ht : b = true → HT P x σ Q) (hf : b = false → HT P y σ Q) : HT P (.cond c x y) σ Q := by
 intro D F a w γ bl S
 have r := S.opd c
 rw [hc] at r
 exact wp_cond_split r.lit_inv (fun h => ht h D F a w γ bl S) (fun h => hf h D F a w γ bl S)

def Exit.blockH (id : Nat) (Q : Exit → HS → Prop) : Exit → HS → Prop
 | .exit id', σ => if id' = id then Q .normal σ else Q (.exit id') σ
 | e, σ => Q e σ
theorem HT.block {id : Nat} {c : Code} {Q : Exit → HS → Prop} (h : HT P c σ (Exit.blockH id Q)) : HT P (.block id c) σ Q := by
 intro D F a w γ bl S
 refine wp_block (Code.wp_mono ?_ (h D F a w γ bl S))
 rintro e a' w' ⟨σ', q, r⟩
 cases e with
 | exit id' =>
  simp only [Exit.blockH, Exit.inBlock] at q ⊢
  split
  ·next h => rw [if_pos h] at q; exact ⟨σ', q, r⟩
  ·next h => rw [if_neg h] at q; exact ⟨σ', q, r⟩
 | _ => exact ⟨σ', q, r⟩

def HS.le (σ τ : HS) : Prop := ∀ D F a w γ bl, Sim D F σ a w γ bl → ∃ γ' bl', Sim D F τ a w γ' bl'
theorem HS.le.refl (σ : HS) : σ.le σ := fun D F a w γ bl S => ⟨γ, bl, S⟩
theorem HS.le.trans {ρ : HS} (h : σ.le τ) (k : τ.le ρ) : σ.le ρ := fun D F a w γ bl S => let ⟨γ', bl', S'⟩ := h D F a w γ bl S; k D F a w γ' bl' S'

theorem HT.weaken {c : Code} {Q : Exit → HS → Prop} (hl : σ.le τ) (h : HT P c τ Q) : HT P c σ Q := fun D F a w γ bl S => by
 obtain ⟨γ', bl', S'⟩ := hl D F a w γ bl S
 exact h D F a w γ' bl' S'

theorem HS.le_of {σ τ : HS} (hn : τ.n = σ.n) (he : ∀ t, get τ.log t = .any ∨ get τ.log t = get σ.log t) (ho : ∀ id, getO τ.log id = .gone ∨ getO τ.log id = getO σ.log id) : σ.le τ := by
 intro D F a w γ bl S
 have hd : ∀ b, dd D τ.log bl b → dd D σ.log bl b := by
  rintro b (h | ⟨i, hi, hb⟩)
  ·exact .inl h
  ·refine .inr ⟨i, ?_, hb⟩
   rcases ho i with h | h
   ·exact absurd h hi
   ·rwa [← h]
 refine ⟨γ, bl, S.hG, by rw [hn]; exact S.hn, S.hdf, S.hD, S.hbw, fun t => ?_, fun id => ?_, fun id b h1 h2 => ?_, fun id id' b h1 h2 h3 h4 => ?_⟩
 ·rcases he t with h | h
  ·rw [h]; exact .any _
  ·rw [h]; exact (S.henv t).mono (Nat.le_refl _) (fun _ _ _ => rfl) (fun b _ h => hd b h)
 ·rcases ho id with h | h
  ·rw [h]; trivial
  ·rw [h]
   exact ORel.other (Nat.le_refl _) (fun _ _ _ => rfl) (fun b _ h => hd b h) rfl rfl (fun _ _ _ => rfl) (fun h => h) (fun h v r => r.mono (Nat.le_refl _) (fun _ _ _ => rfl) (fun b _ h => hd b h)) (by cases getO σ.log id <;> simp) (S.hobj id)
 ·rcases ho id with h | h
  ·exact absurd h h1
  ·exact S.hblk id b (by rwa [h] at h1) h2
 ·rcases ho id with h | h
  ·exact absurd h h1
  ·rcases ho id' with h' | h'
   ·exact absurd h' h2
   ·exact S.hinj id id' b (by rwa [h] at h1) (by rwa [h'] at h2) h3 h4

theorem HT.loop {c : Code} {Q : Exit → HS → Prop} {ι : Type} (I : ι → HS) (μ : ι → Nat) (x₀ : ι) (h₀ : σ.le (I x₀))
  (round : ∀ x, HT P c (I x) (Exit.seqH (fun σ' => ∃ y, μ y < μ x ∧ σ'.le (I y)) Q)) : HT P (.loop c) σ Q := by
 intro D F a w γ bl S
 obtain ⟨γ0, bl0, S0⟩ := h₀ D F a w γ bl S
 refine wp_loop_ghost (fun n a' w' => ∃ x γ' bl', μ x = n ∧ Sim D F (I x) a' w' γ' bl' ∧ Kept F w w') (μ x₀) ⟨x₀, γ0, bl0, rfl, S0, Kept.refl _ _⟩ ?_
 rintro n a' w' ⟨x, γ', bl', rfl, S', hB⟩
 refine Code.wp_mono ?_ (round x D F a' w' γ' bl' S')
 rintro e a2 w2 ⟨σ2, q, hB2, γ2, bl2, S2⟩
 cases e with
 | normal =>
  obtain ⟨y, hlt, hle⟩ := q
  obtain ⟨γ3, bl3, S3⟩ := hle D F a2 w2 γ2 bl2 S2
  exact ⟨μ y, hlt, y, γ3, bl3, rfl, S3, hB.trans hB2⟩
 | _ => exact ⟨σ2, q, hB.trans hB2, γ2, bl2, S2⟩

/-! ### A region in the text's order -/
def isCall (o : Oper) : Bool :=
 match o.op with
 | .call c => match c.callee with
  | .value _ => true
  | _ => false
 | _ => false

def stepK {α : Type} (S : α → Prop) (K : α → Prop) (_ : Tag K := ⟨⟩) : Prop := ∃ x, S x ∧ K x
theorem stepK.mk {α : Type} {S : α → Prop} {K : α → Prop} {x : α} (s : S x) (k : K x) : stepK S K := ⟨x, s, k⟩
def evX (P : Program) (o : Oper) (σ : HS) (K : HS → Prop) : Prop :=
 if isNext o.op = true then nextK o σ K else if isNilCmp o.op = true then nilK P o σ K else if isPin o.op = true then pinK P o σ K else if isCall o = true then stepK (Step P o σ) K else match evOp P o σ with
  | some σ' => K σ'
  | none => False
def evG (P : Program) (ops : Array Oper) (o : Oper) (σ : HS) (K : HS → Prop) : Prop :=
 match o.guard with
 | none => evX P o σ K
 | some (j, want) => match (ops[j]?).bind (·.dst) with
  | some d => match get σ.log d with
   | .lit (.bool b) => if b = want then evX P o σ K else match σ.put o.dst (.lit (.tuple #[])) with
     | some σ' => K σ'
     | none => False
   | .lit (.tuple _) => match σ.put o.dst (.lit (.tuple #[])) with
     | some σ' => K σ'
     | none => False
   | _ => False
  | none => False
def evL (P : Program) (ops : Array Oper) : List Oper → HS → (HS → Prop) → Prop
 | [], σ, K => K σ
 | o :: r, σ, K => evG P ops o σ fun σ' => evL P ops r σ' K

theorem evC {o : Oper} {K : HS → Prop} (h : evX P o σ K) : OpK P o σ K := by
 unfold evX at h
 split at h
 ·exact nextK_ok h
 split at h
 ·next hc => exact nilK_ok hc h
 split at h
 ·exact pinK_ok h
 split at h
 ·obtain ⟨σ', hs, hk⟩ := h; exact hs.ok.toK hk
 ·split at h
  ·next σ' he => exact (Step.ok (.ev he)).toK h
  ·exact h.elim

theorem yielded_of {ops : Array Oper} {j d : Nat} {b : Bool} (hd : (ops[j]?).bind (·.dst) = some d) (hb : a.tmps.getD d undef = .bool b) : yielded ops a.tmps j = some b := by
 unfold yielded
 rw [hd]
 have hlt : d < a.tmps.size := by
  rcases Nat.lt_or_ge d a.tmps.size with h | h
  ·exact h
  ·simp [Array.getD_eq_getD_getElem?, Array.getElem?_eq_none h, undef] at hb
 have : a.tmps[d]? = some (.bool b) := by
  rw [Array.getElem?_eq_getElem hlt]
  rw [Array.getD_eq_getD_getElem?, Array.getElem?_eq_getElem hlt] at hb
  simpa using hb
 simp [this]

theorem yielded_undef {ops : Array Oper} {j d : Nat} {vs : Array Value} (hd : (ops[j]?).bind (·.dst) = some d) (hv : a.tmps.getD d undef = .tuple vs) : yielded ops a.tmps j = none := by
 unfold yielded
 rw [hd]
 rw [Array.getD_eq_getD_getElem?] at hv
 cases hc : a.tmps[d]? with
 | none => simp [hc]
 | some x => rw [hc] at hv; simp only [Option.getD_some] at hv; subst hv; simp [hc]
def Unwanted (L : List Ev) (d : Nat) (want : Bool) : Prop := (∃ b, b ≠ want ∧ get L d = .lit (.bool b)) ∨ ∃ vs, get L d = .lit (.tuple vs)
theorem Unwanted.yielded {ops : Array Oper} {j d : Nat} {want : Bool} (S : Sim D F σ a w γ bl) (hd : (ops[j]?).bind (·.dst) = some d) (h : Unwanted σ.log d want) : Go.yielded ops a.tmps j ≠ some want := by
 have := S.henv d
 rcases h with ⟨b, hne, hb⟩ | ⟨vs, hb⟩
 ·rw [hb] at this
  rw [yielded_of hd this.lit_inv]
  simpa using hne
 ·rw [hb] at this
  rw [yielded_undef hd this.lit_inv]
  simp

theorem evL_ok {ops : Array Oper} : ∀ (l : List Oper) (σ : HS) (K : HS → Prop), evL P ops l σ K → ∀ D F a w γ bl, Sim D F σ a w γ bl →
  ∀ Q : Exit → Act → World → Prop, (∀ σ' a' w' γ' bl', K σ' → Sim D F σ' a' w' γ' bl' → Kept F w w' → Q .normal a' w') → wpList P ops Q l a w
 | [], σ, K, h, D, F, a, w, γ, bl, S, Q, hQ => hQ σ a w γ bl h S (Kept.refl _ _)
 | o :: r, σ, K, h, D, F, a, w, γ, bl, S, Q, hQ => by
  have run : ∀ (K' : HS → Prop), OpK P o σ (fun σ' => evL P ops r σ' K) → ∀ NX : Act → World → Prop, (∀ a w, wpList P ops Q r a w → NX a w) → o.wp P a w NX Q := by
   rintro _ hs NX hNX
   exact hs D F a w γ bl S NX Q (fun σ' a' w' γ' bl' h' S' hB => hNX _ _ (evL_ok r σ' K h' D F a' w' γ' bl' S' Q (fun σ2 a2 w2 γ2 bl2 hk S2 hB2 => hQ σ2 a2 w2 γ2 bl2 hk S2 (hB.trans hB2))))
  simp only [evL, evG] at h
  refine wpList_step (fun NX hNX => ?_)
  split at h
  ·next hg => rw [if_pos (by simp [Region.wanted, hg])]; exact run K (evC h) NX hNX
  ·next j want hg =>
   split at h
   ·next d hd =>
    split at h
    ·next b hb =>
     have hy : yielded ops a.tmps j = some b := yielded_of hd (by have := S.henv d; rw [hb] at this; exact this.lit_inv)
     by_cases hbw : b = want
     ·rw [if_pos (by simp [Region.wanted, hg, hy, hbw])]
      rw [if_pos hbw] at h
      exact run K (evC h) NX hNX
     ·rw [if_neg (by simp [Region.wanted, hg, hy, hbw])]
      rw [if_neg hbw] at h
      have h2 := h
      split at h2
      ·next σ' hp => exact hNX _ _ (evL_ok r σ' K h2 D F _ w γ bl (S.put? hp (.imm (.lit _))) Q hQ)
      ·exact h2.elim
    ·next vs hb =>
     have hv : a.tmps.getD d undef = .tuple vs := by have := S.henv d; rw [hb] at this; exact this.lit_inv
     have hy : yielded ops a.tmps j = none := yielded_undef hd hv
     rw [if_neg (by simp [Region.wanted, hg, hy])]
     have h2 := h
     split at h2
     ·next σ' hp => exact hNX _ _ (evL_ok r σ' K h2 D F _ w γ bl (S.put? hp (.imm (.lit _))) Q hQ)
     ·exact h2.elim
    ·exact h.elim
   ·exact h.elim

theorem HT.region {id : Nat} {l : List Oper} {Q : Exit → HS → Prop} (h : evL P l.toArray l σ (Q .normal)) : HT P (.region id l.toArray false) σ Q := by
 intro D F a w γ bl S
 exact wp_region_lit (evL_ok l σ _ h D F a w γ bl S _ (fun σ' a' w' γ' bl' hk S' hB => ⟨σ', hk, hB, γ', bl', S'⟩))

/-! ### A function's contract out of its body -/
def initL : Nat → List HV → List Ev
 | _, [] => []
 | k, h :: r => .s k h :: initL (k + 1) r
theorem get_initL (hs : List HV) : ∀ (k t : Nat), get (initL k hs) t = if k ≤ t then (hs[t - k]?).getD .any else .any := by
 induction hs with
 | nil => intro k t; simp [initL, get]
 | cons h r ih =>
  intro k t
  simp only [initL, get]
  by_cases e : k = t
  ·subst e; simp
  ·rw [if_neg e, ih]
   by_cases h1 : k + 1 ≤ t
   ·rw [if_pos h1, if_pos (by omega), show t - k = (t - (k + 1)) + 1 by omega, List.getElem?_cons_succ]
   ·rw [if_neg h1, if_neg (by omega)]
theorem getO_initL (hs : List HV) : ∀ (k t : Nat), getO (initL k hs) t = .gone := by
 induction hs with
 | nil => intro k t; rfl
 | cons h r ih => intro k t; exact ih _ _

theorem PSpec.of_HT {f : FuncId} {fn : Func} {c : Code} {args : List HV} {R : (Nat → Prop) → (Nat → Prop) → Value → World → Prop} (hf : P.funcs[f]? = some fn) (hb : fn.body = some c) (hn : args.length ≤ fn.ntmps)
  {Q : Exit → HS → Prop} (h : HT P c ⟨initL 0 args, fn.ntmps⟩ Q)
  (hQ : ∀ e σ, Q e σ → (e = .normal ∨ e = .ret) ∧ ∀ D F a w γ bl, Sim D F σ a w γ bl → ∃ v, (results fn a.tmps).run P w = .ok v w ∧ R D F v w) : PSpec P f args R := by
 intro D w vs hD hG hsz hrep
 have S : Sim D (fun b => b < w.heap.size) ⟨initL 0 args, fn.ntmps⟩ { tmps := vs ++ Array.replicate (fn.ntmps - vs.size) undef, defers := [] } w (fun _ => undef) (fun _ => none) := by
  have hdd : ∀ b, dd D (initL 0 args) (fun _ => none) b → D b := by
   rintro b (h | ⟨i, h, _⟩)
   ·exact h
   ·exact absurd (getO_initL args 0 i) h
  refine ⟨GOK.all hG, by simp [hsz]; omega, rfl, hD, fun b h => h, fun t => ?_, fun id => by simp only [getO_initL]; trivial, fun id b h _ => absurd (getO_initL args 0 id) h, fun id _ _ h _ _ _ => absurd (getO_initL args 0 id) h⟩
  rw [get_initL, if_pos (Nat.zero_le _), Nat.sub_zero]
  cases ht : args[t]? with
  | none => exact .any _
  | some x =>
   have hlt := getElem?_lt ht
   have hv : vs[t]? = some (vs[t]'(by omega)) := Array.getElem?_eq_getElem (by omega)
   have : (vs ++ Array.replicate (fn.ntmps - vs.size) undef).getD t undef = vs[t]'(by omega) := by
    rw [Array.getD_eq_getD_getElem?, Array.getElem?_append_left (by omega), hv]; rfl
   rw [this]
   exact .imm ((hrep t x _ ht hv).mono (Nat.le_refl _) (fun _ _ _ => rfl) (fun b _ h => hdd b h))
 refine calls_of_wp hf hb (Code.wp_mono ?_ (h D _ _ w _ _ S))
 rintro e a' w' ⟨σ', q, hB, γ', bl', S'⟩
 obtain ⟨he, hr⟩ := hQ e σ' q
 obtain ⟨v, hv, hR⟩ := hr D _ a' w' γ' bl' S'
 rcases he with rfl | rfl
 ·exact ⟨S'.hdf, v, hv, v, rfl, hB, hR⟩
 ·exact ⟨S'.hdf, v, hv, v, rfl, hB, hR⟩

def resHV (P : Program) (L : List Ev) : ResultVar → Option HV
 | .tmp t => some (get L t)
 | .cell a t => loadHV P L t (get L a)
def rvRun (tmps : Array Value) : ResultVar → Sem Value
 | .tmp t => pure (tmps.getD t undef)
 | .cell a t => do loadVar t (← asAddr (tmps.getD a undef))
theorem resHV_run (S : Sim D F σ a w γ bl) {r : ResultVar} {h : HV} (e : resHV P σ.log r = some h) : ∃ v, (rvRun a.tmps r).run P w = .ok v w ∧ SRep w (dd D σ.log bl) γ bl h v := by
 cases r with
 | tmp t => simp only [resHV, Option.some.injEq] at e; subst e; exact ⟨_, rfl, S.henv t⟩
 | cell ad t =>
  simp only [resHV, loadHV] at e
  split at e
  ·next ag n hI =>
   split at e
   ·next cs hc =>
    obtain ⟨v, hr, hv⟩ := load_rep (P := P) hI S hc e (S.henv ad)
    obtain ⟨_, b, off, _, hp, _⟩ := cellsAt_rep S hc (S.henv ad)
    refine ⟨v, ?_, hv⟩
    show (do loadVar t (← asAddr (a.tmps.getD ad undef)) : Sem Value).run P w = _
    rw [hp] at hr ⊢
    simpa [Instr.loadAt, Instr.sureAddr, asAddr] using hr
   ·cases e
  ·cases e
theorem results_one {fn : Func} {r : ResultVar} (h : fn.results = #[r]) {v : Value} (hr : (rvRun a.tmps r).run P w = .ok v w) : (results fn a.tmps).run P w = .ok v w := by
 unfold results
 rw [h, Array.mapM_eq_mapM_toList]
 have : (([r] : List ResultVar).mapM (rvRun a.tmps)).run P w = .ok [v] w := by simp [List.mapM_cons, hr]
 show (do let vs ← List.toArray <$> (([r] : List ResultVar).mapM (rvRun a.tmps)); pure (if h : vs.size = 1 then vs[0] else .tuple vs) : Sem Value).run P w = _
 simp [this, hr]
theorem mapM_run {rs : List ResultVar} : ∀ {hs : List HV}, (S : Sim D F σ a w γ bl) → rs.mapM (resHV P σ.log) = some hs →
  ∃ vs, (rs.mapM (rvRun a.tmps)).run P w = .ok vs w ∧ vs.length = hs.length ∧ ∀ (j : Nat) (c : HV) (v : Value), hs[j]? = some c → vs[j]? = some v → SRep w (dd D σ.log bl) γ bl c v := by
 induction rs with
 | nil => intro hs S e; simp at e; subst e; exact ⟨[], by simp, rfl, fun j c v h => by simp at h⟩
 | cons r rs ih =>
  intro hs S e
  simp only [List.mapM_cons, Option.bind_eq_bind, Option.bind_eq_some_iff, Option.pure_def, Option.some.injEq] at e
  obtain ⟨h, h1, hs', h2, rfl⟩ := e
  obtain ⟨v, k1, k2⟩ := resHV_run S h1
  obtain ⟨vs, q1, q2, q3⟩ := ih S h2
  refine ⟨v :: vs, by simp [List.mapM_cons, k1, q1], by simp [q2], fun j c u hc hu => ?_⟩
  cases j with
  | zero => simp at hc hu; subst hc; subst hu; exact k2
  | succ j => exact q3 j c u (by simpa using hc) (by simpa using hu)
theorem results_many {fn : Func} {rs : List ResultVar} (h : fn.results = rs.toArray) (hl : rs.length ≠ 1) {vs : List Value} (hvl : vs.length = rs.length) (hr : (rs.mapM (rvRun a.tmps)).run P w = .ok vs w) : (results fn a.tmps).run P w = .ok (.tuple vs.toArray) w := by
 unfold results
 rw [h, Array.mapM_eq_mapM_toList]
 show (do let vs ← List.toArray <$> (rs.mapM (rvRun a.tmps)); pure (if h : vs.size = 1 then vs[0] else .tuple vs) : Sem Value).run P w = _
 simp [hr, show ¬ vs.length = 1 by omega]

def Ret1 (P : Program) (r : ResultVar) (h : HV) (e : Exit) (σ : HS) : Prop := (e = .normal ∨ e = .ret) ∧ ∃ x, resHV P σ.log r = some x ∧ rd σ.log x = some h
theorem Spec1.of_HT {f : FuncId} {fn : Func} {c : Code} {args : List HV} {r : ResultVar} {h : HV} (hf : P.funcs[f]? = some fn) (hb : fn.body = some c) (hn : args.length ≤ fn.ntmps) (hr : fn.results = #[r])
  (H : HT P c ⟨initL 0 args, fn.ntmps⟩ (Ret1 P r h)) : Spec1 P f args h :=
 PSpec.of_HT hf hb hn H (fun e σ ⟨he, x, h1, h2⟩ => ⟨he, fun D F a w γ bl S => by
  obtain ⟨v, k1, k2⟩ := resHV_run S h1
  exact ⟨v, results_one hr k1, rd_rep S h2 k2⟩⟩)
def RetT (P : Program) (rs : List ResultVar) (hs : List HV) (e : Exit) (σ : HS) : Prop := (e = .normal ∨ e = .ret) ∧ ∃ xs, rs.mapM (resHV P σ.log) = some xs ∧ rdL σ.log xs = some hs
theorem mapM_length {α β : Type} (f : α → Option β) : ∀ {l : List α} {r : List β}, l.mapM f = some r → r.length = l.length
 | [], r, h => by simp at h; subst h; rfl
 | x :: l, r, h => by
  simp only [List.mapM_cons, Option.bind_eq_bind, Option.bind_eq_some_iff, Option.pure_def, Option.some.injEq] at h
  obtain ⟨y, _, r', h2, rfl⟩ := h
  simp [mapM_length f h2]
theorem SpecT.of_HT {f : FuncId} {fn : Func} {c : Code} {args : List HV} {rs : List ResultVar} {hs : List HV} (hf : P.funcs[f]? = some fn) (hb : fn.body = some c) (hn : args.length ≤ fn.ntmps) (hr : fn.results = rs.toArray) (hl : rs.length ≠ 1)
  (H : HT P c ⟨initL 0 args, fn.ntmps⟩ (RetT P rs hs)) : SpecT P f args hs :=
 PSpec.of_HT hf hb hn H (fun e σ ⟨he, xs, h1, h2⟩ => ⟨he, fun D F a w γ bl S => by
  obtain ⟨vs, k1, k2, k3⟩ := mapM_run S h1
  obtain ⟨q1, q2⟩ := rdL_get h2
  refine ⟨_, results_many hr hl (by rw [k2, mapM_length _ h1]) k1, vs.toArray, rfl, by simp [k2, q1], fun j c u hc hu => ?_⟩
  obtain ⟨c0, h0, hh⟩ := q2 j c hc
  exact rd_rep S hh (k3 j c0 u h0 (by simpa using hu))⟩)
def RetO (P : Program) (r : ResultVar) (e sz : Nat) (es : List (List HV)) (x : Exit) (σ : HS) : Prop := (x = .normal ∨ x = .ret) ∧ isILL es = true ∧ ∃ id, resHV P σ.log r = some (.ref id) ∧ getO σ.log id = .row e sz es
theorem SpecO.of_HT {f : FuncId} {fn : Func} {c : Code} {args : List HV} {r : ResultVar} {e sz : Nat} {es : List (List HV)} (hf : P.funcs[f]? = some fn) (hb : fn.body = some c) (hn : args.length ≤ fn.ntmps) (hr : fn.results = #[r])
  (H : HT P c ⟨initL 0 args, fn.ntmps⟩ (RetO P r e sz es)) : SpecO P f args e sz es :=
 PSpec.of_HT hf hb hn H (fun x σ ⟨he, hIL, id, h1, h2⟩ => ⟨he, fun D F a w γ bl S => by
  obtain ⟨v, k1, k2⟩ := resHV_run S h1
  cases k2 with
  | imm hi => cases hi
  | ref _ hone =>
   have hlive : getO σ.log id ≠ .gone := by rw [h2]; simp
   have R := S.hobj id
   rw [h2] at R
   refine ⟨_, results_one hr k1, hone, bl id, hIL, fun b hb => S.hblk id b hlive hb, ?_⟩
   have hdd : ∀ b, (D b ∨ bl id = some b) → dd D σ.log bl b := by
    rintro b (h | h)
    ·exact .inl h
    ·exact .inr ⟨id, hlive, h⟩
   obtain ⟨q1, q2, q3⟩ := R
   refine ⟨q1, q2, ?_⟩
   rcases q3 with ⟨z1, z2, z3⟩ | ⟨b, cap, C, fr, z1, z2, z3, z4, z5, z6, z7, z8, z9⟩
   ·exact .inl ⟨z1, z2, z3⟩
   ·exact .inr ⟨b, cap, C, fr, z1, z2, z3, z4, z5, z6, z7, z8, fun i j x c hx hc => by
     obtain ⟨u, hu, hr⟩ := z9 i j x c hx hc
     exact ⟨u, hu, .imm ((hr.toI ((isIL_iff _).1 (List.all_eq_true.1 hIL x (List.mem_of_getElem? hx)) c (List.mem_of_getElem? hc))).mono (Nat.le_refl _) (fun _ _ _ => rfl) (fun b _ h => hdd b h))⟩⟩⟩)
def RetM (P : Program) (r : ResultVar) (es : List (HV × HV)) (x : Exit) (σ : HS) : Prop := (x = .normal ∨ x = .ret) ∧ isIM es = true ∧ ∃ id, resHV P σ.log r = some (.mref id) ∧ getO σ.log id = .map es
theorem SpecM.of_HT {f : FuncId} {fn : Func} {c : Code} {args : List HV} {r : ResultVar} {es : List (HV × HV)} (hf : P.funcs[f]? = some fn) (hb : fn.body = some c) (hn : args.length ≤ fn.ntmps) (hr : fn.results = #[r])
  (H : HT P c ⟨initL 0 args, fn.ntmps⟩ (RetM P r es)) : SpecM P f args es :=
 PSpec.of_HT hf hb hn H (fun x σ ⟨he, hIM, id, h1, h2⟩ => ⟨he, fun D F a w γ bl S => by
  obtain ⟨v, k1, k2⟩ := resHV_run S h1
  cases k2 with
  | imm hi => cases hi
  | @mref _ b hb0 =>
   have hlive : getO σ.log id ≠ .gone := by rw [h2]; simp
   have R := S.hobj id
   rw [h2] at R
   obtain ⟨b', ents, clock, q1, q2, q3, q4, q5, q6⟩ := R
   rw [hb0] at q1
   obtain rfl := Option.some.inj q1
   have hbk := S.hblk id b hlive hb0
   refine ⟨_, results_one hr k1, b, rfl, hIM, hbk.1, hbk.2, ?_⟩
   have hdd : ∀ x, (D x ∨ x = b) → dd D σ.log bl x := by
    rintro x (h | rfl)
    ·exact .inl h
    ·exact .inr ⟨id, hlive, hb0⟩
   exact ⟨b, ents, clock, rfl, q2, q3, q4, q5, fun i k x e hx he => ⟨(q6 i k x e hx he).1.mono (Nat.le_refl _) (fun _ _ _ => rfl) (fun b _ h => hdd b h),
    .imm (((q6 i k x e hx he).2.toI (List.all_eq_true.1 hIM (k, x) (List.mem_of_getElem? hx))).mono (Nat.le_refl _) (fun _ _ _ => rfl) (fun b _ h => hdd b h))⟩⟩⟩)
end Go.Hv
