import Derived.Test.YtcmomegkhoggpaaGreatDoorHv24
set_option linter.unusedVariables false
set_option linter.unusedSectionVars false
set_option linter.unusedSimpArgs false
namespace Go.Hv
open Go Go.RowKit
variable [GI]
variable {P : Program} {D : Nat → Prop} {F : Nat → Prop} {σ : HS} {a : Act} {w : World} {γ : Nat → Value} {bl : Nat → Option Nat} {ops : Array Oper}

theorem run_sliceBoundsU (w1 : World) (S : Sim D F σ a w γ bl) {isS : Bool} {lo hi mx : Option Operand} {l h m : Option Int} (el : boundOf σ.log lo = some l) (eh : boundOf σ.log hi = some h) (em : boundOf σ.log mx = some m)
  {len cap : Nat} (hlc : len ≤ cap) (h0 : 0 ≤ l.getD 0) (h1 : l.getD 0 ≤ h.getD len) (h2 : h.getD len ≤ len) (hm : m = none ∨ (h ≠ none ∧ m = h)) :
  (Instr.sliceBounds isS len cap (lo.map a.eval) (hi.map a.eval) (mx.map a.eval)).run P w1 = .ok ((l.getD 0).toNat, (h.getD len).toNat, capOf m cap) w1 := by
 unfold Instr.sliceBounds
 rcases boundOf_rep S el with ⟨rfl, rfl⟩ | ⟨xl, kl, il, rfl, rfl, hl⟩ <;>
 rcases boundOf_rep S eh with ⟨rfl, rfl⟩ | ⟨xh, kh, ih, rfl, rfl, hh⟩ <;>
 rcases boundOf_rep S em with ⟨rfl, rfl⟩ | ⟨xm, km, im, rfl, rfl, hmx⟩ <;>
 simp only [Option.getD_some, Option.getD_none, Option.map_some, Option.map_none, capOf] at * <;>
 first
 | (rcases hm with hm | ⟨hm, _⟩ <;> first | cases hm | exact absurd rfl hm)
 | skip
 ·simp
 ·simp [hh, run_sliceBound (P := P) (w := w1) (show 0 ≤ ih by omega) (show ih ≤ (cap : Nat) by omega)]
 ·have : im = ih := by rcases hm with hm | ⟨_, hm⟩; cases hm; exact Option.some.inj hm
  subst this
  simp [hh, hmx, run_sliceBound (P := P) (w := w1) (show 0 ≤ im by omega) (show im ≤ (cap : Nat) by omega), run_sliceBound (P := P) (w := w1) (y := im.toNat) (show 0 ≤ im by omega) (show im ≤ (im.toNat : Nat) by omega)]
 ·simp [hl, run_sliceBound (P := P) (w := w1) (show 0 ≤ il by omega) (show il ≤ (len : Nat) by omega)]
 ·simp [hl, hh, run_sliceBound (P := P) (w := w1) (show 0 ≤ ih by omega) (show ih ≤ (cap : Nat) by omega), run_sliceBound (P := P) (w := w1) (y := ih.toNat) (show 0 ≤ il by omega) (show il ≤ (ih.toNat : Nat) by omega)]
 ·have : im = ih := by rcases hm with hm | ⟨_, hm⟩; cases hm; exact Option.some.inj hm
  subst this
  simp [hl, hh, hmx, run_sliceBound (P := P) (w := w1) (show 0 ≤ im by omega) (show im ≤ (cap : Nat) by omega), run_sliceBound (P := P) (w := w1) (y := im.toNat) (show 0 ≤ im by omega) (show im ≤ (im.toNat : Nat) by omega), run_sliceBound (P := P) (w := w1) (y := im.toNat) (show 0 ≤ il by omega) (show il ≤ (im.toNat : Nat) by omega)]
theorem sliceSl_any (S : Sim D F σ a w γ bl) {t : Nat} {x h : HV} {lo hi mx : Option Operand} {l hh m : Option Int} (el : boundOf σ.log lo = some l) (eh : boundOf σ.log hi = some hh) (em : boundOf σ.log mx = some m)
  (e : sliceSlHV P t x l hh m = some h) {v : Value} {dead : Nat → Prop} (r : IRep w dead x v) :
  ∃ u, (∀ w1, (Instr.sliceAt t v (lo.map a.eval) (hi.map a.eval) (mx.map a.eval)).run P w1 = .ok u w1) ∧ IRep w dead h u := by
 obtain ⟨u, hr, hv⟩ := sliceSl_run S el eh em e r
 have key : ∃ u0, ∀ w1, (Instr.sliceAt t v (lo.map a.eval) (hi.map a.eval) (mx.map a.eval)).run P w1 = .ok u0 w1 := by
  unfold sliceSlHV at e
  split at e
  ·next sz' full es e0 sz by_ hT =>
   obtain ⟨inf, ht, hi', rfl, rfl, hsz⟩ := slInfo_some hT
   simp only [Option.ite_none_right_eq_some, Option.some.injEq] at e
   obtain ⟨⟨hz, h1, h2, h3, h4⟩, rfl⟩ := e
   obtain ⟨A, cap, rfl, hlc, hfull⟩ := isl_len r
   refine ⟨.slice (if capOf m cap = (l.getD 0).toNat then A else A.map (·.add ((l.getD 0).toNat * inf.size))) ((hh.getD es.length).toNat - (l.getD 0).toNat) (capOf m cap - (l.getD 0).toNat), fun w1 => ?_⟩
   have hb := run_sliceBoundsU (P := P) w1 S (isS := true) el eh em (len := es.length) (cap := cap) hlc h1 h2 h3 h4
   unfold Instr.sliceAt
   rw [Sem.run_bind, run_underlying ht, Result.andThen_ok]
   simp only
   unfold Instr.slice
   rw [Sem.run_bind, run_underlying ht, Result.andThen_ok]
   simp only [Sem.run_bind, hb, Result.andThen_ok, run_sizeOf_some hi', Sem.run_pure]
  ·cases e
 obtain ⟨u0, h0⟩ := key
 have := (h0 w).symm.trans hr
 simp only [Result.ok.injEq, and_true] at this
 subst this
 exact ⟨u0, h0, hv⟩
theorem sliceStr_any (S : Sim D F σ a w γ bl) {t : Nat} {x h : HV} {lo hi mx : Option Operand} {l hh m : Option Int} (el : boundOf σ.log lo = some l) (eh : boundOf σ.log hi = some hh) (em : boundOf σ.log mx = some m)
  (e : sliceStrHV P t x l hh m.isSome = some h) {v : Value} (r : SRep w (dd D σ.log bl) γ bl x v) :
  ∃ u, ∀ w1 : World, (Instr.sliceAt t v (lo.map a.eval) (hi.map a.eval) (mx.map a.eval)).run P w1 = .ok u w1 ∧ SRep w (dd D σ.log bl) γ bl h u := by
 unfold sliceStrHV at e
 split at e
 ·next s ht =>
  cases r.str_inv
  obtain ⟨d, hu, hd⟩ := tk_some ht
  simp only at hd
  subst hd
  simp only [Option.ite_none_right_eq_some, Option.some.injEq] at e
  obtain ⟨⟨h0, h1, h2, h3⟩, rfl⟩ := e
  obtain rfl : m = none := by cases m with | none => rfl | some x => simp at h0
  have hmx : mx = none := by
   rcases boundOf_rep S em with ⟨rfl, _⟩ | ⟨x, k, i, _, hc, _⟩
   ·rfl
   ·cases hc
  subst hmx
  have hsz : (⟨s.toArray⟩ : ByteArray).size = s.length := rfl
  have hb := fun w1 => run_sliceBoundsU (P := P) w1 S (isS := false) el eh em (len := s.length) (cap := s.length) (Nat.le_refl _) h1 h2 h3 (.inl rfl)
  refine ⟨_, fun w1 => ⟨?_, .imm (.str _)⟩⟩
  unfold Instr.sliceAt
  rw [Sem.run_bind, run_underlying hu, Result.andThen_ok]
  simp only
  unfold Instr.slice
  rw [Sem.run_bind, run_underlying hu, Result.andThen_ok]
  simp only [Option.map_none, Option.isSome_none, Bool.false_eq_true, if_false, hsz]
  have hb := hb w1
  simp only [Option.map_none] at hb
  simp only [Sem.run_bind, hb, Result.andThen_ok, Sem.run_pure]
  congr 2
  apply ByteArray.ext
  have := Lib.extract_data ⟨s.toArray⟩ (l.getD 0).toNat (hh.getD s.length).toNat
  simp [List.extract_eq_take_drop]
  rw [List.drop_take]
 ·cases e

theorem pureV_slice {L : List Ev} {t : TypeId} {x : Operand} {lo hi mx : Option Operand} {h : HV} (e : pureV P L (.slice t x lo hi mx) = some h) : sliceHV P L t (opd L x) lo hi mx = some h := by
 unfold pureV evV at e
 simp only at e
 split at e
 ·next h' hv => rw [hv]; exact e
 ·cases e
/-! ### The walk of a drawn region: moves are taken ahead, batches in whatever order, one by one where nothing else is ready -/
inductive Ph where
 | take (i : Nat)
 | batch (B : List Nat)
 | one (i : Nat)
def Ph.cost : Ph → Nat
 | .take _ => 1
 | .batch B => B.length
 | .one _ => 1
def cost (l : List Ph) : Nat := (l.map Ph.cost).sum
def isMove (o : Oper) : Bool :=
 match o.op with
 | .move _ | .assign _ => true
 | .slice _ _ _ _ _ => true
 | _ => false
def planOK (ops : Array Oper) : List Ph → Array Bool → Bool
 | [], listed => (Region.ready .any ops listed).isEmpty
 | .take i :: r, listed => (match ops[i]? with | some o => isMove o | none => false) && Region.free .any ops listed i && (Region.ready .any ops listed).contains i && planOK ops r (listed.setIfInBounds i true)
 | .batch B :: r, listed => batchOK ops listed B && planOK ops r (setAll listed B)
 | .one i :: r, listed => (Region.ready .any ops listed == [i]) && planOK ops r (listed.setIfInBounds i true)

def putK (o : Oper) (σ : HS) (h : HV) (K : HS → Prop) : Prop :=
 match σ.put o.dst h with
 | some σ' => K σ'
 | none => False
def evP1 (P : Program) (o : Oper) (σ : HS) (K : HS → Prop) : Prop :=
 if isCall o = true then stepK (PStep P o σ.log) (fun h => putK o σ h K) else match pureV P σ.log o.op with
  | some h => putK o σ h K
  | none => False
def evPG (P : Program) (ops : Array Oper) (o : Oper) (σ : HS) (K : HS → Prop) : Prop :=
 match o.guard with
 | none => evP1 P o σ K
 | some (j, want) => match (ops[j]?).bind (·.dst) with
  | some d => match get σ.log d with
   | .lit (.bool b) => if b = want then evP1 P o σ K else putK o σ (.lit (.tuple #[])) K
   | .lit (.tuple _) => putK o σ (.lit (.tuple #[])) K
   | _ => False
  | none => False
def evPs (P : Program) (ops : Array Oper) : List Nat → HS → (HS → Prop) → Prop
 | [], σ, K => K σ
 | i :: r, σ, K => match ops[i]? with
  | some o => evPG P ops o σ fun σ' => evPs P ops r σ' K
  | none => False
def evPl (P : Program) (ops : Array Oper) : List Ph → HS → (HS → Prop) → Prop
 | [], σ, K => K σ
 | .take i :: r, σ, K => match ops[i]? with
  | some o => evPG P ops o σ fun σ' => evPl P ops r σ' K
  | none => False
 | .batch B :: r, σ, K => evPs P ops B σ fun σ' => evPl P ops r σ' K
 | .one i :: r, σ, K => match ops[i]? with
  | some o => evG P ops o σ fun σ' => evPl P ops r σ' K
  | none => False

theorem putK_iff {o : Oper} {h : HV} {K : HS → Prop} : putK o σ h K ↔ ∃ σ', σ.put o.dst h = some σ' ∧ K σ' := by
 unfold putK
 cases hp : σ.put o.dst h <;> simp
theorem evP1_ex {o : Oper} {K : HS → Prop} (h : evP1 P o σ K) : ∃ x σ', PStep P o σ.log x ∧ σ.put o.dst x = some σ' ∧ K σ' := by
 unfold evP1 at h
 split at h
 ·obtain ⟨x, hs, hp⟩ := h
  obtain ⟨σ', h1, h2⟩ := putK_iff.1 hp
  exact ⟨x, σ', hs, h1, h2⟩
 ·split at h
  ·next x hx =>
   obtain ⟨σ', h1, h2⟩ := putK_iff.1 h
   exact ⟨x, σ', .ev hx, h1, h2⟩
  ·exact h.elim
theorem evPG_ex {o : Oper} {K : HS → Prop} (h : evPG P ops o σ K) : ∃ x σ', PG P ops o σ.log x ∧ σ.put o.dst x = some σ' ∧ K σ' := by
 unfold evPG at h
 unfold PG
 split at h
 ·next hg => simp only [hg]; exact evP1_ex h
 ·next j want hg =>
  simp only [hg]
  split at h
  ·next d hd =>
   split at h
   ·next b hb =>
    by_cases e : b = want
    ·rw [if_pos e] at h
     obtain ⟨x, σ', h1, h2, h3⟩ := evP1_ex h
     exact ⟨x, σ', ⟨d, hd, .inl ⟨by rw [hb, e], h1⟩⟩, h2, h3⟩
    ·rw [if_neg e] at h
     obtain ⟨σ', h1, h2⟩ := putK_iff.1 h
     exact ⟨.lit (.tuple #[]), σ', ⟨d, hd, .inr ⟨.inl ⟨b, e, hb⟩, rfl⟩⟩, h1, h2⟩
   ·next vs hb =>
    obtain ⟨σ', h1, h2⟩ := putK_iff.1 h
    exact ⟨.lit (.tuple #[]), σ', ⟨d, hd, .inr ⟨.inr ⟨vs, hb⟩, rfl⟩⟩, h1, h2⟩
   ·exact h.elim
  ·exact h.elim
theorem put_some {d : Nat} {x : HV} {σ' : HS} (h : σ.put (some d) x = some σ') : d < σ.n ∧ σ' = ⟨.s d x :: σ.log, σ.n⟩ := by
 simp only [HS.put, Option.ite_none_right_eq_some, Option.some.injEq] at h
 exact ⟨h.1, h.2.symm⟩
theorem evPs_run : ∀ {B : List Nat} {σ : HS} {K : HS → Prop}, (∀ i ∈ B, (dstOf ops i).isSome = true) → evPs P ops B σ K → ∃ vs L', vs.map (·.1) = B ∧ RunA P ops σ.n vs σ.log L' ∧ K ⟨L', σ.n⟩
 | [], σ, K, _, h => ⟨[], σ.log, rfl, rfl, h⟩
 | i :: r, σ, K, hs, h => by
  simp only [evPs] at h
  split at h
  ·next o ho =>
   obtain ⟨x, σ', h1, h2, h3⟩ := evPG_ex h
   obtain ⟨d, hd⟩ := Option.isSome_iff_exists.1 (hs i (by simp))
   have hd' : o.dst = some d := by simpa [dstOf, ho] using hd
   rw [hd'] at h2
   obtain ⟨hlt, rfl⟩ := put_some h2
   obtain ⟨vs, L', q1, q2, q3⟩ := evPs_run (fun j hj => hs j (by simp [hj])) h3
   exact ⟨(i, x) :: vs, L', by simp [q1], ⟨o, d, ho, hd', hlt, h1, q2⟩, q3⟩
  ·exact h.elim

theorem evG_wpOp {i : Nat} {o : Oper} {K : HS → Prop} {Q : Exit → Act → World → Prop} {NX : Act → World → Prop} (hi : ops[i]? = some o) (h : evG P ops o σ K) (S : Sim D F σ a w γ bl)
  (hN : ∀ σ' a' w' γ' bl', K σ' → Sim D F σ' a' w' γ' bl' → Kept F w w' → NX a' w') : wpOp P ops Q i NX a w := by
 unfold Go.wpOp
 simp only [hi]
 have run : OpK P o σ K → o.wp P a w NX Q := fun hs => hs D F a w γ bl S NX Q (fun σ' a' w' γ' bl' h' S' hB => hN σ' _ _ _ _ h' S' hB)
 unfold evG at h
 split at h
 ·next hg => rw [if_pos (by simp [Region.wanted, hg])]; exact .inl (run (evC h))
 ·next j want hg =>
  split at h
  ·next d hd =>
   split at h
   ·next b hb =>
    have hy : yielded ops a.tmps j = some b := yielded_of hd (by have := S.henv d; rw [hb] at this; exact this.lit_inv)
    by_cases hbw : b = want
    ·rw [if_pos (by simp [Region.wanted, hg, hy, hbw])]
     rw [if_pos hbw] at h
     exact .inl (run (evC h))
    ·rw [if_neg (by simp [Region.wanted, hg, hy, hbw])]
     rw [if_neg hbw] at h
     have h2 := h
     split at h2
     ·next σ' hp => exact hN σ' _ _ _ _ h2 (S.put? hp (.imm (.lit _))) (Kept.refl _ _)
     ·exact h2.elim
   ·next vs hb =>
    have hv : a.tmps.getD d undef = .tuple vs := by have := S.henv d; rw [hb] at this; exact this.lit_inv
    rw [if_neg (by simp [Region.wanted, hg, yielded_undef hd hv])]
    have h2 := h
    split at h2
    ·next σ' hp => exact hN σ' _ _ _ _ h2 (S.put? hp (.imm (.lit _))) (Kept.refl _ _)
    ·exact h2.elim
   ·exact h.elim
  ·exact h.elim

theorem take_yields {o : Oper} {K : HS → Prop} (hm : isMove o = true) (h : evPG P ops o σ K) (S : Sim D F σ a w γ bl) : ∃ v σ', Yields P ops o v a ∧ K σ' ∧ Sim D F σ' (a.put o.dst v) w γ bl := by
 obtain ⟨x, σ', h1, h2, h3⟩ := evPG_ex h
 have hval : ∀ x, PStep P o σ.log x → ∃ v, (∀ w, (execOp a.eval o).run P w = .ok (.value v) w) ∧ SRep w (dd D σ.log bl) γ bl x v := by
  intro x hs
  unfold isMove at hm
  cases hop : o.op with
  | move y =>
   cases hs with
   | ev e => simp only [pureV, hop, evV, Option.some.injEq] at e; subst e; exact ⟨a.eval y, fun w => by simp only [execOp, hop]; rfl, S.opd y⟩
   | call1 g hs h hc => simp [callee, hop] at hc
   | callT g hs rs hc => simp [callee, hop] at hc
   | call1r g hs hs' h hc => simp [callee, hop] at hc
   | callTr g hs hs' rs hc => simp [callee, hop] at hc
  | assign y =>
   cases hs with
   | ev e => simp only [pureV, hop, evV, Option.some.injEq] at e; subst e; exact ⟨a.eval y, fun w => by simp only [execOp, hop]; rfl, S.opd y⟩
   | call1 g hs h hc => simp [callee, hop] at hc
   | callT g hs rs hc => simp [callee, hop] at hc
   | call1r g hs hs' h hc => simp [callee, hop] at hc
   | callTr g hs hs' rs hc => simp [callee, hop] at hc
  | slice t y lo hi mx =>
   cases hs with
   | ev e =>
    rw [hop] at e
    have e := pureV_slice e
    unfold sliceHV at e
    split at e
    ·next l hh m el eh em =>
     have r := S.opd y
     cases hx : opd σ.log y with
     | str s =>
      rw [hx] at e r
      obtain ⟨v, hr⟩ := sliceStr_any (P := P) S el eh em e r
      exact ⟨v, fun w => by simp only [execOp, hop]; exact Result_value (hr w).1, (hr w).2⟩
     | sl sz f es =>
      rw [hx] at e r
      obtain ⟨v, hr, hv⟩ := sliceSl_any (P := P) S el eh em e (r.toI rfl)
      exact ⟨v, fun w => by simp only [execOp, hop]; exact Result_value (hr w), .imm hv⟩
     | _ => rw [hx] at e; simp at e
    ·cases e
   | call1 g hs h hc => simp [callee, hop] at hc
   | callT g hs rs hc => simp [callee, hop] at hc
   | call1r g hs hs' h hc => simp [callee, hop] at hc
   | callTr g hs hs' rs hc => simp [callee, hop] at hc
  | _ => simp [hop] at hm
 unfold PG at h1
 split at h1
 ·next hg =>
  obtain ⟨v, hv, hr⟩ := hval x h1
  exact ⟨v, σ', .inl ⟨by simp [Region.wanted, hg], hv⟩, h3, S.put? h2 hr⟩
 ·next j want hg =>
  obtain ⟨d, hd, hs⟩ := h1
  rcases hs with ⟨hb, hs⟩ | ⟨hu, rfl⟩
  ·have hy : yielded ops a.tmps j = some want := yielded_of hd (by have := S.henv d; rw [hb] at this; exact this.lit_inv)
   obtain ⟨v, hv, hr⟩ := hval x hs
   exact ⟨v, σ', .inl ⟨by simp [Region.wanted, hg, hy], hv⟩, h3, S.put? h2 hr⟩
  ·have hy := hu.yielded S hd
   exact ⟨undef, σ', .inr ⟨by simp [Region.wanted, hg, hy], rfl⟩, h3, S.put? h2 (.imm (.lit _))⟩

theorem evPl_wp {Q : Exit → Act → World → Prop} (hs : Region.noSelect ops = true) (hQ : ∀ c a w, ¬ Q (.panic c) a w) {K : HS → Prop} {w0 : World}
  (hN : ∀ σ' a' w' γ' bl', K σ' → Sim D F σ' a' w' γ' bl' → Kept F w0 w' → Q .normal a' w') :
  ∀ (plan : List Ph) (listed : Array Bool) (σ : HS) (a : Act) (w : World) (γ : Nat → Value) (bl : Nat → Option Nat), planOK ops plan listed = true → evPl P ops plan σ K → Sim D F σ a w γ bl → Kept F w0 w →
   wpAny P .any ops Q (cost plan) listed a w
 | [], listed, σ, a, w, γ, bl, hp, h, S, hB => by
  simp only [planOK, List.isEmpty_iff] at hp
  exact wpAny_done hp (hN σ a w γ bl h S hB) _
 | .take i :: r, listed, σ, a, w, γ, bl, hp, h, S, hB => by
  simp only [planOK, Bool.and_eq_true] at hp
  obtain ⟨⟨⟨hm, hf⟩, hr⟩, hp⟩ := hp
  simp only [evPl] at h
  split at h
  ·next o ho =>
   simp only [ho] at hm
   obtain ⟨v, σ', hy, hk, S'⟩ := take_yields hm h S
   show wpAny P .any ops Q (cost (.take i :: r)) listed a w
   rw [show cost (.take i :: r) = cost r + 1 by simp [cost, Ph.cost]; omega]
   exact wpAny_take ho hs hf hr (fun c a w hq => absurd hq (hQ c _ _)) hy (evPl_wp hs hQ hN r _ σ' _ w γ bl hp hk S' hB)
  ·exact h.elim
 | .batch B :: r, listed, σ, a, w, γ, bl, hp, h, S, hB => by
  simp only [planOK, Bool.and_eq_true] at hp
  obtain ⟨hbk, hp⟩ := hp
  simp only [evPl] at h
  have hbk' := hbk
  simp only [batchOK, Bool.and_eq_true] at hbk'
  obtain ⟨vs, L', rfl, hrun, hk⟩ := evPs_run (fun i hi => List.all_eq_true.1 hbk'.1.1.2 i hi) h
  rw [show cost (.batch (vs.map (·.1)) :: r) = cost r + (vs.map (·.1)).length by simp [cost, Ph.cost]; omega]
  have hfresh := topo_fresh hbk'.1.1.1.1
  have hall : (vs.map (·.1)).countP (fun j => !listed.getD j true) = (vs.map (·.1)).length := by
   rw [List.countP_eq_length]
   intro j hj
   rw [hfresh j hj]; rfl
  refine batch_wp (w0 := w0) hbk hrun (fun a' w' γ' bl' S' hB' => evPl_wp hs hQ hN r _ ⟨L', σ.n⟩ a' w' γ' bl' hp hk S' hB') _ listed σ.log a w γ bl ⟨rfl, fun _ _ _ => rfl, fun i hi hl => ?_⟩ ⟨fun j x hj hl => ?_, fun _ _ => rfl, fun _ => rfl⟩ hall S hB
  ·have := hfresh i hi
   rw [(getD_of_false this).2] at hl
   cases hl
  ·have := hfresh j (List.mem_map.2 ⟨_, hj, rfl⟩)
   rw [(getD_of_false this).2] at hl
   cases hl
 | .one i :: r, listed, σ, a, w, γ, bl, hp, h, S, hB => by
  simp only [planOK, Bool.and_eq_true, beq_iff_eq] at hp
  simp only [evPl] at h
  split at h
  ·next o ho =>
   rw [show cost (.one i :: r) = cost r + 1 by simp [cost, Ph.cost]; omega]
   refine wpAny_all hp.1 (by simp) (fun j hj => ?_)
   obtain rfl : j = i := by simpa using hj
   exact evG_wpOp ho h S (fun σ' a' w' γ' bl' hk S' hB' => evPl_wp hs hQ hN r _ σ' a' w' γ' bl' hp.2 hk S' (hB.trans hB'))
  ·exact h.elim

def drawOK (P : Program) (ops : Array Oper) (plan : List Ph) : Bool :=
 P.follows .mixedOrders && Region.noSelect ops && decide (cost plan = ops.size) && planOK ops plan (Array.replicate ops.size false)
theorem HT.draw {id : Nat} {l : List Oper} {Q : Exit → HS → Prop} (plan : List Ph) (hp : drawOK P l.toArray plan = true) (h : evPl P l.toArray plan σ (Q .normal)) : HT P (.region id l.toArray true) σ Q := by
 simp only [drawOK, Bool.and_eq_true, decide_eq_true_eq] at hp
 obtain ⟨⟨⟨hm, hs⟩, hc⟩, hp⟩ := hp
 intro D F a w γ bl S
 refine Code.wp_mono (Q := fun e a' w' => e = .normal ∧ ∃ σ', Q .normal σ' ∧ Kept F w w' ∧ ∃ γ' bl', Sim D F σ' a' w' γ' bl') (fun e a' w' ⟨he, hq⟩ => by subst he; exact hq) ?_
 refine wp_region_any hm ?_
 have hB : Kept F w { w with drawn := w.drawn + 1 } := ⟨rfl, rfl, rfl, Nat.le_refl _, fun _ _ => rfl⟩
 have h1 := evPl_wp (w0 := w) (Q := fun e a' w' => e = .normal ∧ ∃ σ', Q .normal σ' ∧ Kept F w w' ∧ ∃ γ' bl', Sim D F σ' a' w' γ' bl') hs (fun c a w hq => by cases hq.1) (fun σ' a' w' γ' bl' hk S' hB' => ⟨rfl, σ', hk, hB', γ', bl', S'⟩) plan _ σ a { w with drawn := w.drawn + 1 } γ bl hp h (S.world (Nat.le_refl _) (fun _ _ => rfl)) hB
 rw [hc] at h1
 exact h1
attribute [simp ↓] evPl evPs evPG evP1 putK
attribute [simp] pureV bsHV
end Go.Hv
