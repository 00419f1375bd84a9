import Derived.Test.YtlbmbnpknobjdaaGreatDoorWZ5
import Derived.HandedShaped
import Derived.Shelf.Vars
import Derived.ProofKit
import Derived.OpenShut
import Derived.LaidMore
import Derived.Lay
import Derived.SevenTiedAt
import Derived.Stop.Joined
set_option linter.unusedVariables false
set_option linter.unusedSimpArgs false
/- The examples of layer 29. -/
namespace Go.Hv
open Go Go.Hv Go.Proofs Go.RowKit
open Go.Proofs.YtlbmbnpknobjdaaGreatDoor
def exOn : List (List UInt8) := [[109, 97, 105, 110]]
def exA9 : Doc := ⟨3, [114], [97], [97, 98, 99, 97, 98], exOn⟩
def exB9 : Doc := ⟨5, [114], [98], [120, 65, 66, 67], exOn⟩
def exL : List Doc := [exA9, exB9]
theorem exL_right : rightV exL = 0 := by decide +kernel
theorem exL_build : buildV exL = (segV exL, 0) := build_yes exL_right
theorem exL_B : DocsB 140737488355328 exL := by simp [DocsB, DocB, exL, exA9, exB9, exOn]
theorem exL_grams : (gramsOf exL).length = 4 := by decide +kernel
theorem exL_size : sizeV (gramsOf exL) = 5 := by decide +kernel
theorem exL_docs : docsV (gramsOf exL) 6382179 = [3, 5] := by decide +kernel
theorem exL_at : atsV (gramsOf exL) 6382179 5 = [1] := by decide +kernel
def exN : NeedT := .mk 3 6382179 []
theorem exL_eval : evalR exL exN = [3, 5] := by decide +kernel
theorem exL_f1 : find29 exL [66, 99] = [⟨3, [1]⟩, ⟨5, [2]⟩] := by decide +kernel
theorem exL_f2 : find29 exL [97, 98, 99, 97] = [⟨3, [0]⟩] := by decide +kernel
theorem exL_f3 : (find29 exL []).length = 2 := by decide +kernel
theorem exL_text : ∀ d ∈ exL, d.text.length ≤ 900 := by simp [exL, exA9, exB9]
theorem exL_dec : decide ((buildV (segV exL).docs).2 = 0 ∧ segV exL = (buildV (segV exL).docs).1) = true := by
  show decide ((buildV exL).2 = 0 ∧ segV exL = (buildV exL).1) = true
  rw [exL_build]; simp
theorem exL_Q : SegQ (segV exL) := seg_Q exL_right exL_B
theorem same_full (a b : List Int) (ha : a.length ≤ 1000) : Spec1 Tryz.prog 22 [.sl 1 false (intsHV a), .sl 1 true (intsHV b)] (bo (decide (a = b))) :=
  (Same5_spec a b (by omega)).args (l := [.sl 1 false (intsHV a), .sl 1 true (intsHV b)]) (HLeL.cons (HLe.refl _) (HLeL.cons (HLe.full _ _) HLeL.nil))
theorem need_ex : HLeL [i64 3, i64 6382179, .sl 0 true []] (needC exN) := HLeL.cons (HLe.refl _) (HLeL.cons (HLe.refl _) (HLeL.cons (HLe.nilf 0 3 true) HLeL.nil))
theorem evalEx_spec : Spec1 Tryz.prog 31 [.agg (segV exL).enc, .agg [i64 3, i64 6382179, .sl 0 true []]] (.sl 1 false (intsHV [3, 5])) := by
  have h := (Eval_seg exL exN (right_inc exL_right) (by decide) exL_text (.mk _ _ _ (by simp) (by simp)) (by rw [exL_grams]; decide) (fun p hp => by
    obtain ⟨c, _, rfl⟩ := List.mem_map.1 hp
    have := postV_length exL c
    have h2 : exL.length = 2 := rfl
    show (postV exL c).length ≤ 64
    omega)).args (l := [.agg (segV exL).enc, .agg [i64 3, i64 6382179, .sl 0 true []]]) (HLeL.cons (HLe.refl _) (HLeL.cons (HLe.agg need_ex) HLeL.nil))
  rw [exL_eval] at h
  exact h
theorem at_le {l l' : List (List HV)} (hl : l'.length = l.length) (h : ∀ (i : Nat) (x x' : List HV), l[i]? = some x → l'[i]? = some x' → HLeL x x') : HLe (.sl 2 true l) (.sl 2 false l') := HLe.trans (HLe.sl (f := true) hl h) (HLe.full _ _)
theorem ex2_le (a b : Int) (x y : List Int) : HLe (.sl 2 true [[i64 a, .sl 1 true (intsHV x)], [i64 b, .sl 1 true (intsHV y)]]) (.sl 2 false (gramsHV [⟨a, x⟩, ⟨b, y⟩])) :=
  at_le (l' := gramsHV [⟨a, x⟩, ⟨b, y⟩]) rfl fun i u u' h h' => by
    match i with
    | 0 =>
      obtain rfl := Option.some.inj h
      obtain rfl := Option.some.inj h'
      exact HLeL.cons (HLe.refl _) (HLeL.cons (HLe.full _ _) HLeL.nil)
    | 1 =>
      obtain rfl := Option.some.inj h
      obtain rfl := Option.some.inj h'
      exact HLeL.cons (HLe.refl _) (HLeL.cons (HLe.full _ _) HLeL.nil)
    | i + 2 => simp at h
theorem ex1_le (a : Int) (x : List Int) : HLe (.sl 2 true [[i64 a, .sl 1 true (intsHV x)]]) (.sl 2 false (gramsHV [⟨a, x⟩])) :=
  at_le (l' := gramsHV [⟨a, x⟩]) rfl fun i u u' h h' => by
    match i with
    | 0 =>
      obtain rfl := Option.some.inj h
      obtain rfl := Option.some.inj h'
      exact HLeL.cons (HLe.refl _) (HLeL.cons (HLe.full _ _) HLeL.nil)
    | i + 1 => simp at h
theorem sameAt2_spec : Spec1 Tryz.prog 28 [.sl 2 false (gramsHV [⟨3, [1]⟩, ⟨5, [2]⟩]), .sl 2 true [[i64 3, .sl 1 true (intsHV [1])], [i64 5, .sl 1 true (intsHV [2])]]] (bo true) :=
  (SameAt_spec [⟨3, [1]⟩, ⟨5, [2]⟩] [⟨3, [1]⟩, ⟨5, [2]⟩] (by simp) (by simp)).args (l := [.sl 2 false (gramsHV [⟨3, [1]⟩, ⟨5, [2]⟩]), .sl 2 true [[i64 3, .sl 1 true (intsHV [1])], [i64 5, .sl 1 true (intsHV [2])]]]) (HLeL.cons (HLe.refl _) (HLeL.cons (ex2_le 3 5 [1] [2]) HLeL.nil))
theorem sameAt1_spec : Spec1 Tryz.prog 28 [.sl 2 false (gramsHV [⟨3, [0]⟩]), .sl 2 true [[i64 3, .sl 1 true (intsHV [0])]]] (bo true) :=
  (SameAt_spec [⟨3, [0]⟩] [⟨3, [0]⟩] (by simp) (by simp)).args (l := [.sl 2 false (gramsHV [⟨3, [0]⟩]), .sl 2 true [[i64 3, .sl 1 true (intsHV [0])]]]) (HLeL.cons (HLe.refl _) (HLeL.cons (ex1_le 3 [0]) HLeL.nil))
theorem findEx_spec (t : List UInt8) (ht : t.length ≤ 900) : Spec1 Tryz.prog 29 [.agg (segV exL).enc, .str t] (.sl 2 false (gramsHV (find29 exL t))) := Find_seg exL t (right_inc exL_right) (by decide) exL_text ht (seg_T exL_right)
theorem example0_spec  : Spec1 Tryz.prog 39 [] (.sl 5 true [[i64 3, .str [114], .str [97], .str [97, 98, 99, 97, 98], .sl 1 true (strsHV exOn)], [i64 5, .str [114], .str [98], .str [120, 65, 66, 67], .sl 1 true (strsHV exOn)]]) := by
  refine Spec1.of_HT Tryz.func39 rfl (by rw [Tryz.ntmps39]; simp) rfl ?_
  rw [Tryz.ntmps39]
  refine HT.seq ?_
  refine HT.region ?_   -- R0
  simp (disch := first | omega | (simp <;> omega) | fail) [wrap_i64, wrap_u64, wrap_u8']
  refine HT.seq ?_
  refine HT.region ?_   -- R1
  simp (disch := first | omega | (simp <;> omega) | fail) [wrap_i64, wrap_u64, wrap_u8']
  refine HT.seq ?_
  refine HT.region ?_   -- R2
  simp (disch := first | omega | (simp <;> omega) | fail) [wrap_i64, wrap_u64, wrap_u8']
  refine HT.ret ?_
  simp (disch := first | omega | (simp <;> omega) | fail) [wrap_i64, wrap_u64, wrap_u8', strsHV, exOn]
theorem example_spec : Spec1 Tryz.prog 39 [] (.sl 5 false (docsHV exL)) :=
  example0_spec.tell (HLe.trans (HLe.sl (f := true) (es' := docsHV exL) rfl fun i u u' h h' => by
    match i with
    | 0 =>
      obtain rfl := Option.some.inj h
      obtain rfl := Option.some.inj h'
      exact HLeL.cons (HLe.refl _) (HLeL.cons (HLe.refl _) (HLeL.cons (HLe.refl _) (HLeL.cons (HLe.refl _) (HLeL.cons (HLe.full _ _) HLeL.nil))))
    | 1 =>
      obtain rfl := Option.some.inj h
      obtain rfl := Option.some.inj h'
      exact HLeL.cons (HLe.refl _) (HLeL.cons (HLe.refl _) (HLeL.cons (HLe.refl _) (HLeL.cons (HLe.refl _) (HLeL.cons (HLe.full _ _) HLeL.nil))))
    | i + 2 => simp at h) (HLe.full _ _))
theorem exS_docs : (segV exL).docs.length = 2 := rfl
theorem exS_grams : (segV exL).grams.length = 4 := exL_grams
set_option maxRecDepth 20000 in
set_option maxHeartbeats 4000000 in
theorem alive_spec  : Spec1 Tryz.prog 10 [] (bo true) := by
  refine Spec1.of_HT Tryz.func10 rfl (by rw [Tryz.ntmps10]; simp) rfl ?_
  rw [Tryz.ntmps10]
  refine HT.seq ?_
  refine HT.region ?_   -- R0
  simp (disch := first | omega | (simp <;> omega) | fail) [wrap_i64, wrap_u64, wrap_u8']
  refine HT.seq ?_
  refine HT.region ?_   -- R1
  simp (disch := first | omega | (simp <;> omega) | fail) [wrap_i64, wrap_u64, wrap_u8']
  refine stepK.mk (.call1f _ _ _ _ _ rfl Ty.hb39 rfl rfl (example_spec) rfl) ?_
  simp (disch := first | omega | (simp <;> omega) | fail) [wrap_i64, wrap_u64, wrap_u8']
  refine stepK.mk (.callTf _ _ _ _ _ rfl Ty.hb12 rfl rfl (Build_spec exL exL_B) rfl) ?_
  simp (disch := first | omega | (simp <;> omega) | fail) [wrap_i64, wrap_u64, wrap_u8', exL_build]
  refine HT.seq ?_
  refine HT.seq ?_
  refine HT.region ?_   -- R2
  simp (disch := first | omega | (simp <;> omega) | fail) [wrap_i64, wrap_u64, wrap_u8', exS_docs, exS_grams]
  refine stepK.mk (.call1f _ _ _ _ _ rfl Ty.hb16 rfl rfl (Size_spec (segV exL) (seg_S exL_right).1 (seg_S exL_right).2.2 (seg_size exL_right)) rfl) ?_
  simp (disch := first | omega | (simp <;> omega) | fail) [wrap_i64, wrap_u64, wrap_u8', exS_docs, exS_grams, show sizeV (segV exL).grams = 5 from exL_size]
  refine stepK.mk (.call1f _ _ _ _ _ rfl Ty.hb15 rfl rfl (SRight_of (segV exL) exL_Q (build_Q exL_B) Build_spec) rfl) ?_
  simp (disch := first | omega | (simp <;> omega) | fail) [wrap_i64, wrap_u64, wrap_u8', exS_docs, exS_grams, exL_dec]
  refine stepK.mk (.call1f _ _ _ _ _ rfl Ty.hb20 rfl rfl (sSame_spec (segV exL) (segV exL) exL_Q exL_Q) rfl) ?_
  simp (disch := first | omega | (simp <;> omega) | fail) [wrap_i64, wrap_u64, wrap_u8', exS_docs, exS_grams]
  refine HT.cond' ?_   -- if 38
  simp (disch := first | omega | (simp <;> omega) | fail) [wrap_i64, wrap_u64, wrap_u8']
  refine HT.skip ?_
  simp (disch := first | omega | (simp <;> omega) | fail) [wrap_i64, wrap_u64, wrap_u8']
  refine HT.seq ?_
  refine HT.region ?_   -- R4
  simp (disch := first | omega | (simp <;> omega) | fail) [wrap_i64, wrap_u64, wrap_u8']
  refine HT.seq ?_
  refine HT.seq ?_
  refine HT.region ?_   -- R5
  simp (disch := first | omega | (simp <;> omega) | fail) [wrap_i64, wrap_u64, wrap_u8']
  refine stepK.mk (.call1f _ _ _ _ _ rfl Ty.hb23 rfl rfl (Docs_spec (segV exL) 6382179 (seg_S exL_right)) rfl) ?_
  simp (disch := first | omega | (simp <;> omega) | fail) [wrap_i64, wrap_u64, wrap_u8', show docsV (segV exL).grams 6382179 = [3, 5] from exL_docs]
  refine stepK.mk (.call1f _ _ _ _ _ rfl Ty.hb22 rfl rfl (same_full [3, 5] [3, 5] (by decide)) rfl) ?_
  simp (disch := first | omega | (simp <;> omega) | fail) [wrap_i64, wrap_u64, wrap_u8']
  refine stepK.mk (.call1f _ _ _ _ _ rfl Ty.hb25 rfl rfl (At_seg (segV exL) 6382179 5 (seg_T exL_right)) rfl) ?_
  simp (disch := first | omega | (simp <;> omega) | fail) [wrap_i64, wrap_u64, wrap_u8', show atsV (segV exL).grams 6382179 5 = [1] from exL_at]
  refine stepK.mk (.call1f _ _ _ _ _ rfl Ty.hb22 rfl rfl (same_full [1] [1] (by decide)) rfl) ?_
  simp (disch := first | omega | (simp <;> omega) | fail) [wrap_i64, wrap_u64, wrap_u8']
  refine stepK.mk (.call1f _ _ _ _ _ rfl Ty.hb31 rfl rfl (evalEx_spec) rfl) ?_
  simp (disch := first | omega | (simp <;> omega) | fail) [wrap_i64, wrap_u64, wrap_u8']
  refine stepK.mk (.call1f _ _ _ _ _ rfl Ty.hb22 rfl rfl (same_full [3, 5] [3, 5] (by decide)) rfl) ?_
  simp (disch := first | omega | (simp <;> omega) | fail) [wrap_i64, wrap_u64, wrap_u8']
  refine HT.cond' ?_   -- if 61
  simp (disch := first | omega | (simp <;> omega) | fail) [wrap_i64, wrap_u64, wrap_u8']
  refine HT.skip ?_
  simp (disch := first | omega | (simp <;> omega) | fail) [wrap_i64, wrap_u64, wrap_u8']
  refine HT.seq ?_
  refine HT.region ?_   -- R7
  simp (disch := first | omega | (simp <;> omega) | fail) [wrap_i64, wrap_u64, wrap_u8']
  refine stepK.mk (.call1f _ _ _ _ _ rfl Ty.hb29 rfl rfl (findEx_spec [66, 99] (by decide)) rfl) ?_
  simp (disch := first | omega | (simp <;> omega) | fail) [wrap_i64, wrap_u64, wrap_u8', exL_f1]
  refine stepK.mk (.call1f _ _ _ _ _ rfl Ty.hb28 rfl rfl (sameAt2_spec) rfl) ?_
  simp (disch := first | omega | (simp <;> omega) | fail) [wrap_i64, wrap_u64, wrap_u8']
  refine stepK.mk (.call1f _ _ _ _ _ rfl Ty.hb29 rfl rfl (findEx_spec [97, 98, 99, 97] (by decide)) rfl) ?_
  simp (disch := first | omega | (simp <;> omega) | fail) [wrap_i64, wrap_u64, wrap_u8', exL_f2]
  refine stepK.mk (.call1f _ _ _ _ _ rfl Ty.hb28 rfl rfl (sameAt1_spec) rfl) ?_
  simp (disch := first | omega | (simp <;> omega) | fail) [wrap_i64, wrap_u64, wrap_u8']
  refine stepK.mk (.call1f _ _ _ _ _ rfl Ty.hb29 rfl rfl (findEx_spec [] (by decide)) rfl) ?_
  simp (disch := first | omega | (simp <;> omega) | fail) [wrap_i64, wrap_u64, wrap_u8', exL_f3]
  refine HT.ret ?_
  simp (disch := first | omega | (simp <;> omega) | fail) [wrap_i64, wrap_u64, wrap_u8']
end Go.Hv
set_option linter.unusedVariables false
set_option linter.unusedSimpArgs false
/- The law SegmentFinds (layer 29). -/
namespace Go.Hv
open Go Go.Hv Go.Proofs Go.RowKit
open Go.Proofs.YtlbmbnpknobjdaaGreatDoor
end Go.Hv
set_option linter.unusedVariables false
set_option linter.unusedSimpArgs false
/- The law SegmentParts (layer 29). -/
namespace Go.Hv
open Go Go.Hv Go.Proofs Go.RowKit
open Go.Proofs.YtlbmbnpknobjdaaGreatDoor
end Go.Hv
set_option linter.unusedVariables false
set_option linter.unusedSimpArgs false
/- occurs, and the plain law of SegmentExact (layer 29). -/
namespace Go.Hv
open Go Go.Hv Go.Proofs Go.RowKit
open Go.Proofs.YtlbmbnpknobjdaaGreatDoor
end Go.Hv
set_option linter.unusedVariables false
set_option linter.unusedSimpArgs false
/- The law SegmentExact (layer 29). -/
namespace Go.Hv
open Go Go.Hv Go.Proofs Go.RowKit
open Go.Proofs.YtlbmbnpknobjdaaGreatDoor
end Go.Hv
set_option linter.unusedVariables false
set_option linter.unusedSectionVars false
set_option linter.unusedSimpArgs false
namespace Go.Hv
open Go Go.Hv
variable [GI]
/-! ### Documents and segments that are handed in -/
@[reducible] def strsShF : ShT := .sl 1 .str
@[reducible] def docShF : ShT := .st [.int .i64, .str, .str, .str, strsShF]
@[reducible] def docsShF : ShT := .sl 5 docShF
@[reducible] def postShF : ShT := .st [.int .i64, gramsSh]
@[reducible] def segShF : ShT := .st [docsShF, .sl 2 postShF]
@[reducible] def segsShF : ShT := .sl 2 segShF
def DocF (B : Nat) (d : Doc) : Prop := d.repo.length ≤ B ∧ d.path.length ≤ B ∧ d.text.length ≤ B ∧ d.on.length ≤ B ∧ ∀ s ∈ d.on, s.length ≤ B
theorem rdF_strs {B : Nat} {x : List HV} (h : RdF B strsShF x) : ∃ l, x = [.sl 1 false (strsHV l)] ∧ l.length ≤ B ∧ ∀ s ∈ l, s.length ≤ B := by
  cases h with
  | sl sz e es hl hz h =>
    obtain ⟨on, rfl, hon⟩ := map_choiceF (f := fun s => [HV.str s]) (p := fun s => s.length ≤ B) (fun x hx => rdF_str (h x hx))
    exact ⟨on, rfl, by simpa using hl, hon⟩
theorem rdF_doc {B : Nat} {x : List HV} (h : RdF B docShF x) : ∃ d : Doc, x = d.enc ∧ DocF B d := by
  cases h with
  | st fs hs h =>
    cases h with
    | cons h1 h =>
    cases h with
    | cons h2 h =>
    cases h with
    | cons h3 h =>
    cases h with
    | cons h4 h =>
    cases h with
    | cons h5 h =>
    cases h
    obtain ⟨n, rfl, hn⟩ := rdF_int h1
    obtain ⟨r, rfl, hr⟩ := rdF_str h2
    obtain ⟨p, rfl, hp⟩ := rdF_str h3
    obtain ⟨t, rfl, ht⟩ := rdF_str h4
    obtain ⟨on, rfl, ho, hos⟩ := rdF_strs h5
    exact ⟨⟨n, r, p, t, on⟩, rfl, hr, hp, ht, ho, hos⟩
theorem rdF_docs {B : Nat} {x : List HV} (h : RdF B docsShF x) : ∃ l : List Doc, x = [.sl 5 false (docsHV l)] ∧ l.length ≤ B ∧ ∀ d ∈ l, DocF B d := by
  cases h with
  | sl sz e es hl hz h =>
    obtain ⟨l, rfl, hb⟩ := map_choiceF (f := Doc.enc) (p := DocF B) (fun x hx => rdF_doc (h x hx))
    exact ⟨l, rfl, by simpa using hl, hb⟩
def SegF (B : Nat) (s : Seg) : Prop := s.docs.length ≤ B ∧ ∀ d ∈ s.docs, DocF B d
theorem docs_of_trodW {H : Type} {enc : TypeId × Value → H} {P : Program} {w : World} {sp : Nat → Bool} {held : Bool} {t : TypeId} {a : Option Addr} {n c : Nat} {d : DataW H} {ps : List MemPlace} {B : Nat} (hk : shOKW P docsShF t = true)
    (h : DataW.Trod enc P w 0 sp held t (.slice a n c) d ps) (hB : ∀ n ∈ d.weights P t, n ≤ B) : ∃ l : List Doc, IRep w (fun _ => False) (.sl 5 false (docsHV l)) (.slice a n c) ∧ l.length ≤ B ∧ ∀ d ∈ l, DocF B d := by
  obtain ⟨hs, h1, h2⟩ := arg_of_trodW docsShF hk h hB
  obtain ⟨l, rfl, hl, hg⟩ := rdF_docs h1
  exact ⟨l, repsF_one h2, hl, hg⟩
end Go.Hv
set_option linter.unusedVariables false
set_option linter.unusedSectionVars false
set_option linter.unusedSimpArgs false
namespace Go.Hv
open Go Go.Hv
variable [GI]
/-! ### A segment and a condition that are handed in -/
theorem reps_at {w : World} {dead : Nat → Prop} {hs : List HV} {us : List Value} (h : Reps w dead hs us) : us.length = hs.length ∧ ∀ (j : Nat) (c : HV) (v : Value), hs[j]? = some c → us[j]? = some v → IRep w dead c v := by
  induction h with
  | nil => exact ⟨rfl, by simp⟩
  | cons a b ih =>
    refine ⟨by simp [ih.1], fun j c v h1 h2 => ?_⟩
    cases j with
    | zero => simp at h1 h2; subst h1; subst h2; exact a
    | succ j => exact ih.2 j c v (by simpa using h1) (by simpa using h2)
theorem agg_of_reps {w : World} {dead : Nat → Prop} {hs : List HV} {v : Value} (hl : hs.length ≠ 1) (h : Reps w dead hs v.cells.toList) : IRep w dead (.agg hs) v := by
  obtain ⟨h1, h2⟩ := reps_at h
  cases v with
  | agg vs => exact .agg (by simpa [Value.cells] using h1) (fun j c v hc hv => h2 j c v hc (by simpa [Value.cells] using hv))
  | _ => exact absurd h1.symm (by simpa [Value.cells] using hl)
def PostF (B : Nat) (p : Post) : Prop := p.docs.length ≤ B ∧ ∀ g ∈ p.docs, g.off.length ≤ B
theorem rdF_postB {B : Nat} {x : List HV} (h : RdF B postShF x) : ∃ p : Post, x = p.enc ∧ PostF B p := by
  cases h with
  | st fs hs h =>
    cases h with
    | cons h1 h =>
    cases h with
    | cons h2 h =>
    cases h
    obtain ⟨n, rfl, hn⟩ := rdF_int h1
    obtain ⟨l, rfl, hl, hw⟩ := rdF_grams h2
    exact ⟨⟨n, l⟩, rfl, hl, fun g hg => (hw g hg).1⟩
def SegFB (B : Nat) (s : Seg) : Prop := SegF B s ∧ s.grams.length ≤ B ∧ ∀ p ∈ s.grams, PostF B p
theorem rdF_segB {B : Nat} {x : List HV} (h : RdF B segShF x) : ∃ s : Seg, x = s.enc ∧ SegFB B s := by
  cases h with
  | st fs hs h =>
    cases h with
    | cons h1 h =>
    cases h with
    | cons h2 h =>
    cases h
    obtain ⟨l, rfl, hl, hd⟩ := rdF_docs h1
    cases h2 with
    | sl sz e es hl2 hz h =>
    obtain ⟨g, rfl, hb⟩ := map_choiceF (f := Post.enc) (p := PostF B) (fun x hx => rdF_postB (h x hx))
    exact ⟨⟨l, g⟩, rfl, ⟨hl, hd⟩, by simpa using hl2, hb⟩
theorem seg_of_trodW {H : Type} {enc : TypeId × Value → H} {P : Program} {w : World} {sp : Nat → Bool} {held : Bool} {t : TypeId} {v : Value} {d : DataW H} {ps : List MemPlace} {B : Nat} (hk : shOKW P segShF t = true)
    (h : DataW.Trod enc P w 0 sp held t v d ps) (hB : ∀ n ∈ d.weights P t, n ≤ B) : ∃ s : Seg, IRep w (fun _ => False) (.agg s.enc) v ∧ SegFB B s := by
  obtain ⟨hs, h1, h2⟩ := arg_of_trodW segShF hk h hB
  obtain ⟨s, rfl, hg⟩ := rdF_segB h1
  exact ⟨s, agg_of_reps (by simp [Seg.enc]) h2, hg⟩
end Go.Hv
set_option linter.unusedVariables false
set_option linter.unusedSimpArgs false
/- The laws of layer 29, in the form in which their rows ask for them. -/
namespace Go.Hv
open Go Go.Hv Go.Proofs Go.RowKit
open Go.Proofs.YtlbmbnpknobjdaaGreatDoor
theorem buildsR (l : List Doc) (g : l.length ≤ 140737488355328 ∧ ∀ d ∈ l, DocF 140737488355328 d) : Spec1 Tryz.prog 3 [.sl 5 false (docsHV l)] (bo true) := builds_of alive_spec l g
theorem checksR (s t : Seg) (g : SegFB 140737488355328 s) (h : SegFB 140737488355328 t) : Spec1 Tryz.prog 4 [.agg s.enc, .agg t.enc] (bo true) := checks_of alive_spec s t g.1 h.1 g.2.1 g.2.2 h.2.1 h.2.2
theorem asksR (l : List Doc) (c d : Int) (g : l.length ≤ 140737488355328 ∧ ∀ d ∈ l, DocF 140737488355328 d) : Spec1 Tryz.prog 5 [.sl 5 false (docsHV l), i64 c, i64 d] (bo true) := asks_of alive_spec l c d g
theorem sizesR (l : List Doc) (g : l.length ≤ 140737488355328 ∧ ∀ d ∈ l, DocF 140737488355328 d) : Spec1 Tryz.prog 8 [.sl 5 false (docsHV l)] (bo true) := sizes_of alive_spec l g
end Go.Hv
set_option linter.unusedVariables false
/- What the laws of this seat lean on besides their arguments: out of the world's shape; the wrap of a listed row, the shape kept. -/
namespace Go.Hv
open Go Go.Proofs
open Go.Proofs.YtlbmbnpknobjdaaGreatDoor
theorem gok {w : World} (h : w.ShapedOpen Tryz.prog) : GI.G w :=
  Go.Proofs.cell_of_shapedOpen_int (g := 0) (zero := #[.int .i64 0]) (t := 3) h (of_decide_eq_true (by kernel_rfl)) (by kernel_rfl) rfl (by kernel_rfl) (by kernel_rfl) Tryz.underlying3
end Go.Hv
namespace Go
variable {H : Type} {enc : TypeId × Value → H}
theorem returnsInHanded_and_shaped {a : Assume} {C : Checked} {os : Os} {f : FuncId} {fn : Func} {s : ChangeSpec} {conds : List PathCond} {apart fresh handsOn again : Bool} {X : World → Array Value → Prop}
    (hX : ∀ (w w' : World) (args : Array Value), w.heap = w'.heap → X w args → X w' args)
    (own : ownKnob C.prog.godebug = none) (started : os.Started) (noInit : C.prog.inits.idxOf? f = none) (hfn : C.prog.funcs[f]? = some fn)
    (witness : ∃ (w : World) (tape : Tape) (i : Input), w.os = os ∧ (w.forCall tape i).Shaped C.prog ∧ i.vars = [] ∧ Input.okWide C.prog (w.forCall tape i) .any w.heap.size f i ∧
      ((s.pre enc C.prog fn conds apart (w.forCall tape i).memory i.args ∧ X (w.forCall tape i).memory i.args) ∧ sizedMet enc C.prog fn (OpenSpec.ofChange s) apart (w.forCall tape i).memory i.args) ∧ a.holds C.prog (lone (Frame.enter C.prog f i.args .normal) [] (w.forCall tape i)))
    (contract : ∀ (W : World) (base : Nat) (args : Array Value) (ds gs : List (DataW H)) (before : List MemPlace),
      (∀ (j : Nat) t v, fn.params[j]? = some t → args[j]? = some v → Value.okWide C.prog W .any base t v) →
      DataW.Whole enc C.prog fn.params.toList s.vars apart W args.toList ds gs before →
      conds.all (PathCond.test C.prog ⟨fn.params.toList, ds, s.plain.varTypes C.prog, gs⟩) = true →
      (DataW.weightsEach C.prog (fn.params.toList ++ s.plain.varTypes C.prog) (ds ++ gs)).all (· ≤ reachBytes) = true → X W args → W.ShapedOpen C.prog →
      a.holds C.prog (lone (Frame.enter C.prog f args .normal) [] W) →
      Calls C.prog f args W fun e W' => ∃ v, e = .returned v ∧ s.post enc C.prog fn apart fresh handsOn again W args v W') :
    ReturnsInHanded a C os f .any (fun w args => (s.pre enc C.prog fn conds apart w args ∧ X w args) ∧ sizedMet enc C.prog fn (OpenSpec.ofChange s) apart w args) (s.post enc C.prog fn apart fresh handsOn again) := by
  refine returnsInHanded_of_calls own started noInit witness ?_
  intro w tape i _ hsh _ hok hpre hholds
  obtain ⟨_, _, _, fn', hfn', _, _, _, _, hval⟩ := hok
  have e : fn' = fn := Option.some.inj (hfn'.symm.trans hfn)
  subst e
  obtain ⟨⟨⟨ds, gs, before, hw, hc⟩, hx⟩, hz⟩ := hpre
  have hw' := DataW.Whole.of_heap (w' := w.forCall tape i) (by rfl) hw
  refine (contract (w.forCall tape i) w.heap.size i.args ds gs before hval hw' hc (hz.weights hw) (hX _ _ _ (by rfl) hx) hsh hholds).mono fun e W' ⟨v, he, hp⟩ => ?_
  subst he
  exact ChangeSpec.post_blind hp
end Go
