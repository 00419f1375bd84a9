import Derived.Test.YtlbmbnpknobjdaaGreatDoorWX5
import Derived.HandedShaped
import Derived.Shelf.Vars
import Derived.ProofKit
import Derived.OpenShut
import Derived.LaidMore
import Derived.Lay
import Derived.SevenTiedAt
import Derived.Stop.Joined
set_option linter.unusedVariables false
set_option linter.unusedSimpArgs false
/- The law SegmentFinds (layer 29). -/
namespace Go.Hv
open Go Go.Hv Go.Proofs Go.RowKit
open Go.Proofs.YtlbmbnpknobjdaaGreatDoor
theorem find29_off {l : List Doc} {t : List UInt8} (h : ∀ d ∈ l, d.text.length ≤ 900) : ∀ g ∈ find29 l t, g.off.length ≤ 1000 := fun g hg => by
  unfold find29 at hg
  obtain ⟨d, hd, rfl⟩ := List.mem_map.1 (List.mem_filter.1 hg).1
  have h1 : (findV (foldS d.text) (foldS t)).length ≤ (foldS d.text).length + 1 := by
    have := findK_length (foldS d.text) (foldS t) ((foldS d.text).length + 1 - (foldS t).length)
    unfold findV; omega
  have h2 := h d hd
  have h3 : (foldS d.text).length = d.text.length := by simp [foldS]
  show (findV (foldS d.text) (foldS t)).length ≤ 1000
  omega
theorem find29_len' (l : List Doc) (t : List UInt8) : (find29 l t).length ≤ l.length := by
  have := find29_len l t l.length
  rwa [List.take_length] at this
theorem evalR_len (l : List Doc) (n : NeedT) : (evalR l n).length ≤ l.length := by
  unfold evalR
  split
  · have := eval29_len n l l.length
    rwa [List.take_length] at this
  · simp
theorem SameAt_find {l : List Doc} (t : List UInt8) (hl : l.length ≤ 64) (h : ∀ d ∈ l, d.text.length ≤ 900) : Spec1 Tryz.prog 28 [.sl 2 false (gramsHV (find29 l t)), .sl 2 false (gramsHV (find29 l t))] (bo true) := by
  have := SameAt_spec (find29 l t) (find29 l t) (by have := find29_len' l t; omega) (fun g hg => by have := find29_off h g hg; omega)
  simpa using this
theorem Same_eval {l : List Doc} (n : NeedT) (hl : l.length ≤ 64) : Spec1 Tryz.prog 22 [.sl 1 false (intsHV (evalR l n)), .sl 1 false (intsHV (evalR l n))] (bo true) := by
  have := Same5_spec (evalR l n) (evalR l n) (by have := evalR_len l n; omega)
  simpa using this
theorem grams_few {l : List Doc} (h : rightV l = 0) (h12 : l.length ≤ 12) : (gramsOf l).length ≤ 128000 ∧ ∀ p ∈ gramsOf l, p.docs.length ≤ 64 := by
  have hp := gramsOf_B (right_txt h)
  refine ⟨hp.1, fun p hp' => ?_⟩
  obtain ⟨c, _, rfl⟩ := List.mem_map.1 hp'
  have := postV_length l c
  show (postV l c).length ≤ 64
  omega
set_option maxRecDepth 20000 in
set_option maxHeartbeats 8000000 in
theorem finds_spec (l : List Doc) (t : List UInt8) (n : NeedT) (hl : DocsB 140737488355328 l) (htb : t.length ≤ 140737488355328) (hb : NeedB 140737488355328 n) : Spec1 Tryz.prog 6 [.sl 5 false (docsHV l), .str t, .agg (needC n)] (bo true) := by
  refine Spec1.of_HT Tryz.func6 rfl (by rw [Tryz.ntmps6]; simp) rfl ?_
  rw [Tryz.ntmps6]
  refine HT.seq ?_
  refine HT.region ?_   -- R0
  simp (disch := first | omega | (simp <;> omega) | fail) [wrap_i64, wrap_u64, wrap_u8']
  refine HT.seq ?_
  refine HT.seq ?_
  refine HT.region ?_   -- R1
  simp (disch := first | omega | (simp <;> omega) | fail) [wrap_i64, wrap_u64, wrap_u8']
  refine stepK.mk (.call1f _ _ _ _ _ rfl Ty.hb10 rfl rfl (alive_spec) rfl) ?_
  simp (disch := first | omega | (simp <;> omega) | fail) [wrap_i64, wrap_u64, wrap_u8']
  refine HT.cond' ?_   -- if 12
  simp (disch := first | omega | (simp <;> omega) | fail) [wrap_i64, wrap_u64, wrap_u8']
  refine HT.skip ?_
  simp (disch := first | omega | (simp <;> omega) | fail) [wrap_i64, wrap_u64, wrap_u8']
  refine HT.seq ?_
  refine HT.seq ?_
  by_cases f : fewV l = false
  · skip
    refine HT.region ?_   -- R3
    simp (disch := first | omega | (simp <;> omega) | fail) [wrap_i64, wrap_u64, wrap_u8', f]
    refine stepK.mk (.call1f _ _ _ _ _ rfl Ty.hb11 rfl rfl (few_spec l hl.1 (docB_few hl)) rfl) ?_
    simp (disch := first | omega | (simp <;> omega) | fail) [wrap_i64, wrap_u64, wrap_u8', f]
    refine HT.cond' ?_   -- if 30
    simp (disch := first | omega | (simp <;> omega) | fail) [wrap_i64, wrap_u64, wrap_u8']
    refine HT.seq ?_
    refine HT.region ?_   -- R4
    simp (disch := first | omega | (simp <;> omega) | fail) [wrap_i64, wrap_u64, wrap_u8']
    refine HT.ret ?_
    simp (disch := first | omega | (simp <;> omega) | fail) [wrap_i64, wrap_u64, wrap_u8']
  rw [Bool.not_eq_false] at f
  by_cases r : ¬ rightV l = 0
  · skip
    refine HT.region ?_   -- R3
    simp (disch := first | omega | (simp <;> omega) | fail) [wrap_i64, wrap_u64, wrap_u8', f, r]
    refine stepK.mk (.call1f _ _ _ _ _ rfl Ty.hb11 rfl rfl (few_spec l hl.1 (docB_few hl)) rfl) ?_
    simp (disch := first | omega | (simp <;> omega) | fail) [wrap_i64, wrap_u64, wrap_u8', f, r]
    refine stepK.mk (.call1f _ _ _ _ _ rfl Ty.hb21 rfl rfl (refRight_spec l hl) rfl) ?_
    simp (disch := first | omega | (simp <;> omega) | fail) [wrap_i64, wrap_u64, wrap_u8', f, r]
    refine HT.cond' ?_   -- if 30
    simp (disch := first | omega | (simp <;> omega) | fail) [wrap_i64, wrap_u64, wrap_u8']
    refine HT.seq ?_
    refine HT.region ?_   -- R4
    simp (disch := first | omega | (simp <;> omega) | fail) [wrap_i64, wrap_u64, wrap_u8']
    refine HT.ret ?_
    simp (disch := first | omega | (simp <;> omega) | fail) [wrap_i64, wrap_u64, wrap_u8']
  rw [Classical.not_not] at r
  by_cases t2 : 200 < t.length
  · skip
    refine HT.region ?_   -- R3
    simp (disch := first | omega | (simp <;> omega) | fail) [wrap_i64, wrap_u64, wrap_u8', f, r, t2]
    refine stepK.mk (.call1f _ _ _ _ _ rfl Ty.hb11 rfl rfl (few_spec l hl.1 (docB_few hl)) rfl) ?_
    simp (disch := first | omega | (simp <;> omega) | fail) [wrap_i64, wrap_u64, wrap_u8', f, r, t2]
    refine stepK.mk (.call1f _ _ _ _ _ rfl Ty.hb21 rfl rfl (refRight_spec l hl) rfl) ?_
    simp (disch := first | omega | (simp <;> omega) | fail) [wrap_i64, wrap_u64, wrap_u8', f, r, t2]
    refine HT.cond' ?_   -- if 30
    simp (disch := first | omega | (simp <;> omega) | fail) [wrap_i64, wrap_u64, wrap_u8']
    refine HT.seq ?_
    refine HT.region ?_   -- R4
    simp (disch := first | omega | (simp <;> omega) | fail) [wrap_i64, wrap_u64, wrap_u8']
    refine HT.ret ?_
    simp (disch := first | omega | (simp <;> omega) | fail) [wrap_i64, wrap_u64, wrap_u8']
  by_cases n2 : 60 < nodesN n 60
  · skip
    refine HT.region ?_   -- R3
    simp (disch := first | omega | (simp <;> omega) | fail) [wrap_i64, wrap_u64, wrap_u8', f, r, t2, n2]
    refine stepK.mk (.call1f _ _ _ _ _ rfl Ty.hb11 rfl rfl (few_spec l hl.1 (docB_few hl)) rfl) ?_
    simp (disch := first | omega | (simp <;> omega) | fail) [wrap_i64, wrap_u64, wrap_u8', f, r, t2, n2]
    refine stepK.mk (.call1f _ _ _ _ _ rfl Ty.hb21 rfl rfl (refRight_spec l hl) rfl) ?_
    simp (disch := first | omega | (simp <;> omega) | fail) [wrap_i64, wrap_u64, wrap_u8', f, r, t2, n2]
    refine stepK.mk (.call1f _ _ _ _ _ rfl Ty.hb27 rfl rfl (Nodes_spec n hb 60 (by decide) (by decide)) rfl) ?_
    simp (disch := first | omega | (simp <;> omega) | fail) [wrap_i64, wrap_u64, wrap_u8', f, r, t2, n2]
    refine HT.cond' ?_   -- if 30
    simp (disch := first | omega | (simp <;> omega) | fail) [wrap_i64, wrap_u64, wrap_u8']
    refine HT.seq ?_
    refine HT.region ?_   -- R4
    simp (disch := first | omega | (simp <;> omega) | fail) [wrap_i64, wrap_u64, wrap_u8']
    refine HT.ret ?_
    simp (disch := first | omega | (simp <;> omega) | fail) [wrap_i64, wrap_u64, wrap_u8']
  have hbd := build_yes r
  have hT := seg_T r
  have hft := few_text f
  have hg := grams_few r hft.1
  have hx : ∀ d ∈ l, d.text.length ≤ 900 := fun d hd => by have := hft.2 d hd; omega
  refine HT.region ?_   -- R3
  simp (disch := first | omega | (simp <;> omega) | fail) [wrap_i64, wrap_u64, wrap_u8', f, r, t2, n2]
  refine stepK.mk (.call1f _ _ _ _ _ rfl Ty.hb11 rfl rfl (few_spec l hl.1 (docB_few hl)) rfl) ?_
  simp (disch := first | omega | (simp <;> omega) | fail) [wrap_i64, wrap_u64, wrap_u8', f, r, t2, n2]
  refine stepK.mk (.call1f _ _ _ _ _ rfl Ty.hb21 rfl rfl (refRight_spec l hl) rfl) ?_
  simp (disch := first | omega | (simp <;> omega) | fail) [wrap_i64, wrap_u64, wrap_u8', f, r, t2, n2]
  refine stepK.mk (.call1f _ _ _ _ _ rfl Ty.hb27 rfl rfl (Nodes_spec n hb 60 (by decide) (by decide)) rfl) ?_
  simp (disch := first | omega | (simp <;> omega) | fail) [wrap_i64, wrap_u64, wrap_u8', f, r, t2, n2]
  refine HT.cond' ?_   -- if 30
  simp (disch := first | omega | (simp <;> omega) | fail) [wrap_i64, wrap_u64, wrap_u8']
  refine HT.skip ?_
  simp (disch := first | omega | (simp <;> omega) | fail) [wrap_i64, wrap_u64, wrap_u8']
  refine HT.seq ?_
  refine HT.region ?_   -- R5
  simp (disch := first | omega | (simp <;> omega) | fail) [wrap_i64, wrap_u64, wrap_u8']
  refine stepK.mk (.callTf _ _ _ _ _ rfl Ty.hb12 rfl rfl (Build_spec l hl) rfl) ?_
  simp (disch := first | omega | (simp <;> omega) | fail) [wrap_i64, wrap_u64, wrap_u8', hbd]
  refine HT.seq ?_
  refine HT.region ?_   -- R6
  simp (disch := first | omega | (simp <;> omega) | fail) [wrap_i64, wrap_u64, wrap_u8']
  refine stepK.mk (.callTf _ _ _ _ _ rfl Ty.hb13 rfl rfl (refBuild_spec l hl) rfl) ?_
  simp (disch := first | omega | (simp <;> omega) | fail) [wrap_i64, wrap_u64, wrap_u8', hbd]
  refine HT.seq ?_
  refine HT.draw [.batch [0, 1, 2, 3, 4, 5, 6, 7, 8, 9, 10, 11, 12, 13, 14, 15, 16]] (by kernel_rfl) ?_   -- R7
  simp -dsimp (disch := first | omega | (simp <;> omega) | fail) [wrap_i64, wrap_u64, wrap_u8']
  refine stepK.mk (.call1 _ _ _ rfl Ty.hb29 rfl rfl (Find_seg l t (right_inc r) (by omega) hx (by omega) hT)) ?_
  simp -dsimp (disch := first | omega | (simp <;> omega) | fail) [wrap_i64, wrap_u64, wrap_u8']
  refine stepK.mk (.call1 _ _ _ rfl Ty.hb30 rfl rfl (refFind_seg l t (by omega) hx (by omega))) ?_
  simp -dsimp (disch := first | omega | (simp <;> omega) | fail) [wrap_i64, wrap_u64, wrap_u8']
  refine stepK.mk (.call1 _ _ _ rfl Ty.hb28 rfl rfl (SameAt_find t (by omega) hx)) ?_
  simp -dsimp (disch := first | omega | (simp <;> omega) | fail) [wrap_i64, wrap_u64, wrap_u8']
  refine stepK.mk (.call1 _ _ _ rfl Ty.hb31 rfl rfl (Eval_seg l n (right_inc r) (by omega) hx hb hg.1 hg.2)) ?_
  simp -dsimp (disch := first | omega | (simp <;> omega) | fail) [wrap_i64, wrap_u64, wrap_u8']
  refine stepK.mk (.call1 _ _ _ rfl Ty.hb32 rfl rfl (refEval_seg l n (by omega) hx hb)) ?_
  simp -dsimp (disch := first | omega | (simp <;> omega) | fail) [wrap_i64, wrap_u64, wrap_u8']
  refine stepK.mk (.call1 _ _ _ rfl Ty.hb22 rfl rfl (Same_eval n (by omega))) ?_
  simp -dsimp (disch := first | omega | (simp <;> omega) | fail) [wrap_i64, wrap_u64, wrap_u8']
  refine HT.ret ?_
  simp (disch := first | omega | (simp <;> omega) | fail) [wrap_i64, wrap_u64, wrap_u8']
end Go.Hv
set_option linter.unusedVariables false
set_option linter.unusedSimpArgs false
/- The law SegmentParts (layer 29). -/
namespace Go.Hv
open Go Go.Hv Go.Proofs Go.RowKit
open Go.Proofs.YtlbmbnpknobjdaaGreatDoor
end Go.Hv
set_option linter.unusedVariables false
set_option linter.unusedSimpArgs false
/- occurs, and the plain law of SegmentExact (layer 29). -/
namespace Go.Hv
open Go Go.Hv Go.Proofs Go.RowKit
open Go.Proofs.YtlbmbnpknobjdaaGreatDoor
end Go.Hv
set_option linter.unusedVariables false
set_option linter.unusedSimpArgs false
/- The law SegmentExact (layer 29). -/
namespace Go.Hv
open Go Go.Hv Go.Proofs Go.RowKit
open Go.Proofs.YtlbmbnpknobjdaaGreatDoor
end Go.Hv
set_option linter.unusedVariables false
set_option linter.unusedSectionVars false
set_option linter.unusedSimpArgs false
namespace Go.Hv
open Go Go.Hv
variable [GI]
/-! ### Documents and segments that are handed in -/
@[reducible] def strsShF : ShT := .sl 1 .str
@[reducible] def docShF : ShT := .st [.int .i64, .str, .str, .str, strsShF]
@[reducible] def docsShF : ShT := .sl 5 docShF
@[reducible] def postShF : ShT := .st [.int .i64, gramsSh]
@[reducible] def segShF : ShT := .st [docsShF, .sl 2 postShF]
@[reducible] def segsShF : ShT := .sl 2 segShF
def DocF (B : Nat) (d : Doc) : Prop := d.repo.length ≤ B ∧ d.path.length ≤ B ∧ d.text.length ≤ B ∧ d.on.length ≤ B ∧ ∀ s ∈ d.on, s.length ≤ B
theorem rdF_strs {B : Nat} {x : List HV} (h : RdF B strsShF x) : ∃ l, x = [.sl 1 false (strsHV l)] ∧ l.length ≤ B ∧ ∀ s ∈ l, s.length ≤ B := by
  cases h with
  | sl sz e es hl hz h =>
    obtain ⟨on, rfl, hon⟩ := map_choiceF (f := fun s => [HV.str s]) (p := fun s => s.length ≤ B) (fun x hx => rdF_str (h x hx))
    exact ⟨on, rfl, by simpa using hl, hon⟩
theorem rdF_doc {B : Nat} {x : List HV} (h : RdF B docShF x) : ∃ d : Doc, x = d.enc ∧ DocF B d := by
  cases h with
  | st fs hs h =>
    cases h with
    | cons h1 h =>
    cases h with
    | cons h2 h =>
    cases h with
    | cons h3 h =>
    cases h with
    | cons h4 h =>
    cases h with
    | cons h5 h =>
    cases h
    obtain ⟨n, rfl, hn⟩ := rdF_int h1
    obtain ⟨r, rfl, hr⟩ := rdF_str h2
    obtain ⟨p, rfl, hp⟩ := rdF_str h3
    obtain ⟨t, rfl, ht⟩ := rdF_str h4
    obtain ⟨on, rfl, ho, hos⟩ := rdF_strs h5
    exact ⟨⟨n, r, p, t, on⟩, rfl, hr, hp, ht, ho, hos⟩
theorem rdF_docs {B : Nat} {x : List HV} (h : RdF B docsShF x) : ∃ l : List Doc, x = [.sl 5 false (docsHV l)] ∧ l.length ≤ B ∧ ∀ d ∈ l, DocF B d := by
  cases h with
  | sl sz e es hl hz h =>
    obtain ⟨l, rfl, hb⟩ := map_choiceF (f := Doc.enc) (p := DocF B) (fun x hx => rdF_doc (h x hx))
    exact ⟨l, rfl, by simpa using hl, hb⟩
theorem docs_of_trodW {H : Type} {enc : TypeId × Value → H} {P : Program} {w : World} {sp : Nat → Bool} {held : Bool} {t : TypeId} {a : Option Addr} {n c : Nat} {d : DataW H} {ps : List MemPlace} {B : Nat} (hk : shOKW P docsShF t = true)
    (h : DataW.Trod enc P w 0 sp held t (.slice a n c) d ps) (hB : ∀ n ∈ d.weights P t, n ≤ B) : ∃ l : List Doc, IRep w (fun _ => False) (.sl 5 false (docsHV l)) (.slice a n c) ∧ l.length ≤ B ∧ ∀ d ∈ l, DocF B d := by
  obtain ⟨hs, h1, h2⟩ := arg_of_trodW docsShF hk h hB
  obtain ⟨l, rfl, hl, hg⟩ := rdF_docs h1
  exact ⟨l, repsF_one h2, hl, hg⟩
end Go.Hv
set_option linter.unusedVariables false
set_option linter.unusedSectionVars false
set_option linter.unusedSimpArgs false
namespace Go.Hv
open Go Go.Hv
variable [GI]
/-! ### A segment and a condition that are handed in -/
theorem reps_at {w : World} {dead : Nat → Prop} {hs : List HV} {us : List Value} (h : Reps w dead hs us) : us.length = hs.length ∧ ∀ (j : Nat) (c : HV) (v : Value), hs[j]? = some c → us[j]? = some v → IRep w dead c v := by
  induction h with
  | nil => exact ⟨rfl, by simp⟩
  | cons a b ih =>
    refine ⟨by simp [ih.1], fun j c v h1 h2 => ?_⟩
    cases j with
    | zero => simp at h1 h2; subst h1; subst h2; exact a
    | succ j => exact ih.2 j c v (by simpa using h1) (by simpa using h2)
theorem agg_of_reps {w : World} {dead : Nat → Prop} {hs : List HV} {v : Value} (hl : hs.length ≠ 1) (h : Reps w dead hs v.cells.toList) : IRep w dead (.agg hs) v := by
  obtain ⟨h1, h2⟩ := reps_at h
  cases v with
  | agg vs => exact .agg (by simpa [Value.cells] using h1) (fun j c v hc hv => h2 j c v hc (by simpa [Value.cells] using hv))
  | _ => exact absurd h1.symm (by simpa [Value.cells] using hl)
theorem needV_of_trodW {H : Type} {enc : TypeId × Value → H} {P : Program} {w : World} {sp : Nat → Bool} {held : Bool} {t : TypeId} {v : Value} {d : DataW H} {ps : List MemPlace} {B : Nat} (hk : needTy P t = true)
    (h : DataW.Trod enc P w 0 sp held t v d ps) (hB : ∀ n ∈ d.weights P t, n ≤ B) : ∃ n : NeedT, IRep w (fun _ => False) (.agg n.enc) v ∧ NeedB B n := by
  obtain ⟨fuel, hf⟩ := h
  obtain ⟨hs, ⟨n, rfl, hn⟩, h2, _⟩ := need_of_trodW hk fuel _ _ hf hB
  exact ⟨n, agg_of_reps (by cases n; simp [NeedT.enc]) h2, hn⟩
end Go.Hv
set_option linter.unusedVariables false
set_option linter.unusedSimpArgs false
/- The laws of layer 29, in the form in which their rows ask for them. -/
namespace Go.Hv
open Go Go.Hv Go.Proofs Go.RowKit
open Go.Proofs.YtlbmbnpknobjdaaGreatDoor
theorem needC_enc (n : NeedT) : needC n = n.enc := by cases n; rfl
theorem findsR (l : List Doc) (t : List UInt8) (n : NeedT) (g : l.length ≤ 140737488355328 ∧ ∀ d ∈ l, DocF 140737488355328 d) (h : t.length ≤ 140737488355328) (k : NeedB 140737488355328 n) : Spec1 Tryz.prog 6 [.sl 5 false (docsHV l), .str t, .agg n.enc] (bo true) := by
  rw [← needC_enc]; exact finds_spec l t n g h k
end Go.Hv
set_option linter.unusedVariables false
/- What the laws of this seat lean on besides their arguments: out of the world's shape; the wrap of a listed row, the shape kept. -/
namespace Go.Hv
open Go Go.Proofs
open Go.Proofs.YtlbmbnpknobjdaaGreatDoor
theorem gok {w : World} (h : w.ShapedOpen Tryz.prog) : GI.G w :=
  Go.Proofs.cell_of_shapedOpen_int (g := 0) (zero := #[.int .i64 0]) (t := 3) h (of_decide_eq_true (by kernel_rfl)) (by kernel_rfl) rfl (by kernel_rfl) (by kernel_rfl) Tryz.underlying3
end Go.Hv
namespace Go
variable {H : Type} {enc : TypeId × Value → H}
theorem returnsInHanded_and_shaped {a : Assume} {C : Checked} {os : Os} {f : FuncId} {fn : Func} {s : ChangeSpec} {conds : List PathCond} {apart fresh handsOn again : Bool} {X : World → Array Value → Prop}
    (hX : ∀ (w w' : World) (args : Array Value), w.heap = w'.heap → X w args → X w' args)
    (own : ownKnob C.prog.godebug = none) (started : os.Started) (noInit : C.prog.inits.idxOf? f = none) (hfn : C.prog.funcs[f]? = some fn)
    (witness : ∃ (w : World) (tape : Tape) (i : Input), w.os = os ∧ (w.forCall tape i).Shaped C.prog ∧ i.vars = [] ∧ Input.okWide C.prog (w.forCall tape i) .any w.heap.size f i ∧
      ((s.pre enc C.prog fn conds apart (w.forCall tape i).memory i.args ∧ X (w.forCall tape i).memory i.args) ∧ sizedMet enc C.prog fn (OpenSpec.ofChange s) apart (w.forCall tape i).memory i.args) ∧ a.holds C.prog (lone (Frame.enter C.prog f i.args .normal) [] (w.forCall tape i)))
    (contract : ∀ (W : World) (base : Nat) (args : Array Value) (ds gs : List (DataW H)) (before : List MemPlace),
      (∀ (j : Nat) t v, fn.params[j]? = some t → args[j]? = some v → Value.okWide C.prog W .any base t v) →
      DataW.Whole enc C.prog fn.params.toList s.vars apart W args.toList ds gs before →
      conds.all (PathCond.test C.prog ⟨fn.params.toList, ds, s.plain.varTypes C.prog, gs⟩) = true →
      (DataW.weightsEach C.prog (fn.params.toList ++ s.plain.varTypes C.prog) (ds ++ gs)).all (· ≤ reachBytes) = true → X W args → W.ShapedOpen C.prog →
      a.holds C.prog (lone (Frame.enter C.prog f args .normal) [] W) →
      Calls C.prog f args W fun e W' => ∃ v, e = .returned v ∧ s.post enc C.prog fn apart fresh handsOn again W args v W') :
    ReturnsInHanded a C os f .any (fun w args => (s.pre enc C.prog fn conds apart w args ∧ X w args) ∧ sizedMet enc C.prog fn (OpenSpec.ofChange s) apart w args) (s.post enc C.prog fn apart fresh handsOn again) := by
  refine returnsInHanded_of_calls own started noInit witness ?_
  intro w tape i _ hsh _ hok hpre hholds
  obtain ⟨_, _, _, fn', hfn', _, _, _, _, hval⟩ := hok
  have e : fn' = fn := Option.some.inj (hfn'.symm.trans hfn)
  subst e
  obtain ⟨⟨⟨ds, gs, before, hw, hc⟩, hx⟩, hz⟩ := hpre
  have hw' := DataW.Whole.of_heap (w' := w.forCall tape i) (by rfl) hw
  refine (contract (w.forCall tape i) w.heap.size i.args ds gs before hval hw' hc (hz.weights hw) (hX _ _ _ (by rfl) hx) hsh hholds).mono fun e W' ⟨v, he, hp⟩ => ?_
  subst he
  exact ChangeSpec.post_blind hp
end Go
