import Derived.Test.YthdljfognblpbaaGreatDoorWB5
import Derived.HandedShaped
import Derived.Shelf.Vars
import Derived.ProofKit
import Derived.OpenShut
import Derived.LaidMore
import Derived.Lay
import Derived.SevenTiedAt
import Derived.Stop.Joined
set_option linter.unusedVariables false
set_option linter.unusedSimpArgs false
namespace Go.Hv
open Go Go.Hv Go.Proofs Go.RowKit
open Go.Proofs.YthdljfognblpbaaGreatDoor
def rowP (p : List (Int × Gram)) (i : Nat) : HObj := .row 58 2 (gramsHV (gat p ((fK p).getD i 0)))
theorem fK_snoc_get (p : List (Int × Gram)) (c : Int) (g : Gram) {i : Nat} (hi : i < (fK p).length) : (fK (p ++ [(c, g)]))[i]? = (fK p)[i]? := by
  rw [fK_snoc]; unfold adK
  split
  · rfl
  · rw [List.getElem?_append_left hi]
theorem rowP_same {p : List (Int × Gram)} {c : Int} {g : Gram} {i : Nat} (hi : i < (fK p).length) (hne : (fK p)[i]? ≠ some c) : rowP (p ++ [(c, g)]) i = rowP p i := by
  unfold rowP
  rw [List.getD_eq_getElem?_getD, List.getD_eq_getElem?_getD, fK_snoc_get p c g hi, List.getElem?_eq_getElem hi, gat_snoc, if_neg, List.append_nil]
  rw [List.getElem?_eq_getElem hi] at hne
  intro h
  exact hne (by rw [h]; rfl)
theorem rowP_hit {p : List (Int × Gram)} {c : Int} {g : Gram} {i : Nat} (he : (fK (p ++ [(c, g)]))[i]? = some c) : rowP (p ++ [(c, g)]) i = .row 58 2 (gramsHV (gat p c ++ [g])) := by
  unfold rowP
  rw [List.getD_eq_getElem?_getD, he, gat_snoc]
  simp
theorem isIM_fentsP (p : List (Int × Gram)) (ks : List Int) : isIM (fents eI (fun k => HV.sl 2 false (gramsHV (gat p k))) ks) = true := isIM_fents _ _ _ (fun _ => rfl)
theorem subM_kents_lo {i : Nat} {x y : HV} {ks : List Int} (h : i < 1000) : subM i x y (kents eI 1000 ks) = kents eI 1000 ks := subM_kents_out (.inl h)
theorem eq_lo {m i : Nat} (h : m < 1000) : (m = 1000 + i) = False := eq_false (by omega)
theorem eq_lo' {m i : Nat} (h : m < 1000) : (1000 + i = m) = False := eq_false (by omega)
/-! ### The postings in order -/
def pst (l : List Doc) (c : Int) : Post := ⟨c, gat (evsL l) c⟩
def leP (a b : Post) : Bool := decide (a.code ≤ b.code)
def pp (p : Post) : Int × HV := (p.code, .sl 2 false (gramsHV p.docs))
theorem posts_pairs (l : List Post) : postsHV l = pairsHV (l.map pp) := by simp [postsHV, pairsHV, pp]
theorem SortPosts_spec (l : List Post) (hr : ∀ p ∈ l, 0 ≤ p.code ∧ p.code < 16777216) (hnd : (l.map (·.code)).Nodup) (hlen : l.length < 4611686018427387904) : SpecS Tryz.prog 41 56 2 (postsHV l) [.fn (.func 42) []] (postsHV (l.mergeSort leP)) := by
  rw [posts_pairs, posts_pairs, List.map_mergeSort (r := leP) (s := leC) (f := pp) (l := l) (fun _ _ _ _ => rfl)]
  refine SortFuncP_spec _ (fun p hp => ?_) ?_ (fun p hp => ?_) (by simpa using hlen)
  · obtain ⟨g, hg, rfl⟩ := List.mem_map.1 hp; exact hr g hg
  · rw [List.map_map]; exact hnd
  · obtain ⟨g, hg, rfl⟩ := List.mem_map.1 hp; simp [pp, isI]
theorem gramsOf_pst (l : List Doc) : gramsOf l = (codesV l).map (pst l) := by
  unfold gramsOf pst
  exact List.map_congr_left fun c _ => by rw [gat_evsL]
theorem posts_perm (l : List Doc) {d : List Nat} (h : (d ++ []).Perm (List.range (fK (evsL l)).length)) : (d.map fun i => (fK (evsL l))[i]?.getD 0).Perm (codesV l) := by
  have := perm_taken 0 h
  simp only [List.getD_eq_getElem?_getD] at this
  exact this.trans (fK_codes l)
theorem posts_sorted (l : List Doc) {d : List Nat} (h : (d ++ []).Perm (List.range (fK (evsL l)).length)) : (d.map fun i => pst l ((fK (evsL l))[i]?.getD 0)).mergeSort leP = gramsOf l := by
  rw [gramsOf_pst, ← mergeSort_of_inc (codesV_inc l) (posts_perm l h)]
  have := List.map_mergeSort (r := leI) (s := leP) (f := pst l) (l := d.map fun i => (fK (evsL l))[i]?.getD 0) (fun _ _ _ _ => rfl)
  rw [List.map_map] at this
  exact this.symm
theorem posts_ok (l : List Doc) {d : List Nat} (h : (d ++ []).Perm (List.range (fK (evsL l)).length)) :
    (∀ p ∈ d.map (fun i => pst l ((fK (evsL l))[i]?.getD 0)), 0 ≤ p.code ∧ p.code < 16777216) ∧ ((d.map (fun i => pst l ((fK (evsL l))[i]?.getD 0))).map (·.code)).Nodup := by
  have hp := posts_perm l h
  refine ⟨fun p hm => ?_, ?_⟩
  · obtain ⟨i, hi, rfl⟩ := List.mem_map.1 hm
    have : (fK (evsL l))[i]?.getD 0 ∈ codesV l := (hp.mem_iff).1 (List.mem_map.2 ⟨i, hi, rfl⟩)
    obtain ⟨d, _, hc⟩ := (codesV_mem l _).1 this
    obtain ⟨j, _, hj⟩ := (ofK_mem _ _ _).1 hc
    simp only [pst]
    rw [← hj]
    exact code3_lt _ _ _
  · rw [List.map_map]
    exact hp.symm.nodup ((codesV_inc l).imp fun h => by intro e; subst e; omega)
set_option maxRecDepth 20000 in
set_option maxHeartbeats 8000000 in
theorem Build_spec (l : List Doc) (hl : DocsB 140737488355328 l) : SpecT Tryz.prog 15 [.sl 5 false (docsHV l)] [.agg (buildV l).1.enc, i64 (buildV l).2] := by
  refine SpecT.of_HT Tryz.func15 rfl (by rw [Tryz.ntmps15]; simp) (rs := [.cell 2 29, .tmp 3]) rfl (by decide) ?_
  rw [Tryz.ntmps15]
  refine HT.seq ?_
  refine HT.region ?_   -- R0
  simp (disch := first | omega | (simp <;> omega) | fail) [wrap_i64, wrap_u64, wrap_u8', eI, subM_kents_lo, eq_lo, eq_lo']
  refine HT.seq ?_
  refine HT.seq ?_
  refine HT.region ?_   -- R1
  simp (disch := first | omega | (simp <;> omega) | fail) [wrap_i64, wrap_u64, wrap_u8', eI, subM_kents_lo, eq_lo, eq_lo']
  refine stepK.mk (.call1f _ _ _ _ _ rfl Ty.hb38 rfl rfl (Right_spec l hl) rfl) ?_
  simp (disch := first | omega | (simp <;> omega) | fail) [wrap_i64, wrap_u64, wrap_u8', eI, subM_kents_lo, eq_lo, eq_lo']
  refine HT.cond' ?_   -- if 14
  simp (disch := first | omega | (simp <;> omega) | fail) [wrap_i64, wrap_u64, wrap_u8', eI, subM_kents_lo, eq_lo, eq_lo']
  refine ⟨fun h14 => ?_, fun h14 => ?_⟩
  · skip
    have hb := build_no h14
    refine HT.seq ?_
    refine HT.region ?_   -- R2
    simp (disch := first | omega | (simp <;> omega) | fail) [wrap_i64, wrap_u64, wrap_u8', eI, subM_kents_lo, eq_lo, eq_lo']
    refine HT.weaken (HS.le_boxown 2 0 200 47 5 0 rfl rfl (by decide) (by decide)) ?_
    simp
    refine HT.weaken (HS.le_boxown 2 1 201 56 2 0 (by rfl) (by rfl) (by decide) (by decide)) ?_
    refine HT.ret ?_
    simp (disch := first | omega | (simp <;> omega) | fail) [wrap_i64, wrap_u64, wrap_u8', eI, subM_kents_lo, eq_lo, eq_lo', hb, emptySeg]
  · skip
    have hb := build_yes h14
    have htx := right_txt h14
    have hl64 := htx.1
    have hcl := codesV_len htx l.length (Nat.le_refl _)
    rw [List.take_length] at hcl
    have hgl := gramsOf_length l
    refine HT.skip ?_
    simp (disch := first | omega | (simp <;> omega) | fail) [wrap_i64, wrap_u64, wrap_u8', eI, subM_kents_lo, eq_lo, eq_lo']
    refine HT.seq ?_
    refine HT.region ?_   -- R3
    simp (disch := first | omega | (simp <;> omega) | fail) [wrap_i64, wrap_u64, wrap_u8', eI, subM_kents_lo, eq_lo, eq_lo']
    refine HT.seq ?_
    refine HT.seq ?_
    refine HT.region ?_   -- R4
    simp (disch := first | omega | (simp <;> omega) | fail) [wrap_i64, wrap_u64, wrap_u8', eI, subM_kents_lo, eq_lo, eq_lo']
    refine HT.block ?_
    refine HT.loopK (fun k : {k : Nat // k ≤ l.length} => [.s 19 (i64 k), .o 16 (.map (kents eI 1000 (fK (evsL (l.take k))))), .os (fam 1000 (fK (evsL (l.take k))).length (rowP (evsL (l.take k))))]) [0, 2, 4, 17, 18] [2] (fun k => l.length - k) (⟨0, by omega⟩) ?_ ?_   -- block 0 turned [19]
    · skip
      simp (disch := first | omega | (simp <;> omega) | fail) [wrap_i64, wrap_u64, wrap_u8', eI, subM_kents_lo, eq_lo, eq_lo', show fK (evsL []) = [] from rfl]
      intro id o h
      obtain ⟨i, hi, _⟩ := fam_some h
      exact absurd hi (Nat.not_lt_zero _)
    rintro ⟨k, hk⟩
    simp (disch := first | omega | (simp <;> omega) | fail) [wrap_i64, wrap_u64, wrap_u8', eI, subM_kents_lo, eq_lo, eq_lo']
    refine HT.seq ?_
    refine HT.region ?_   -- R5
    simp (disch := first | omega | (simp <;> omega) | fail) [wrap_i64, wrap_u64, wrap_u8', eI, subM_kents_lo, eq_lo, eq_lo']
    refine HT.seq ?_
    refine HT.cond' ?_   -- if 20
    simp (disch := first | omega | (simp <;> omega) | fail) [wrap_i64, wrap_u64, wrap_u8', eI, subM_kents_lo, eq_lo, eq_lo']
    refine ⟨fun h20 => ?_, fun h20 => ?_⟩
    · skip
      have hk' : k < l.length := by omega
      have hd := htx.2 _ (List.getElem_mem hk')
      refine HT.skip ?_
      simp (disch := first | omega | (simp <;> omega) | fail) [wrap_i64, wrap_u64, wrap_u8', eI, subM_kents_lo, eq_lo, eq_lo']
      refine HT.seq ?_
      refine HT.block ?_
      refine HT.seq ?_
      refine HT.region ?_   -- R6
      simp (disch := first | omega | (simp <;> omega) | fail) [wrap_i64, wrap_u64, wrap_u8', eI, subM_kents_lo, eq_lo, eq_lo']
      refine HT.seq ?_
      refine HT.region ?_   -- R7
      simp (disch := first | omega | (simp <;> omega) | fail) [wrap_i64, wrap_u64, wrap_u8', eI, subM_kents_lo, eq_lo, eq_lo']
      refine stepK.mk (.call1f _ _ _ _ _ rfl Ty.hb39 rfl rfl (Grams_spec l[k].text (by omega)) rfl) ?_
      simp (disch := first | omega | (simp <;> omega) | fail) [wrap_i64, wrap_u64, wrap_u8', eI, subM_kents_lo, eq_lo, eq_lo']
      refine HT.block ?_
      refine HT.loopK (fun j : {j : Nat // j ≤ (gramsV l[k].text).length} => [.s 27 (i64 j), .o 16 (.map (kents eI 1000 (fK (pI l l[k] k j)))), .os (fam 1000 (fK (pI l l[k] k j)).length (rowP (pI l l[k] k j)))]) [0, 2, 4, 6, 17, 18, 19, 25, 26] [2, 6] (fun j => (gramsV l[k].text).length - j) (⟨0, by omega⟩) ?_ ?_   -- block 2 turned [27]
      · skip
        simp (disch := first | omega | (simp <;> omega) | fail) [wrap_i64, wrap_u64, wrap_u8', eI, subM_kents_lo, eq_lo, eq_lo', pI_zero]
        intro id o h
        obtain ⟨i, hi, rfl, rfl⟩ := fam_some h
        simp (disch := first | omega | (simp <;> omega) | fail) [wrap_i64, wrap_u64, wrap_u8', eI, subM_kents_lo, eq_lo, eq_lo', fam_at hi, rowP]
      rintro ⟨j, hj⟩
      simp (disch := first | omega | (simp <;> omega) | fail) [wrap_i64, wrap_u64, wrap_u8', eI, subM_kents_lo, eq_lo, eq_lo']
      refine HT.seq ?_
      refine HT.region ?_   -- R8
      simp (disch := first | omega | (simp <;> omega) | fail) [wrap_i64, wrap_u64, wrap_u8', eI, subM_kents_lo, eq_lo, eq_lo']
      refine HT.seq ?_
      refine HT.cond' ?_   -- if 28
      simp (disch := first | omega | (simp <;> omega) | fail) [wrap_i64, wrap_u64, wrap_u8', eI, subM_kents_lo, eq_lo, eq_lo']
      refine ⟨fun h28 => ?_, fun h28 => ?_⟩
      · skip
        have hj' : j < (gramsV l[k].text).length := by omega
        have hgl2 := gramsV_le l[k].text
        refine HT.skip ?_
        simp (disch := first | omega | (simp <;> omega) | fail) [wrap_i64, wrap_u64, wrap_u8', eI, subM_kents_lo, eq_lo, eq_lo']
        refine HT.seq ?_
        refine HT.block ?_
        refine HT.seq ?_
        refine HT.region ?_   -- R9
        simp (disch := first | omega | (simp <;> omega) | fail) [wrap_i64, wrap_u64, wrap_u8', eI, subM_kents_lo, eq_lo, eq_lo']
        have hp1 := pI_succ l l[k] k hj'
        have hpl := pI_length (List.getElem_mem hk') htx.2 k j
        have hfl := fK_length (pI l l[k] k j)
        generalize (gramsV l[k].text)[j] = g at *
        generalize pI l l[k] k j = p at *
        by_cases cf : g.code ∈ fK p
        · skip
          have hlt := List.idxOf_lt_length_iff.2 cf
          have e1 : fK (p ++ [(g.code, ⟨l[k].id, g.off⟩)]) = fK p := by rw [fK_snoc, adK, if_pos cf]
          have hb1 := gat_length p g.code
          have hgd : rowP p ((fK p).idxOf g.code) = .row 58 2 (gramsHV (gat p g.code)) := by
            unfold rowP; rw [List.getD_eq_getElem?_getD, List.getElem?_eq_getElem hlt, List.getElem_idxOf hlt]; rfl
          have hf1 : findHV Tryz.prog 3 (.lit (.int .i64 g.code)) (kents eI 1000 (fK p)) 0 = some (some ((fK p).idxOf g.code, .ref (1000 + (fK p).idxOf g.code))) := by
            have := find_kents (P := Tryz.prog) eI_eq 1000 g.code (fK p); rw [if_pos cf] at this; exact this
          have hs1 : subM (1000 + (fK p).idxOf g.code) .any .any (kents eI 1000 (fK p)) = (kents eI 1000 (fK p)).set ((fK p).idxOf g.code) (.lit (.int .i64 g.code), .any) := subM_kents_at cf
          have hf2 : findHV Tryz.prog 3 (.lit (.int .i64 g.code)) ((kents eI 1000 (fK p)).set ((fK p).idxOf g.code) (.lit (.int .i64 g.code), .any)) 0 = some (some ((fK p).idxOf g.code, .any)) := find_kents_set eI_eq 1000 (fK p) cf .any
          have hg1 : ((kents eI 1000 (fK p)).set ((fK p).idxOf g.code) (.lit (.int .i64 g.code), .any))[(fK p).idxOf g.code]? = some (.lit (.int .i64 g.code), .any) := kents_set_get (enc := eI) 1000 cf .any
          have hb2 : (kents eI 1000 (fK p)).set ((fK p).idxOf g.code) (.lit (.int .i64 g.code), .ref (1000 + (fK p).idxOf g.code)) = kents eI 1000 (fK p) := kents_back (enc := eI) 1000 cf
          refine HT.drawT (.pre (.take 0) (.pre (.take 3) (.till [4, 5, 6, 7, 8, 9, 10, 11, 12] [1, 2] (fun r => match r with | 0 => .alt [1, 13] (fun i => match i with | 1 => .alt [2, 13] (fun i => match i with | 2 => .lin [.one 13, .one 14] | _ => .lin [.one 2, .one 14]) | _ => .lin [.batch [1, 2], .one 14]) | 1 => .alt [2, 13] (fun i => match i with | 2 => .lin [.one 13, .one 14] | _ => .lin [.one 2, .one 14]) | _ => .lin [.one 13, .one 14])))) (by kernel_rfl) ?_   -- R10
          simp (disch := first | omega | (simp <;> omega) | fail) [wrap_i64, wrap_u64, wrap_u8', eI, subM_kents_lo, eq_lo, eq_lo', hf1, hs1, hf2, hg1, hb2, hgd, fam_at hlt]
          repeat' refine And.intro ?_ ?_
          all_goals
            skip
            refine HT.region ?_   -- R11
            simp (disch := first | omega | (simp <;> omega) | fail) [wrap_i64, wrap_u64, wrap_u8', eI, subM_kents_lo, eq_lo, eq_lo']
            refine Round.mk' (⟨j + 1, by omega⟩) (by dsimp only; omega) rfl ?_
            simp (disch := first | omega | (simp <;> omega) | fail) [wrap_i64, wrap_u64, wrap_u8', eI, subM_kents_lo, eq_lo, eq_lo', hp1]
            first
            | (have e2 : (fK (p ++ [(g.code, (⟨l[k].id, g.off⟩ : Gram))]))[(fK p).idxOf g.code]? = some g.code := by rw [e1, List.getElem?_eq_getElem hlt, List.getElem_idxOf]
               refine ⟨by rw [e1], fun id o h => ?_⟩
               rw [e1] at h
               obtain ⟨i, hi, rfl, rfl⟩ := fam_some h
               by_cases e : (fK p).idxOf g.code = i
               · subst e
                 simp (disch := first | omega | (simp <;> omega) | fail) [wrap_i64, wrap_u64, wrap_u8', eI, subM_kents_lo, eq_lo, eq_lo', rowP_hit e2]
               · have hne : (fK p)[i]? ≠ some g.code := fun h' => e (by
                   have hi2 := List.getElem?_eq_getElem hi
                   rw [hi2] at h'
                   have := (fK_nodup p).idxOf_getElem i hi
                   rw [Option.some.inj h'] at this
                   exact this)
                 rw [rowP_same hi hne]
                 simp (disch := first | omega | (simp <;> omega) | fail) [wrap_i64, wrap_u64, wrap_u8', eI, subM_kents_lo, eq_lo, eq_lo', fam_at hi, rowP, e])
            | (have hs2 : subM (1000 + (fK p).length) .any .any (kents eI 1000 (fK p)) = kents eI 1000 (fK p) := subM_kents_out (.inr (Nat.le_refl _))
               have hs3 : subM 44 (.ref (1000 + (fK p).length)) (.mref (1000 + (fK p).length)) (kents eI 1000 (fK p)) = kents eI 1000 (fK p) := subM_kents_out (.inl (by decide))
               refine ⟨?_, fun id o h => ?_⟩
               · rw [e1, kents_snoc]
                 have ha : ∀ (a b : List (HV × HV)) i x y, subM i x y (a ++ b) = subM i x y a ++ subM i x y b := fun a b i x y => by simp [subM]
                 rw [ha, ha, hs2, hs3]
                 simp [subM, eI, show ¬ 44 = 1000 + (fK p).length by omega]
               · obtain ⟨i, hi, rfl, rfl⟩ := fam_some h
                 rw [e1, List.length_append, List.length_singleton] at hi
                 by_cases e : (fK p).length = i
                 · subst e
                   rw [rowP_hit (by rw [e1, List.getElem?_append_right (Nat.le_refl _), Nat.sub_self]; rfl), gat_none cf]
                   simp (disch := first | omega | (simp <;> omega) | fail) [wrap_i64, wrap_u64, wrap_u8', eI, subM_kents_lo, eq_lo, eq_lo']
                 · have hi' : i < (fK p).length := by omega
                   have hne : (fK p)[i]? ≠ some g.code := fun h' => cf (List.mem_of_getElem? h')
                   rw [rowP_same hi' hne]
                   simp (disch := first | omega | (simp <;> omega) | fail) [wrap_i64, wrap_u64, wrap_u8', eI, subM_kents_lo, eq_lo, eq_lo', e, fam_at hi', rowP])
        have e1 : fK (p ++ [(g.code, ⟨l[k].id, g.off⟩)]) = fK p ++ [g.code] := by rw [fK_snoc, adK, if_neg cf]
        have hf1 : findHV Tryz.prog 3 (.lit (.int .i64 g.code)) (kents eI 1000 (fK p)) 0 = some none := by
          have := find_kents (P := Tryz.prog) eI_eq 1000 g.code (fK p); rw [if_neg cf] at this; exact this
        have hs1 : subM 44 .any .any (kents eI 1000 (fK p)) = kents eI 1000 (fK p) := subM_kents_out (.inl (by decide))
        refine HT.drawT (.pre (.take 0) (.pre (.take 3) (.till [4, 5, 6, 7, 8, 9, 10, 11, 12] [1, 2] (fun r => match r with | 0 => .alt [1, 13] (fun i => match i with | 1 => .alt [2, 13] (fun i => match i with | 2 => .lin [.one 13, .one 14] | _ => .lin [.one 2, .one 14]) | _ => .lin [.batch [1, 2], .one 14]) | 1 => .alt [2, 13] (fun i => match i with | 2 => .lin [.one 13, .one 14] | _ => .lin [.one 2, .one 14]) | _ => .lin [.one 13, .one 14])))) (by kernel_rfl) ?_   -- R10
        simp (disch := first | omega | (simp <;> omega) | fail) [wrap_i64, wrap_u64, wrap_u8', eI, subM_kents_lo, eq_lo, eq_lo', hf1, hs1]
        repeat' refine And.intro ?_ ?_
        all_goals
          skip
          refine HT.weaken (HS.le_fits (M := [.s 27 (i64 j), .o 16 (.map (kents eI 1000 (fK p) ++ [(i64 g.code, .ref 44)])), .o 44 (.row 58 2 (gramsHV [⟨l[k].id, g.off⟩])), .os (fam 1000 (fK p).length (rowP p)), .s 0 (.sl 5 false (docsHV l)), .s 2 (.ptr 2 0), .s 4 (.mref 16), .s 17 (.sl 5 false (docsHV l)), .s 18 (i64 l.length), .s 19 (i64 k), .s 25 (.sl 2 false (gramsHV (gramsV l[k].text))), .s 26 (i64 (gramsV l[k].text).length), .s 6 (.ptr 6 0), .o 2 (.box [.sl 0 true [], .sl 0 true []]), .o 6 (.box [i64 l[k].id, .str l[k].repo, .str l[k].path, .str l[k].text, .sl 1 false (strsHV l[k].on)])]) ?_) ?_
          · simp (disch := first | omega | (simp <;> omega) | fail) [wrap_i64, wrap_u64, wrap_u8', eI, subM_kents_lo, eq_lo, eq_lo', fam_not, gramsHV]
            intro id o h
            obtain ⟨i, hi, rfl, rfl⟩ := fam_some h
            simp (disch := first | omega | (simp <;> omega) | fail) [wrap_i64, wrap_u64, wrap_u8', eI, subM_kents_lo, eq_lo, eq_lo', fam_at hi, rowP]
          refine HT.weaken (HS.le_ren 44 (1000 + (fK p).length) rfl ?_) ?_
          · simp (disch := first | omega | (simp <;> omega) | fail) [wrap_i64, wrap_u64, wrap_u8', eI, subM_kents_lo, eq_lo, eq_lo', fam_not]
          simp only [HObj.sub]
          refine HT.region ?_   -- R11
          simp (disch := first | omega | (simp <;> omega) | fail) [wrap_i64, wrap_u64, wrap_u8', eI, subM_kents_lo, eq_lo, eq_lo']
          refine Round.mk' (⟨j + 1, by omega⟩) (by dsimp only; omega) rfl ?_
          simp (disch := first | omega | (simp <;> omega) | fail) [wrap_i64, wrap_u64, wrap_u8', eI, subM_kents_lo, eq_lo, eq_lo', hp1]
          first
          | (have e2 : (fK (p ++ [(g.code, (⟨l[k].id, g.off⟩ : Gram))]))[(fK p).idxOf g.code]? = some g.code := by rw [e1, List.getElem?_eq_getElem hlt, List.getElem_idxOf]
             refine ⟨by rw [e1], fun id o h => ?_⟩
             rw [e1] at h
             obtain ⟨i, hi, rfl, rfl⟩ := fam_some h
             by_cases e : (fK p).idxOf g.code = i
             · subst e
               simp (disch := first | omega | (simp <;> omega) | fail) [wrap_i64, wrap_u64, wrap_u8', eI, subM_kents_lo, eq_lo, eq_lo', rowP_hit e2]
             · have hne : (fK p)[i]? ≠ some g.code := fun h' => e (by
                 have hi2 := List.getElem?_eq_getElem hi
                 rw [hi2] at h'
                 have := (fK_nodup p).idxOf_getElem i hi
                 rw [Option.some.inj h'] at this
                 exact this)
               rw [rowP_same hi hne]
               simp (disch := first | omega | (simp <;> omega) | fail) [wrap_i64, wrap_u64, wrap_u8', eI, subM_kents_lo, eq_lo, eq_lo', fam_at hi, rowP, e])
          | (have hs2 : subM (1000 + (fK p).length) .any .any (kents eI 1000 (fK p)) = kents eI 1000 (fK p) := subM_kents_out (.inr (Nat.le_refl _))
             have hs3 : subM 44 (.ref (1000 + (fK p).length)) (.mref (1000 + (fK p).length)) (kents eI 1000 (fK p)) = kents eI 1000 (fK p) := subM_kents_out (.inl (by decide))
             refine ⟨?_, fun id o h => ?_⟩
             · rw [e1, kents_snoc]
               have ha : ∀ (a b : List (HV × HV)) i x y, subM i x y (a ++ b) = subM i x y a ++ subM i x y b := fun a b i x y => by simp [subM]
               rw [ha, ha, hs2, hs3]
               simp [subM, eI, show ¬ 44 = 1000 + (fK p).length by omega]
             · obtain ⟨i, hi, rfl, rfl⟩ := fam_some h
               rw [e1, List.length_append, List.length_singleton] at hi
               by_cases e : (fK p).length = i
               · subst e
                 rw [rowP_hit (by rw [e1, List.getElem?_append_right (Nat.le_refl _), Nat.sub_self]; rfl), gat_none cf]
                 simp (disch := first | omega | (simp <;> omega) | fail) [wrap_i64, wrap_u64, wrap_u8', eI, subM_kents_lo, eq_lo, eq_lo']
               · have hi' : i < (fK p).length := by omega
                 have hne : (fK p)[i]? ≠ some g.code := fun h' => cf (List.mem_of_getElem? h')
                 rw [rowP_same hi' hne]
                 simp (disch := first | omega | (simp <;> omega) | fail) [wrap_i64, wrap_u64, wrap_u8', eI, subM_kents_lo, eq_lo, eq_lo', e, fam_at hi', rowP])
      · skip
        obtain rfl : j = (gramsV l[k].text).length := by omega
        refine HT.exit ?_
        simp (disch := first | omega | (simp <;> omega) | fail) [wrap_i64, wrap_u64, wrap_u8', eI, subM_kents_lo, eq_lo, eq_lo']
        refine HT.region ?_   -- R12
        simp (disch := first | omega | (simp <;> omega) | fail) [wrap_i64, wrap_u64, wrap_u8', eI, subM_kents_lo, eq_lo, eq_lo']
        refine Round.mk' (⟨k + 1, by omega⟩) (by dsimp only; omega) rfl ?_
        simp (disch := first | omega | (simp <;> omega) | fail) [wrap_i64, wrap_u64, wrap_u8', eI, subM_kents_lo, eq_lo, eq_lo', pI_end l hk']
        intro id o h
        obtain ⟨i, hi, rfl, rfl⟩ := fam_some h
        simp (disch := first | omega | (simp <;> omega) | fail) [wrap_i64, wrap_u64, wrap_u8', eI, subM_kents_lo, eq_lo, eq_lo', fam_at hi, rowP]
    · skip
      obtain rfl : k = l.length := by omega
      refine HT.exit ?_
      simp (disch := first | omega | (simp <;> omega) | fail) [wrap_i64, wrap_u64, wrap_u8', eI, subM_kents_lo, eq_lo, eq_lo']
      have hEl := evsL_length htx.2
      have hfl := fK_length (evsL l)
      refine HT.weaken (HS.le_frzK (m := 16) (sz := 2) 1000 eI 58 (fun c => gramsHV (gat (evsL l) c)) (fK (evsL l)) (by decide) ?_ (fun _ => by simp) ?_) ?_
      · simp (disch := first | omega | (simp <;> omega) | fail) [wrap_i64, wrap_u64, wrap_u8', eI, subM_kents_lo, eq_lo, eq_lo']
      · intro i c hc
        have hi := getElem?_lt hc
        obtain rfl : (fK (evsL l))[i] = c := by rw [List.getElem?_eq_getElem hi] at hc; exact Option.some.inj hc
        simp (disch := first | omega | (simp <;> omega) | fail) [wrap_i64, wrap_u64, wrap_u8', eI, subM_kents_lo, eq_lo, eq_lo', fam_at hi, rowP]
      refine HT.weaken (HS.le_frzref (id := 16) (xr := .any) (xm := .mp (fents eI (fun c => .sl 2 false (gramsHV (gat (evsL l) c))) (fK (evsL l)))) (by simp [frz1, isIM_fentsP])) ?_
      refine HT.seq ?_
      refine HT.region ?_   -- R13
      simp (disch := first | omega | (simp <;> omega) | fail) [wrap_i64, wrap_u64, wrap_u8', eI, subM_kents_lo, eq_lo, eq_lo']
      refine stepK.mk (.callO _ _ _ _ _ _ _ _ rfl Ty.hb40 rfl rfl (CloneD_spec false l (by omega)) rfl rfl) ?_
      simp (disch := first | omega | (simp <;> omega) | fail) [wrap_i64, wrap_u64, wrap_u8', eI, subM_kents_lo, eq_lo, eq_lo']
      refine HT.weaken (HS.le_frzref (id := 48) (xr := .sl 5 false (docsHV l)) (xm := .any) (by simp)) ?_
      refine HT.weaken (HS.le_boxown 9 1 200 56 2 0 (by rfl) (by rfl) (by decide) (by decide)) ?_
      refine HT.seq ?_
      refine HT.seq ?_
      refine HT.region ?_   -- R14
      simp (disch := first | omega | (simp <;> omega) | fail) [wrap_i64, wrap_u64, wrap_u8', eI, subM_kents_lo, eq_lo, eq_lo']
      refine HT.block ?_
      refine HT.loopK (fun k : {k : List Nat × List Nat × Option (HV × HV) // (k.1 ++ k.2.1).Perm (List.range (fK (evsL l)).length)} => [.o 9 (.box [.sl 5 false (docsHV l), .ref 200]), .o 200 (.row 56 2 (postsHV (k.1.1.map fun i => pst l ((fK (evsL l)).getD i 0)))), .o 51 (.iter (fents eI (fun c => .sl 2 false (gramsHV (gat (evsL l) c))) (fK (evsL l))) k.1.2.1 k.1.2.2)]) [2, 9, 51] [2] (fun k => k.1.2.1.length) (⟨⟨[], List.range (fK (evsL l)).length, none⟩, by simp⟩) ?_ ?_   -- block 4 turned []
      · simp (disch := first | omega | (simp <;> omega) | fail) [wrap_i64, wrap_u64, wrap_u8', eI, subM_kents_lo, eq_lo, eq_lo']
      rintro ⟨⟨dn, lf, la⟩, hp⟩
      simp (disch := first | omega | (simp <;> omega) | fail) [wrap_i64, wrap_u64, wrap_u8', eI, subM_kents_lo, eq_lo, eq_lo']
      refine HT.seq ?_
      refine HT.region ?_   -- R15
      simp (disch := first | omega | (simp <;> omega) | fail) [wrap_i64, wrap_u64, wrap_u8', eI, subM_kents_lo, eq_lo, eq_lo']
      refine ⟨fun hnil => ?_, fun i kk vv hi hkv => ?_⟩
      · skip
        obtain rfl := hnil
        obtain ⟨g1, g2⟩ := posts_ok l hp
        refine HT.seq ?_
        refine HT.cond' ?_   -- if 53
        simp (disch := first | omega | (simp <;> omega) | fail) [wrap_i64, wrap_u64, wrap_u8', eI, subM_kents_lo, eq_lo, eq_lo']
        refine HT.exit ?_
        simp (disch := first | omega | (simp <;> omega) | fail) [wrap_i64, wrap_u64, wrap_u8', eI, subM_kents_lo, eq_lo, eq_lo']
        refine HT.seq ?_
        refine HT.region ?_   -- R18
        simp (disch := first | omega | (simp <;> omega) | fail) [wrap_i64, wrap_u64, wrap_u8', eI, subM_kents_lo, eq_lo, eq_lo']
        refine stepK.mk (.callS _ _ _ _ _ _ _ rfl Ty.hb41 (by first | rfl | simp) (by simp) (by first | rfl | simp) (SortPosts_spec _ g1 g2 (by have := hp.length_eq; simp at this ⊢; omega)) rfl) ?_
        simp (disch := first | omega | (simp <;> omega) | fail) [wrap_i64, wrap_u64, wrap_u8', eI, subM_kents_lo, eq_lo, eq_lo']
        refine HT.weaken (HS.le_frzref (id := 200) (xr := .sl 2 false (postsHV (gramsOf l))) (xm := .any) (by simp [posts_sorted l hp])) ?_
        refine HT.seq ?_
        refine HT.region ?_   -- R19
        simp (disch := first | omega | (simp <;> omega) | fail) [wrap_i64, wrap_u64, wrap_u8', eI, subM_kents_lo, eq_lo, eq_lo']
        refine HT.ret ?_
        simp (disch := first | omega | (simp <;> omega) | fail) [wrap_i64, wrap_u64, wrap_u8', eI, subM_kents_lo, eq_lo, eq_lo', hb, segV]
      · skip
        have hst := perm_step hp hi
        have hil : (dn ++ lf).length = _ := hp.length_eq
        have hil2 : i < (fK (evsL l)).length := by have := (hp.mem_iff (a := i)).1 (List.mem_append_right _ hi); simpa using this
        rw [fents_get, List.getElem?_eq_getElem hil2] at hkv
        simp only [Option.map_some, Option.some.injEq, Prod.mk.injEq] at hkv
        obtain ⟨rfl, rfl⟩ := hkv
        have hb : dn.length + lf.length = (fK (evsL l)).length := by simpa using hil
        refine HT.seq ?_
        refine HT.cond' ?_   -- if 53
        simp (disch := first | omega | (simp <;> omega) | fail) [wrap_i64, wrap_u64, wrap_u8', eI, subM_kents_lo, eq_lo, eq_lo']
        refine HT.skip ?_
        simp (disch := first | omega | (simp <;> omega) | fail) [wrap_i64, wrap_u64, wrap_u8', eI, subM_kents_lo, eq_lo, eq_lo']
        refine HT.block ?_
        refine HT.seq ?_
        refine HT.region ?_   -- R16
        simp (disch := first | omega | (simp <;> omega) | fail) [wrap_i64, wrap_u64, wrap_u8', eI, subM_kents_lo, eq_lo, eq_lo']
        refine HT.region ?_   -- R17
        simp (disch := first | omega | (simp <;> omega) | fail) [wrap_i64, wrap_u64, wrap_u8', eI, subM_kents_lo, eq_lo, eq_lo']
        refine Round.mk' (⟨⟨dn ++ [i], lf.filter (· != i), some (eI (fK (evsL l))[i], .sl 2 false (gramsHV (gat (evsL l) (fK (evsL l))[i])))⟩, hst.1⟩) hst.2 rfl ?_
        simp (disch := first | omega | (simp <;> omega) | fail) [wrap_i64, wrap_u64, wrap_u8', eI, subM_kents_lo, eq_lo, eq_lo', hil2, pst]
end Go.Hv
set_option linter.unusedVariables false
set_option linter.unusedSimpArgs false
namespace Go.Hv
open Go Go.Hv Go.Proofs Go.RowKit
open Go.Proofs.YthdljfognblpbaaGreatDoor
def exA : Seg := ⟨[exD 1 [97], exD 3 [99]], []⟩
def exB : Seg := ⟨[exD 2 [98]], []⟩
def exM : List Doc := [exD 1 [97], exD 2 [98]]
def exP (l : List Gram) : List Post := [⟨6382179, l⟩]
def exS : Seg := ⟨exM, exP [⟨1, [0]⟩, ⟨2, [0]⟩]⟩
def exT : Seg := ⟨[exD 2 [98]], exP [⟨2, [0]⟩]⟩
theorem pk1 : pickV [5, 6, 7] = [0, 1, 2] := by decide +kernel
theorem pk2 : pickV [5, 1, 2, 3] = [1, 2, 3] := by decide +kernel
theorem pk3 : pickV [0, 1, 4] = [] := by decide +kernel
theorem pk4 : pickV [0, 1, 0, 1, 0, 1, 0, 1] = [0, 1, 2, 3, 4, 5, 6, 7] := by decide +kernel
theorem exM_right : rightV exM = 0 := by decide +kernel
theorem exM_grams : gramsOf exM = exP [⟨1, [0]⟩, ⟨2, [0]⟩] := by decide +kernel
theorem exMerge : mergeV [exA, exB] [3] = (exS, 0) := by
  have h := mergeV_eq (ls := [exA, exB]) (dead := [3]) (m := exM) (by rw [show allV [exA, exB] [3] = exM from by decide]) exM_right
  rw [h]; unfold segV; rw [exM_grams]; rfl
theorem exTwice : mergeV [exA, exA] [3] = (emptySeg, 7) := by
  unfold mergeV
  rw [if_neg (by decide)]
theorem exFilter : filterV exS [1] = exT := by decide +kernel
theorem exUnion : unionV exT.grams (exP [⟨1, [0]⟩]) = exP [⟨1, [0]⟩, ⟨2, [0]⟩] := by
  simp [unionV, exT, exP, mergeBy_cons, bothP]
theorem exSegs (a b : Seg) (ha : a = exA ∨ a = exB) (hb : b = exA ∨ b = exB) : SegsB [a, b] := by
  have hd : ∀ s, s = exA ∨ s = exB → s.docs.length ≤ 40 ∧ ∀ d ∈ s.docs, DocB 140737488355328 d := by
    rintro s (rfl | rfl) <;> simp [exA, exB, exD, DocB]
  refine ⟨by simp, fun s hs => ?_, fun s hs => ?_⟩
  · rcases List.mem_cons.1 hs with rfl | hs
    · exact (hd _ ha).1
    · rw [List.mem_singleton.1 hs]; exact (hd _ hb).1
  · rcases List.mem_cons.1 hs with rfl | hs
    · exact (hd _ ha).2
    · rw [List.mem_singleton.1 hs]; exact (hd _ hb).2
theorem segs_le2 (da db : List Doc) (y z : Nat) : HLe (.sl 2 true [[.sl 5 true (docsHV da), .sl y true []], [.sl 5 true (docsHV db), .sl z true []]]) (.sl 2 false (segsHV [⟨da, []⟩, ⟨db, []⟩])) := by
  refine HLe.trans (HLe.sl (f := true) (es' := segsHV [⟨da, []⟩, ⟨db, []⟩]) rfl (fun i x x' h h' => ?_)) (HLe.full _ _)
  match i with
  | 0 =>
    obtain rfl := Option.some.inj h
    obtain rfl := Option.some.inj h'
    exact ⟨HLe.full _ _, HLe.nilf _ _ _, trivial⟩
  | 1 =>
    obtain rfl := Option.some.inj h
    obtain rfl := Option.some.inj h'
    exact ⟨HLe.full _ _, HLe.nilf _ _ _, trivial⟩
  | i + 2 => simp at h
theorem post_le : HLe (.sl 2 true [[i64 6382179, .sl 2 true [[i64 1, .sl 1 true [[i64 0]]]]]]) (.sl 2 false (postsHV (exP [⟨1, [0]⟩]))) := by
  refine HLe.trans (HLe.sl (f := true) (es' := postsHV (exP [⟨1, [0]⟩])) rfl (fun i x x' h h' => ?_)) (HLe.full _ _)
  match i with
  | 0 =>
    obtain rfl := Option.some.inj h
    obtain rfl := Option.some.inj h'
    refine ⟨HLe.refl _, HLe.trans (HLe.sl (f := true) (es' := gramsHV [⟨1, [0]⟩]) rfl (fun i x x' h h' => ?_)) (HLe.full _ _), trivial⟩
    match i with
    | 0 =>
      obtain rfl := Option.some.inj h
      obtain rfl := Option.some.inj h'
      exact ⟨HLe.refl _, HLe.full _ _, trivial⟩
    | i + 1 => simp at h
  | i + 1 => simp at h
theorem exS_B : SegB 1000000 exS := by simp [SegB, exS, exM, exP]
theorem exM1_spec : SpecT Tryz.prog 12 [.sl 2 true [[.sl 5 true (docsHV exA.docs), .sl 0 true []], [.sl 5 true (docsHV exB.docs), .sl 0 true []]], .sl 1 true (intsHV [3])] [.agg exS.enc, i64 0] := by
  have h := (Merge_of [exA, exB] [3] (exSegs _ _ (.inl rfl) (.inr rfl)) (by decide) Build_spec).args (l := [.sl 2 true [[.sl 5 true (docsHV exA.docs), .sl 0 true []], [.sl 5 true (docsHV exB.docs), .sl 0 true []]], .sl 1 true (intsHV [3])]) (HLeL.cons (segs_le2 _ _ _ _) (HLeL.cons (HLe.full _ _) HLeL.nil))
  rw [exMerge] at h
  exact h
theorem exM2_spec : SpecT Tryz.prog 12 [.sl 2 true [[.sl 5 true (docsHV exA.docs), .sl 0 true []], [.sl 5 true (docsHV exA.docs), .sl 0 true []]], .sl 1 true (intsHV [3])] [.agg emptySeg.enc, i64 7] := by
  have h := (Merge_of [exA, exA] [3] (exSegs _ _ (.inl rfl) (.inl rfl)) (by decide) Build_spec).args (l := [.sl 2 true [[.sl 5 true (docsHV exA.docs), .sl 0 true []], [.sl 5 true (docsHV exA.docs), .sl 0 true []]], .sl 1 true (intsHV [3])]) (HLeL.cons (segs_le2 _ _ _ _) (HLeL.cons (HLe.full _ _) HLeL.nil))
  rw [exTwice] at h
  exact h
theorem exF_spec : Spec1 Tryz.prog 16 [.agg exS.enc, .sl 1 true (intsHV [1])] (.agg exT.enc) := by
  have h := (Filter_spec exS [1] exS_B (by decide)).args (l := [.agg exS.enc, .sl 1 true (intsHV [1])]) (HLeL.cons (HLe.refl _) (HLeL.cons (HLe.full _ _) HLeL.nil))
  rw [exFilter] at h
  exact h
theorem exU_spec : Spec1 Tryz.prog 23 [.sl 2 false (postsHV exT.grams), .sl 2 true [[i64 6382179, .sl 2 true [[i64 1, .sl 1 true [[i64 0]]]]]]] (.sl 2 false (postsHV exS.grams)) := by
  have h := (Union_spec exT.grams (exP [⟨1, [0]⟩]) (by decide) (by decide) (by decide) (by decide)).args (l := [.sl 2 false (postsHV exT.grams), .sl 2 true [[i64 6382179, .sl 2 true [[i64 1, .sl 1 true [[i64 0]]]]]]]) (HLeL.cons (HLe.refl _) (HLeL.cons (post_le) HLeL.nil))
  rw [exUnion] at h
  exact h
set_option maxRecDepth 20000 in
set_option maxHeartbeats 4000000 in
theorem alive_spec  : Spec1 Tryz.prog 10 [] (bo true) := by
  refine Spec1.of_HT Tryz.func10 rfl (by rw [Tryz.ntmps10]; simp) rfl ?_
  rw [Tryz.ntmps10]
  refine HT.seq ?_
  refine HT.region ?_   -- R0
  simp (disch := first | omega | (simp <;> omega) | fail) [wrap_i64, wrap_u64, wrap_u8']
  refine HT.seq ?_
  refine HT.seq ?_
  refine HT.region ?_   -- R1
  simp (disch := first | omega | (simp <;> omega) | fail) [wrap_i64, wrap_u64, wrap_u8']
  refine stepK.mk (.call1f _ _ _ _ _ rfl Ty.hb19 rfl rfl (Pick_spec true [5, 6, 7] (by decide) (by simp [S63])) rfl) ?_
  simp (disch := first | omega | (simp <;> omega) | fail) [wrap_i64, wrap_u64, wrap_u8', pk1]
  refine stepK.mk (.call1f _ _ _ _ _ rfl Ty.hb18 rfl rfl (Ints_spec false true [0, 1, 2] [0, 1, 2] (by decide)) rfl) ?_
  simp (disch := first | omega | (simp <;> omega) | fail) [wrap_i64, wrap_u64, wrap_u8']
  refine stepK.mk (.call1f _ _ _ _ _ rfl Ty.hb19 rfl rfl (Pick_spec true [5, 1, 2, 3] (by decide) (by simp [S63])) rfl) ?_
  simp (disch := first | omega | (simp <;> omega) | fail) [wrap_i64, wrap_u64, wrap_u8', pk2]
  refine stepK.mk (.call1f _ _ _ _ _ rfl Ty.hb18 rfl rfl (Ints_spec false true [1, 2, 3] [1, 2, 3] (by decide)) rfl) ?_
  simp (disch := first | omega | (simp <;> omega) | fail) [wrap_i64, wrap_u64, wrap_u8']
  refine stepK.mk (.call1f _ _ _ _ _ rfl Ty.hb19 rfl rfl (Pick_spec true [0, 1, 4] (by decide) (by simp [S63])) rfl) ?_
  simp (disch := first | omega | (simp <;> omega) | fail) [wrap_i64, wrap_u64, wrap_u8', pk3]
  refine stepK.mk (.call1f _ _ _ _ _ rfl Ty.hb19 rfl rfl (Pick_spec true [0, 1, 0, 1, 0, 1, 0, 1] (by decide) (by simp [S63])) rfl) ?_
  simp (disch := first | omega | (simp <;> omega) | fail) [wrap_i64, wrap_u64, wrap_u8', pk4]
  refine HT.cond' ?_   -- if 32
  simp (disch := first | omega | (simp <;> omega) | fail) [wrap_i64, wrap_u64, wrap_u8']
  refine HT.skip ?_
  simp (disch := first | omega | (simp <;> omega) | fail) [wrap_i64, wrap_u64, wrap_u8']
  refine HT.seq ?_
  refine HT.region ?_   -- R3
  simp (disch := first | omega | (simp <;> omega) | fail) [wrap_i64, wrap_u64, wrap_u8']
  refine stepK.mk (.call1f _ _ _ _ _ rfl Ty.hb28 rfl rfl (doc_spec 1 [97]) rfl) ?_
  simp (disch := first | omega | (simp <;> omega) | fail) [wrap_i64, wrap_u64, wrap_u8']
  refine stepK.mk (.call1f _ _ _ _ _ rfl Ty.hb28 rfl rfl (doc_spec 3 [99]) rfl) ?_
  simp (disch := first | omega | (simp <;> omega) | fail) [wrap_i64, wrap_u64, wrap_u8']
  refine HT.seq ?_
  refine HT.region ?_   -- R4
  simp (disch := first | omega | (simp <;> omega) | fail) [wrap_i64, wrap_u64, wrap_u8']
  refine stepK.mk (.call1f _ _ _ _ _ rfl Ty.hb28 rfl rfl (doc_spec 2 [98]) rfl) ?_
  simp (disch := first | omega | (simp <;> omega) | fail) [wrap_i64, wrap_u64, wrap_u8']
  refine HT.seq ?_
  refine HT.region ?_   -- R5
  simp (disch := first | omega | (simp <;> omega) | fail) [wrap_i64, wrap_u64, wrap_u8']
  refine stepK.mk (.callTf _ _ _ _ _ rfl Ty.hb12 rfl rfl (exM1_spec) rfl) ?_
  simp (disch := first | omega | (simp <;> omega) | fail) [wrap_i64, wrap_u64, wrap_u8']
  refine HT.seq ?_
  refine HT.region ?_   -- R6
  simp (disch := first | omega | (simp <;> omega) | fail) [wrap_i64, wrap_u64, wrap_u8']
  refine stepK.mk (.callTf _ _ _ _ _ rfl Ty.hb12 rfl rfl (exM2_spec) rfl) ?_
  simp (disch := first | omega | (simp <;> omega) | fail) [wrap_i64, wrap_u64, wrap_u8']
  refine HT.seq ?_
  refine HT.seq ?_
  refine HT.region ?_   -- R7
  simp (disch := first | omega | (simp <;> omega) | fail) [wrap_i64, wrap_u64, wrap_u8', exS, exM, exP, exD]
  refine HT.cond' ?_   -- if 97
  simp (disch := first | omega | (simp <;> omega) | fail) [wrap_i64, wrap_u64, wrap_u8']
  refine HT.skip ?_
  simp (disch := first | omega | (simp <;> omega) | fail) [wrap_i64, wrap_u64, wrap_u8']
  refine HT.seq ?_
  refine HT.region ?_   -- R9
  simp (disch := first | omega | (simp <;> omega) | fail) [wrap_i64, wrap_u64, wrap_u8']
  refine stepK.mk (.call1f _ _ _ _ _ rfl Ty.hb16 rfl rfl (exF_spec) rfl) ?_
  simp (disch := first | omega | (simp <;> omega) | fail) [wrap_i64, wrap_u64, wrap_u8']
  refine HT.seq ?_
  refine HT.region ?_   -- R10
  simp (disch := first | omega | (simp <;> omega) | fail) [wrap_i64, wrap_u64, wrap_u8']
  refine stepK.mk (.call1f _ _ _ _ _ rfl Ty.hb23 rfl rfl (exU_spec) rfl) ?_
  simp (disch := first | omega | (simp <;> omega) | fail) [wrap_i64, wrap_u64, wrap_u8']
  refine HT.seq ?_
  refine HT.region ?_   -- R11
  simp (disch := first | omega | (simp <;> omega) | fail) [wrap_i64, wrap_u64, wrap_u8', exT, exS, exP, exD]
  refine HT.ret ?_
  simp (disch := first | omega | (simp <;> omega) | fail) [wrap_i64, wrap_u64, wrap_u8']
end Go.Hv
set_option linter.unusedVariables false
set_option linter.unusedSimpArgs false
namespace Go.Hv
open Go Go.Hv Go.Proofs Go.RowKit
open Go.Proofs.YthdljfognblpbaaGreatDoor
/-! ### The sizes of what Build returns -/
theorem check_zero {d : Doc} (h : checkV d = 0) : nameV d.repo = true ∧ pathV d.path = true ∧ textV d.text = true := by
  unfold checkV at h
  split at h
  · cases h
  · next h1 => simpa [and_assoc] using h1
theorem right_docQ {l : List Doc} {B : Nat} (h : rightV l = 0) (hl : DocsB 140737488355328 l) : l.length ≤ 64 ∧ (∀ d ∈ l, DocQ d) ∧ TxtB l := by
  obtain ⟨h1, _, _, h4, _⟩ := (rightV_zero l).1 h
  refine ⟨h1, fun d hd => ?_, right_txt h⟩
  obtain ⟨a, b, c⟩ := check_zero (h4 d hd).2
  have ht := (right_txt h).2 d hd
  unfold nameV at a
  simp only [pathV, Bool.and_eq_true, decide_eq_true_eq] at a b
  have hb := hl.2 d hd
  exact ⟨by have := a.1.1; omega, by have := b.1; omega, by omega, hb.2.2.2.1, hb.2.2.2.2⟩
theorem offV_length (s : List UInt8) (c : Int) : (offV s c).length ≤ s.length := by
  unfold offV
  have := offK_length s (s.length - 2) c
  omega
theorem postV_length (l : List Doc) (c : Int) : (postV l c).length ≤ l.length := by
  have := postV_len l l.length c
  rwa [List.take_length] at this
theorem postV_off {l : List Doc} {c : Int} (hl : TxtB l) {g : Gram} (h : g ∈ postV l c) : g.off.length ≤ 2000 := by
  unfold postV at h
  obtain ⟨d, hd, rfl⟩ := List.mem_map.1 (List.mem_filter.1 h).1
  have := offV_length d.text c
  have := hl.2 d hd
  show (offV d.text c).length ≤ _
  omega
theorem gramsOf_B {l : List Doc} (hl : TxtB l) : PostsB 128000 (gramsOf l) := by
  refine ⟨?_, fun p hp => ?_⟩
  · have h1 := codesV_len hl l.length (Nat.le_refl _)
    rw [List.take_length] at h1
    rw [gramsOf_length]
    have := hl.1
    omega
  · obtain ⟨c, _, rfl⟩ := List.mem_map.1 hp
    refine ⟨?_, fun g hg => ?_⟩
    · have := postV_length l c; have := hl.1
      show (postV l c).length ≤ _
      omega
    · have := postV_off hl hg; omega
theorem PostsB.mono {n m : Nat} {l : List Post} (h : PostsB n l) (hnm : n ≤ m) : PostsB m l := ⟨by have := h.1; omega, fun p hp => ⟨by have := (h.2 p hp).1; omega, fun g hg => by have := (h.2 p hp).2 g hg; omega⟩⟩
theorem seg_Q {l : List Doc} (h : rightV l = 0) (hl : DocsB 140737488355328 l) : SegQ (segV l) := by
  obtain ⟨h1, h2, ht⟩ := right_docQ (B := 0) h hl
  have hp := gramsOf_B ht
  exact ⟨by show l.length ≤ _; omega, h2, by have := hp.1; show (gramsOf l).length ≤ _; omega, fun p hp' => ⟨by have := (hp.2 p hp').1; omega, fun g hg => by have := (hp.2 p hp').2 g hg; omega⟩⟩
theorem empty_Q : SegQ emptySeg := by simp [SegQ, emptySeg]
theorem build_Q {l : List Doc} (hl : DocsB 140737488355328 l) : SegQ (buildV l).1 := by
  by_cases h : rightV l = 0
  · rw [build_yes h]; exact seg_Q h hl
  · rw [build_no h]; exact empty_Q
theorem sort_B {l : List Doc} (hl : DocsB 140737488355328 l) : DocsB 140737488355328 (sortV l) := ⟨by have := (sortV_perm l).length_eq; have := hl.1; omega, fun d hd => hl.2 d ((sortV_perm l).mem_iff.1 hd)⟩
theorem all_B {ls : List Seg} (dead : List Int) (h : SegsB ls) : DocsB 140737488355328 (allV ls dead) := by
  refine ⟨?_, fun d hd => ?_⟩
  · have : ∀ (m : List Seg), (∀ s ∈ m, s.docs.length ≤ 40) → (allV m dead).length ≤ m.length * 40 := by
      intro m
      induction m with
      | nil => intro _; simp [allV]
      | cons s m ih =>
        intro hm
        have h1 := ih fun x hx => hm x (by simp [hx])
        have h2 := hm s (by simp)
        have h3 := List.length_filter_le (fun d => aliveB dead d.id) s.docs
        unfold allV at h1 ⊢
        rw [List.flatMap_cons, List.length_append, List.length_cons]
        omega
    have h2 := this ls h.2.1
    have h1 := h.1
    omega
  · obtain ⟨s, hs, hd⟩ := List.mem_flatMap.1 hd
    exact h.2.2 s hs d (List.mem_filter.1 hd).1
theorem merge_Q {ls : List Seg} (dead : List Int) (h : SegsB ls) : SegQ (mergeV ls dead).1 := by
  unfold mergeV
  split
  · exact build_Q (sort_B (all_B dead h))
  · exact empty_Q
/-! ### The laws, without conditions beyond the sizes of memory -/
theorem merges_spec (ls : List Seg) (dead : List Int) (hl : ls.length ≤ 140737488355328) (hls : ∀ s ∈ ls, s.docs.length ≤ 140737488355328 ∧ ∀ d ∈ s.docs, DocB 140737488355328 d) (hd : dead.length ≤ 140737488355328) : Spec1 Tryz.prog 3 [.sl 2 false (segsHV ls), .sl 1 false (intsHV dead)] (bo true) :=
  merges_of alive_spec ls dead hl hls hd Build_spec fun h => merge_Q dead h
end Go.Hv
set_option linter.unusedVariables false
set_option linter.unusedSectionVars false
set_option linter.unusedSimpArgs false
namespace Go.Hv
open Go Go.Hv
variable [GI]
/-! ### Numbers, strings and grams that are handed in -/
@[reducible] def intsSh : ShT := .sl 1 (.int .i64)
@[reducible] def gramsSh : ShT := .sl 2 (.st [.int .i64, intsSh])
theorem map_choiceF {α β : Type} {f : β → α} {p : β → Prop} : ∀ {es : List α}, (∀ x ∈ es, ∃ d, x = f d ∧ p d) → ∃ l : List β, es = l.map f ∧ ∀ d ∈ l, p d
  | [], _ => ⟨[], rfl, by simp⟩
  | x :: r, h => by
    obtain ⟨d, rfl, hd⟩ := h x (by simp)
    obtain ⟨l, rfl, hl⟩ := map_choiceF (es := r) (f := f) (p := p) (fun y hy => h y (by simp [hy]))
    exact ⟨d :: l, rfl, fun y hy => by rcases List.mem_cons.1 hy with rfl | hy; exact hd; exact hl y hy⟩
theorem rdF_int {B : Nat} {k : IntKind} {x : List HV} (h : RdF B (.int k) x) : ∃ n, x = [.lit (.int k n)] ∧ (Lit.int k n).wf = true := by
  cases h with | int k n hw => exact ⟨n, rfl, hw⟩
theorem rdF_str {B : Nat} {x : List HV} (h : RdF B .str x) : ∃ s, x = [.str s] ∧ s.length ≤ B := by
  cases h with | str l hl => exact ⟨l, rfl, hl⟩
theorem rdF_ints {B : Nat} {x : List HV} (h : RdF B intsSh x) : ∃ l, x = [.sl 1 false (intsHV l)] ∧ l.length ≤ B ∧ ∀ n ∈ l, (Lit.int .i64 n).wf = true := by
  cases h with
  | sl sz e es hl hz h =>
    obtain ⟨on, rfl, hon⟩ := map_choiceF (f := fun n => [HV.lit (.int .i64 n)]) (p := fun n => (Lit.int .i64 n).wf = true) (fun x hx => rdF_int (h x hx))
    exact ⟨on, rfl, by simpa using hl, hon⟩
def GramB (B : Nat) (g : Gram) : Prop := g.off.length ≤ B ∧ (Lit.int .i64 g.code).wf = true ∧ ∀ n ∈ g.off, (Lit.int .i64 n).wf = true
theorem rdF_gram {B : Nat} {x : List HV} (h : RdF B (.st [.int .i64, intsSh]) x) : ∃ g : Gram, x = g.enc ∧ GramB B g := by
  cases h with
  | st fs hs h =>
    cases h with
    | cons h1 h =>
    cases h with
    | cons h2 h =>
    cases h
    obtain ⟨n, rfl, hn⟩ := rdF_int h1
    obtain ⟨l, rfl, hl, hw⟩ := rdF_ints h2
    exact ⟨⟨n, l⟩, rfl, hl, hn, hw⟩
theorem rdF_grams {B : Nat} {x : List HV} (h : RdF B gramsSh x) : ∃ l : List Gram, x = [.sl 2 false (gramsHV l)] ∧ l.length ≤ B ∧ ∀ g ∈ l, GramB B g := by
  cases h with
  | sl sz e es hl hz h =>
    obtain ⟨l, rfl, hb⟩ := map_choiceF (f := Gram.enc) (p := GramB B) (fun x hx => rdF_gram (h x hx))
    exact ⟨l, rfl, by simpa using hl, hb⟩
theorem repsF_one {w : World} {dead : Nat → Prop} {c : HV} {v : Value} (h : Reps w dead [c] [v]) : IRep w dead c v := by
  cases h with | cons h1 _ => exact h1
theorem ints_of_trodW {H : Type} {enc : TypeId × Value → H} {P : Program} {w : World} {sp : Nat → Bool} {held : Bool} {t : TypeId} {a : Option Addr} {n c : Nat} {d : DataW H} {ps : List MemPlace} {B : Nat} (hk : shOKW P intsSh t = true)
    (h : DataW.Trod enc P w 0 sp held t (.slice a n c) d ps) (hB : ∀ n ∈ d.weights P t, n ≤ B) : ∃ l : List Int, IRep w (fun _ => False) (.sl 1 false (intsHV l)) (.slice a n c) ∧ l.length ≤ B := by
  obtain ⟨hs, h1, h2⟩ := arg_of_trodW intsSh hk h hB
  obtain ⟨l, rfl, hl, _⟩ := rdF_ints h1
  exact ⟨l, repsF_one h2, hl⟩
end Go.Hv
set_option linter.unusedVariables false
set_option linter.unusedSectionVars false
set_option linter.unusedSimpArgs false
namespace Go.Hv
open Go Go.Hv
variable [GI]
/-! ### Documents and segments that are handed in -/
@[reducible] def strsShF : ShT := .sl 1 .str
@[reducible] def docShF : ShT := .st [.int .i64, .str, .str, .str, strsShF]
@[reducible] def docsShF : ShT := .sl 5 docShF
@[reducible] def postShF : ShT := .st [.int .i64, gramsSh]
@[reducible] def segShF : ShT := .st [docsShF, .sl 2 postShF]
@[reducible] def segsShF : ShT := .sl 2 segShF
def DocF (B : Nat) (d : Doc) : Prop := d.repo.length ≤ B ∧ d.path.length ≤ B ∧ d.text.length ≤ B ∧ d.on.length ≤ B ∧ ∀ s ∈ d.on, s.length ≤ B
theorem rdF_strs {B : Nat} {x : List HV} (h : RdF B strsShF x) : ∃ l, x = [.sl 1 false (strsHV l)] ∧ l.length ≤ B ∧ ∀ s ∈ l, s.length ≤ B := by
  cases h with
  | sl sz e es hl hz h =>
    obtain ⟨on, rfl, hon⟩ := map_choiceF (f := fun s => [HV.str s]) (p := fun s => s.length ≤ B) (fun x hx => rdF_str (h x hx))
    exact ⟨on, rfl, by simpa using hl, hon⟩
theorem rdF_doc {B : Nat} {x : List HV} (h : RdF B docShF x) : ∃ d : Doc, x = d.enc ∧ DocF B d := by
  cases h with
  | st fs hs h =>
    cases h with
    | cons h1 h =>
    cases h with
    | cons h2 h =>
    cases h with
    | cons h3 h =>
    cases h with
    | cons h4 h =>
    cases h with
    | cons h5 h =>
    cases h
    obtain ⟨n, rfl, hn⟩ := rdF_int h1
    obtain ⟨r, rfl, hr⟩ := rdF_str h2
    obtain ⟨p, rfl, hp⟩ := rdF_str h3
    obtain ⟨t, rfl, ht⟩ := rdF_str h4
    obtain ⟨on, rfl, ho, hos⟩ := rdF_strs h5
    exact ⟨⟨n, r, p, t, on⟩, rfl, hr, hp, ht, ho, hos⟩
theorem rdF_docs {B : Nat} {x : List HV} (h : RdF B docsShF x) : ∃ l : List Doc, x = [.sl 5 false (docsHV l)] ∧ l.length ≤ B ∧ ∀ d ∈ l, DocF B d := by
  cases h with
  | sl sz e es hl hz h =>
    obtain ⟨l, rfl, hb⟩ := map_choiceF (f := Doc.enc) (p := DocF B) (fun x hx => rdF_doc (h x hx))
    exact ⟨l, rfl, by simpa using hl, hb⟩
theorem rdF_post {B : Nat} {x : List HV} (h : RdF B postShF x) : ∃ p : Post, x = p.enc ∧ True := by
  cases h with
  | st fs hs h =>
    cases h with
    | cons h1 h =>
    cases h with
    | cons h2 h =>
    cases h
    obtain ⟨n, rfl, hn⟩ := rdF_int h1
    obtain ⟨l, rfl, hl, hw⟩ := rdF_grams h2
    exact ⟨⟨n, l⟩, rfl, trivial⟩
def SegF (B : Nat) (s : Seg) : Prop := s.docs.length ≤ B ∧ ∀ d ∈ s.docs, DocF B d
theorem rdF_seg {B : Nat} {x : List HV} (h : RdF B segShF x) : ∃ s : Seg, x = s.enc ∧ SegF B s := by
  cases h with
  | st fs hs h =>
    cases h with
    | cons h1 h =>
    cases h with
    | cons h2 h =>
    cases h
    obtain ⟨l, rfl, hl, hd⟩ := rdF_docs h1
    cases h2 with
    | sl sz e es hl2 hz h =>
    obtain ⟨g, rfl, hb⟩ := map_choiceF (f := Post.enc) (p := fun _ => True) (fun x hx => rdF_post (h x hx))
    exact ⟨⟨l, g⟩, rfl, hl, hd⟩
theorem docs_of_trodW {H : Type} {enc : TypeId × Value → H} {P : Program} {w : World} {sp : Nat → Bool} {held : Bool} {t : TypeId} {a : Option Addr} {n c : Nat} {d : DataW H} {ps : List MemPlace} {B : Nat} (hk : shOKW P docsShF t = true)
    (h : DataW.Trod enc P w 0 sp held t (.slice a n c) d ps) (hB : ∀ n ∈ d.weights P t, n ≤ B) : ∃ l : List Doc, IRep w (fun _ => False) (.sl 5 false (docsHV l)) (.slice a n c) ∧ l.length ≤ B ∧ ∀ d ∈ l, DocF B d := by
  obtain ⟨hs, h1, h2⟩ := arg_of_trodW docsShF hk h hB
  obtain ⟨l, rfl, hl, hg⟩ := rdF_docs h1
  exact ⟨l, repsF_one h2, hl, hg⟩
theorem segs_of_trodW {H : Type} {enc : TypeId × Value → H} {P : Program} {w : World} {sp : Nat → Bool} {held : Bool} {t : TypeId} {a : Option Addr} {n c : Nat} {d : DataW H} {ps : List MemPlace} {B : Nat} (hk : shOKW P segsShF t = true)
    (h : DataW.Trod enc P w 0 sp held t (.slice a n c) d ps) (hB : ∀ n ∈ d.weights P t, n ≤ B) : ∃ l : List Seg, IRep w (fun _ => False) (.sl 2 false (segsHV l)) (.slice a n c) ∧ l.length ≤ B ∧ ∀ s ∈ l, SegF B s := by
  obtain ⟨hs, h1, h2⟩ := arg_of_trodW segsShF hk h hB
  cases h1 with
  | sl sz e es hl hz h =>
    obtain ⟨l, rfl, hb⟩ := map_choiceF (f := Seg.enc) (p := SegF B) (fun x hx => rdF_seg (h x hx))
    exact ⟨l, repsF_one h2, by simpa using hl, hb⟩
end Go.Hv
set_option linter.unusedVariables false
set_option linter.unusedSimpArgs false
/- The laws of layer 31, in the form in which their rows ask for them. -/
namespace Go.Hv
open Go Go.Hv Go.Proofs Go.RowKit
open Go.Proofs.YthdljfognblpbaaGreatDoor
theorem mergesR (ls : List Seg) (dead : List Int) (g : ls.length ≤ 140737488355328 ∧ ∀ s ∈ ls, SegF 140737488355328 s) (h : dead.length ≤ 140737488355328) : Spec1 Tryz.prog 3 [.sl 2 false (segsHV ls), .sl 1 false (intsHV dead)] (bo true) := merges_spec ls dead g.1 g.2 h
end Go.Hv
set_option linter.unusedVariables false
/- What the laws of this seat lean on besides their arguments: out of the world's shape; the wrap of a listed row, the shape kept. -/
namespace Go.Hv
open Go Go.Proofs
open Go.Proofs.YthdljfognblpbaaGreatDoor
theorem gok {w : World} (h : w.ShapedOpen Tryz.prog) : GI.G w :=
  Go.Proofs.cell_of_shapedOpen_int (g := 0) (zero := #[.int .i64 0]) (t := 3) h (of_decide_eq_true (by kernel_rfl)) (by kernel_rfl) rfl (by kernel_rfl) (by kernel_rfl) Tryz.underlying3
end Go.Hv
namespace Go
variable {H : Type} {enc : TypeId × Value → H}
theorem returnsInHanded_and_shaped {a : Assume} {C : Checked} {os : Os} {f : FuncId} {fn : Func} {s : ChangeSpec} {conds : List PathCond} {apart fresh handsOn again : Bool} {X : World → Array Value → Prop}
    (hX : ∀ (w w' : World) (args : Array Value), w.heap = w'.heap → X w args → X w' args)
    (own : ownKnob C.prog.godebug = none) (started : os.Started) (noInit : C.prog.inits.idxOf? f = none) (hfn : C.prog.funcs[f]? = some fn)
    (witness : ∃ (w : World) (tape : Tape) (i : Input), w.os = os ∧ (w.forCall tape i).Shaped C.prog ∧ i.vars = [] ∧ Input.okWide C.prog (w.forCall tape i) .any w.heap.size f i ∧
      ((s.pre enc C.prog fn conds apart (w.forCall tape i).memory i.args ∧ X (w.forCall tape i).memory i.args) ∧ sizedMet enc C.prog fn (OpenSpec.ofChange s) apart (w.forCall tape i).memory i.args) ∧ a.holds C.prog (lone (Frame.enter C.prog f i.args .normal) [] (w.forCall tape i)))
    (contract : ∀ (W : World) (base : Nat) (args : Array Value) (ds gs : List (DataW H)) (before : List MemPlace),
      (∀ (j : Nat) t v, fn.params[j]? = some t → args[j]? = some v → Value.okWide C.prog W .any base t v) →
      DataW.Whole enc C.prog fn.params.toList s.vars apart W args.toList ds gs before →
      conds.all (PathCond.test C.prog ⟨fn.params.toList, ds, s.plain.varTypes C.prog, gs⟩) = true →
      (DataW.weightsEach C.prog (fn.params.toList ++ s.plain.varTypes C.prog) (ds ++ gs)).all (· ≤ reachBytes) = true → X W args → W.ShapedOpen C.prog →
      a.holds C.prog (lone (Frame.enter C.prog f args .normal) [] W) →
      Calls C.prog f args W fun e W' => ∃ v, e = .returned v ∧ s.post enc C.prog fn apart fresh handsOn again W args v W') :
    ReturnsInHanded a C os f .any (fun w args => (s.pre enc C.prog fn conds apart w args ∧ X w args) ∧ sizedMet enc C.prog fn (OpenSpec.ofChange s) apart w args) (s.post enc C.prog fn apart fresh handsOn again) := by
  refine returnsInHanded_of_calls own started noInit witness ?_
  intro w tape i _ hsh _ hok hpre hholds
  obtain ⟨_, _, _, fn', hfn', _, _, _, _, hval⟩ := hok
  have e : fn' = fn := Option.some.inj (hfn'.symm.trans hfn)
  subst e
  obtain ⟨⟨⟨ds, gs, before, hw, hc⟩, hx⟩, hz⟩ := hpre
  have hw' := DataW.Whole.of_heap (w' := w.forCall tape i) (by rfl) hw
  refine (contract (w.forCall tape i) w.heap.size i.args ds gs before hval hw' hc (hz.weights hw) (hX _ _ _ (by rfl) hx) hsh hholds).mono fun e W' ⟨v, he, hp⟩ => ?_
  subst he
  exact ChangeSpec.post_blind hp
end Go
set_option linter.unusedVariables false
set_option linter.unusedSimpArgs false
namespace Go.Hv
open Go Go.Hv Go.Proofs Go.RowKit
open Go.Proofs.YthdljfognblpbaaGreatDoor
theorem docsB_filter {l : List Doc} (h : DocsB 140737488355328 l) (p : Doc → Bool) : DocsB 140737488355328 (l.filter p) := ⟨by have := List.length_filter_le p l; have := h.1; omega, fun d hd => h.2 d (List.mem_filter.1 hd).1⟩
theorem mergeNil_spec (ls : List Seg) (hs : SegsB ls) : SpecT Tryz.prog 12 [.sl 2 true (segsHV ls), .sl 0 true []] [.agg (mergeV ls []).1.enc, i64 (mergeV ls []).2] :=
  (Merge_of ls [] hs (by simp) Build_spec).args (l := [.sl 2 true (segsHV ls), .sl 0 true []]) (HLeL.cons (HLe.full _ _) (HLeL.cons (HLe.nilf _ _ _) HLeL.nil))
theorem mergeAny_spec (ls : List Seg) (dead : List Int) (hd : dead.length ≤ 1000000) (hs : SegsB ls) : SpecT Tryz.prog 12 [.sl 2 true (segsHV ls), .sl 1 false (intsHV dead)] [.agg (mergeV ls dead).1.enc, i64 (mergeV ls dead).2] :=
  (Merge_of ls dead hs hd Build_spec).args (l := [.sl 2 true (segsHV ls), .sl 1 false (intsHV dead)]) (HLeL.cons (HLe.full _ _) (HLeL.cons (HLe.refl _) HLeL.nil))
def liveV (dead : List Int) (l : List Doc) : List Doc := l.filter fun d => aliveB dead d.id
theorem liveV_succ (dead : List Int) {l : List Doc} {i : Nat} (hi : i < l.length) : liveV dead (l.take (i + 1)) = liveV dead (l.take i) ++ (if l[i].id ∈ dead then [] else [l[i]]) := by
  unfold liveV
  rw [filt_succ _ hi]
  by_cases h : l[i].id ∈ dead <;> simp [aliveB, h]
theorem liveV_le (dead : List Int) (l : List Doc) (i : Nat) : (liveV dead (l.take i)).length ≤ l.length := filt_le _ l i
end Go.Hv
set_option linter.unusedVariables false
set_option linter.unusedSimpArgs false
namespace Go.Hv
open Go Go.Hv Go.Proofs Go.RowKit
open Go.Proofs.YthdljfognblpbaaGreatDoor
theorem refs1_get {B n k : Nat} (h : k < n) : (refs B 1 n)[k]? = some [.ref (B + k)] := by
  unfold refs; rw [List.getElem?_map, List.getElem?_range h]; simp
@[simp] theorem refs1_getElem {B n k : Nat} (h : k < (refs B 1 n).length) : (refs B 1 n)[k] = [.ref (B + k)] := by simp [refs]
theorem refs1_sub {B n k : Nat} (h : k < n) : subLL (B + k) .any .any (refs B 1 n) = (refs B 1 n).set k [.any] := by
  rw [subLL_refs (by omega) (by decide)]
  have : (refs B 1 n).getD k [] = [.ref (B + k)] := by rw [List.getD_eq_getElem?_getD, refs1_get h]; rfl
  simp only [Nat.div_one, Nat.mod_one, this]
  rfl
theorem refs1_back {B n k : Nat} (h : k < n) : (refs B 1 n).set k [.ref (B + k)] = refs B 1 n := by
  apply List.ext_getElem?
  intro i
  rw [List.getElem?_set]
  split
  · next e => subst e; rw [if_pos (by simpa using h), refs1_get h]
  · rfl
def partN (parts : List Int) (i : Nat) : Nat := if (parts.getD i 0) < 3 then (parts.getD i 0).toNat else 0
theorem partN_lt (parts : List Int) (i : Nat) : partN parts i < 3 := by unfold partN; split <;> omega
theorem partV_snoc (part : Nat → Nat) {l : List Doc} {i : Nat} (hi : i < l.length) (k : Nat) : partV part (l.take (i + 1)) k = partV part (l.take i) k ++ if part i = k then [l[i]] else [] := by
  unfold partV
  rw [List.take_succ_eq_append_getElem hi, List.zipIdx_append, List.filter_append, List.map_append]
  congr 1
  have : (l.take i).length = i := by rw [List.length_take]; omega
  by_cases h : part i = k <;> simp [this, h]
theorem partV_len (part : Nat → Nat) (l : List Doc) (i k : Nat) : (partV part (l.take i) k).length ≤ l.length := by
  have := (partV_sub part (l.take i) k).length_le
  rw [List.length_take] at this; omega
theorem frz3 (g : Nat → Nat × List (List HV)) : frzs 1 3 g = [[.sl (g 0).1 false (g 0).2], [.sl (g 1).1 false (g 1).2], [.sl (g 2).1 false (g 2).2]] := by
  simp [frzs, List.range_succ]
theorem part_B (part : Nat → Nat) {l : List Doc} (h : DocsB 140737488355328 l) (k : Nat) : DocsB 140737488355328 (partV part l k) := ⟨by have := (partV_sub part l k).length_le; have := h.1; omega, fun d hd => h.2 d ((partV_sub part l k).subset hd)⟩
theorem segs_B {ls : List (List Doc)} (h6 : ls.length ≤ 6) (h : ∀ l ∈ ls, l.length ≤ 40 ∧ DocsB 140737488355328 l) : SegsB (ls.map segV) :=
  ⟨by simpa using h6, fun s hs => by obtain ⟨l, hl, rfl⟩ := List.mem_map.1 hs; exact (h l hl).1, fun s hs d hd => by obtain ⟨l, hl, rfl⟩ := List.mem_map.1 hs; exact (h l hl).2.2 d hd⟩
theorem merge_docs (ls : List Seg) (dead : List Int) : (mergeV ls dead).1.docs.length ≤ (allV ls dead).length ∧ ∀ d ∈ (mergeV ls dead).1.docs, d ∈ allV ls dead := by
  unfold mergeV
  split
  · unfold buildV
    split
    · exact ⟨by rw [show (segV (sortV (allV ls dead)), (0 : Int)).1.docs = sortV (allV ls dead) from rfl, (sortV_perm _).length_eq]; exact Nat.le_refl _, fun d hd => (sortV_perm _).mem_iff.1 hd⟩
    · exact ⟨Nat.zero_le _, fun d hd => by simp [emptySeg] at hd⟩
  · exact ⟨Nat.zero_le _, fun d hd => by simp [emptySeg] at hd⟩
theorem ab_B {part : Nat → Nat} {l : List Doc} {ab : Seg} (h3 : ∀ i, part i < 3) (h40 : l.length ≤ 40) (hl : DocsB 140737488355328 l) (hab : mergeV [segV (partV part l 0), segV (partV part l 1)] [] = (ab, 0)) : SegsB [ab, segV (partV part l 2)] := by
  have hd := merge_docs [segV (partV part l 0), segV (partV part l 1)] []
  rw [hab, allV_nil] at hd
  simp only [segV, List.flatMap_cons, List.flatMap_nil, List.append_nil] at hd
  have hp := (partV_perm (part := part) l h3).length_eq
  simp only [List.length_append] at hp hd
  refine ⟨by simp, fun s hs => ?_, fun s hs d hm => ?_⟩
  · rcases List.mem_cons.1 hs with rfl | hs
    · have := hd.1; omega
    · rw [List.mem_singleton.1 hs]; show (partV part l 2).length ≤ 40; omega
  · rcases List.mem_cons.1 hs with rfl | hs
    · rcases List.mem_append.1 (hd.2 d hm) with h | h
      · exact (part_B part hl 0).2 d h
      · exact (part_B part hl 1).2 d h
    · rw [List.mem_singleton.1 hs] at hm; exact (part_B part hl 2).2 d hm
theorem part_40 (part : Nat → Nat) {l : List Doc} (h : l.length ≤ 40) (hl : DocsB 140737488355328 l) (k : Nat) : (partV part l k).length ≤ 40 ∧ DocsB 140737488355328 (partV part l k) := ⟨by have := (partV_sub part l k).length_le; omega, part_B part hl k⟩
set_option maxRecDepth 20000 in
set_option maxHeartbeats 8000000 in
theorem rebuilds_spec (l : List Doc) (parts dead : List Int) (hl : DocsB 140737488355328 l) (hp : parts.length ≤ 140737488355328) (hd : dead.length ≤ 140737488355328) : Spec1 Tryz.prog 9 [.sl 5 false (docsHV l), .sl 1 false (intsHV parts), .sl 1 false (intsHV dead)] (bo true) := by
  have hl0 := hl.1
  refine Spec1.of_HT Tryz.func9 rfl (by rw [Tryz.ntmps9]; simp) rfl ?_
  rw [Tryz.ntmps9]
  refine HT.seq ?_
  refine HT.region ?_   -- R0
  simp (disch := first | omega | (simp <;> omega) | fail) [wrap_i64, wrap_u64, wrap_u8']
  refine HT.seq ?_
  refine HT.seq ?_
  refine HT.region ?_   -- R1
  simp (disch := first | omega | (simp <;> omega) | fail) [wrap_i64, wrap_u64, wrap_u8']
  refine stepK.mk (.call1 _ _ _ _ rfl Ty.hb10 rfl (alive_spec) rfl rfl) ?_
  simp (disch := first | omega | (simp <;> omega) | fail) [wrap_i64, wrap_u64, wrap_u8']
  refine HT.cond' ?_   -- if 28
  simp (disch := first | omega | (simp <;> omega) | fail) [wrap_i64, wrap_u64, wrap_u8']
  refine HT.skip ?_
  simp (disch := first | omega | (simp <;> omega) | fail) [wrap_i64, wrap_u64, wrap_u8']
  refine HT.seq ?_
  refine HT.seq ?_
  by_cases c1 : 40 < l.length
  · skip
    refine HT.region ?_   -- R3
    simp (disch := first | omega | (simp <;> omega) | fail) [wrap_i64, wrap_u64, wrap_u8']
    refine HT.cond' ?_   -- if 46
    simp (disch := first | omega | (simp <;> omega) | fail) [wrap_i64, wrap_u64, wrap_u8']
    refine HT.seq ?_
    refine HT.region ?_   -- R4
    simp (disch := first | omega | (simp <;> omega) | fail) [wrap_i64, wrap_u64, wrap_u8']
    refine HT.ret ?_
    simp (disch := first | omega | (simp <;> omega) | fail) [wrap_i64, wrap_u64, wrap_u8']
  by_cases c2 : 40 < parts.length
  · skip
    refine HT.region ?_   -- R3
    simp (disch := first | omega | (simp <;> omega) | fail) [wrap_i64, wrap_u64, wrap_u8']
    refine HT.cond' ?_   -- if 46
    simp (disch := first | omega | (simp <;> omega) | fail) [wrap_i64, wrap_u64, wrap_u8']
    refine HT.seq ?_
    refine HT.region ?_   -- R4
    simp (disch := first | omega | (simp <;> omega) | fail) [wrap_i64, wrap_u64, wrap_u8']
    refine HT.ret ?_
    simp (disch := first | omega | (simp <;> omega) | fail) [wrap_i64, wrap_u64, wrap_u8']
  by_cases c3 : 40 < dead.length
  · skip
    refine HT.region ?_   -- R3
    simp (disch := first | omega | (simp <;> omega) | fail) [wrap_i64, wrap_u64, wrap_u8']
    refine HT.cond' ?_   -- if 46
    simp (disch := first | omega | (simp <;> omega) | fail) [wrap_i64, wrap_u64, wrap_u8']
    refine HT.seq ?_
    refine HT.region ?_   -- R4
    simp (disch := first | omega | (simp <;> omega) | fail) [wrap_i64, wrap_u64, wrap_u8']
    refine HT.ret ?_
    simp (disch := first | omega | (simp <;> omega) | fail) [wrap_i64, wrap_u64, wrap_u8']
  by_cases c4 : ¬ rightV l = 0
  · skip
    refine HT.region ?_   -- R3
    simp (disch := first | omega | (simp <;> omega) | fail) [wrap_i64, wrap_u64, wrap_u8', c4]
    refine stepK.mk (.call1 _ _ _ _ rfl Ty.hb26 rfl (refRight_spec l hl) rfl rfl) ?_
    simp (disch := first | omega | (simp <;> omega) | fail) [wrap_i64, wrap_u64, wrap_u8', c4]
    refine HT.cond' ?_   -- if 46
    simp (disch := first | omega | (simp <;> omega) | fail) [wrap_i64, wrap_u64, wrap_u8']
    refine HT.seq ?_
    refine HT.region ?_   -- R4
    simp (disch := first | omega | (simp <;> omega) | fail) [wrap_i64, wrap_u64, wrap_u8']
    refine HT.ret ?_
    simp (disch := first | omega | (simp <;> omega) | fail) [wrap_i64, wrap_u64, wrap_u8']
  rw [Classical.not_not] at c4
  refine HT.region ?_   -- R3
  simp (disch := first | omega | (simp <;> omega) | fail) [wrap_i64, wrap_u64, wrap_u8', c4]
  refine stepK.mk (.call1 _ _ _ _ rfl Ty.hb26 rfl (refRight_spec l hl) rfl rfl) ?_
  simp (disch := first | omega | (simp <;> omega) | fail) [wrap_i64, wrap_u64, wrap_u8', c4]
  refine HT.cond' ?_   -- if 46
  simp (disch := first | omega | (simp <;> omega) | fail) [wrap_i64, wrap_u64, wrap_u8']
  refine HT.skip ?_
  simp (disch := first | omega | (simp <;> omega) | fail) [wrap_i64, wrap_u64, wrap_u8']
  refine HT.seq ?_
  refine HT.region ?_   -- R5
  simp (disch := first | omega | (simp <;> omega) | fail) [wrap_i64, wrap_u64, wrap_u8']
  refine HT.seq ?_
  refine HT.region ?_   -- R6
  simp (disch := first | omega | (simp <;> omega) | fail) [wrap_i64, wrap_u64, wrap_u8']
  refine HT.weaken (HS.le_own (t := 8) 200 47 5 _ (by decide) rfl (by decide)) ?_
  refine HT.weaken (HS.le_fits (M := [.s 0 (.sl 5 false (docsHV l)), .s 1 (.sl 1 false (intsHV parts)), .s 2 (.sl 1 false (intsHV dead)), .s 7 (.ref 47), .s 8 (.ref 200), .o 200 (.row 47 5 []), .o 47 (.row 26 1 (List.replicate 3 [.sl 0 true []]))]) ?_) ?_
  · simp (disch := first | omega | (simp <;> omega) | fail) [wrap_i64, wrap_u64, wrap_u8']
  refine HT.weaken (HS.le_rows (id := 47) (e := 26) (sz := 1) (es := List.replicate 3 [.sl 0 true []]) 1000 (fun _ => (47, 5)) ?_ ?_ ?_ (fun _ => by decide)) ?_
  · simp [evB, lowR, belowO, lowRL]
  · simp
  · intro x hx c hc
    obtain ⟨_, rfl⟩ := List.mem_replicate.1 hx
    simp at hc
    exact ⟨0, hc⟩
  refine HT.seq ?_
  refine HT.seq ?_
  refine HT.region ?_   -- R7
  simp (disch := first | omega | (simp <;> omega) | fail) [wrap_i64, wrap_u64, wrap_u8']
  refine HT.block ?_
  refine HT.loopK (fun i : {i : Nat // i ≤ l.length} => [.s 9 (i64 i), .s 8 (.ref 200), .o 200 (.row 47 5 (docsHV (liveV dead (l.take i)))), .o 47 (.row 26 1 (refs 1000 1 3)), .os (fam 1000 3 fun q => .row 47 5 (docsHV (partV (partN parts) (l.take i) q)))]) [0, 1, 2, 7, 166, 167, 170, 171, 174, 175, 178, 179, 184, 185, 186, 189, 190, 191, 194, 195, 196] [] (fun i => l.length - i) (⟨0, by omega⟩) ?_ ?_   -- block 0 turned [8, 9, 59, 60, 61, 62, 63, 66, 67, 68, 69, 70]
  · skip
    simp (disch := first | omega | (simp <;> omega) | fail) [wrap_i64, wrap_u64, wrap_u8', liveV, partV]
    intro id o h
    obtain ⟨q, hq, rfl, rfl⟩ := fam_some h
    simp (disch := first | omega | (simp <;> omega) | fail) [wrap_i64, wrap_u64, wrap_u8', fam_at hq, eq_lo, eq_lo']
  rintro ⟨i, hi⟩
  simp (disch := first | omega | (simp <;> omega) | fail) [wrap_i64, wrap_u64, wrap_u8']
  refine HT.seq ?_
  refine HT.seq ?_
  refine HT.region ?_   -- R8
  simp (disch := first | omega | (simp <;> omega) | fail) [wrap_i64, wrap_u64, wrap_u8']
  refine HT.cond' ?_   -- if 51
  simp (disch := first | omega | (simp <;> omega) | fail) [wrap_i64, wrap_u64, wrap_u8']
  refine ⟨fun h51 => ?_, fun h51 => ?_⟩
  · skip
    have hi' : i < l.length := by omega
    have hlvl := liveV_le dead l i
    have hqn := partN_lt parts i
    have hpl := partV_len (partN parts) l i (partN parts i)
    refine HT.skip ?_
    simp (disch := first | omega | (simp <;> omega) | fail) [wrap_i64, wrap_u64, wrap_u8']
    refine HT.seq ?_
    refine HT.block ?_
    refine HT.seq ?_
    refine HT.region ?_   -- R10
    simp (disch := first | omega | (simp <;> omega) | fail) [wrap_i64, wrap_u64, wrap_u8']
    refine HT.joinK [.s 10 (i64 (partN parts i)), .o 200 (.row 47 5 (docsHV (liveV dead (l.take i)))), .o 47 (.row 26 1 (refs 1000 1 3)), .os (fam 1000 3 fun q => .row 47 5 (docsHV (partV (partN parts) (l.take i) q)))] [0, 1, 2, 7, 8, 9, 166, 167, 170, 171, 174, 175, 178, 179, 184, 185, 186, 189, 190, 191, 194, 195, 196] [] ?_ ?_
    · skip
      refine HT.seq ?_
      by_cases q1 : ¬ i < parts.length
      · skip
        refine HT.region ?_   -- R11
        simp (disch := first | omega | (simp <;> omega) | fail) [wrap_i64, wrap_u64, wrap_u8', q1]
        refine HT.cond' ?_   -- if 71
        simp (disch := first | omega | (simp <;> omega) | fail) [wrap_i64, wrap_u64, wrap_u8']
        have hq0 : partN parts i = 0 := by unfold partN; first | (rw [hpg]; split <;> omega) | (rw [List.getD_eq_getElem?_getD, List.getElem?_eq_none (by omega)]; rfl)
        refine HT.skip ?_
        simp (disch := first | omega | (simp <;> omega) | fail) [wrap_i64, wrap_u64, wrap_u8']
        refine ⟨by first | exact hq1 | exact hq0 | exact hq0.symm | omega, fun id o h => ?_⟩
        obtain ⟨q, hq, rfl, rfl⟩ := fam_some h
        simp (disch := first | omega | (simp <;> omega) | fail) [wrap_i64, wrap_u64, wrap_u8', fam_at hq, eq_lo, eq_lo']
      rw [Classical.not_not] at q1
      have hpg : parts.getD i 0 = parts[i] := by simp [List.getD_eq_getElem?_getD, q1]
      by_cases q2 : parts[i] < 0
      · skip
        refine HT.region ?_   -- R11
        simp (disch := first | omega | (simp <;> omega) | fail) [wrap_i64, wrap_u64, wrap_u8', q1, q2]
        refine HT.cond' ?_   -- if 71
        simp (disch := first | omega | (simp <;> omega) | fail) [wrap_i64, wrap_u64, wrap_u8']
        have hq0 : partN parts i = 0 := by unfold partN; first | (rw [hpg]; split <;> omega) | (rw [List.getD_eq_getElem?_getD, List.getElem?_eq_none (by omega)]; rfl)
        refine HT.skip ?_
        simp (disch := first | omega | (simp <;> omega) | fail) [wrap_i64, wrap_u64, wrap_u8']
        refine ⟨by first | exact hq1 | exact hq0 | exact hq0.symm | omega, fun id o h => ?_⟩
        obtain ⟨q, hq, rfl, rfl⟩ := fam_some h
        simp (disch := first | omega | (simp <;> omega) | fail) [wrap_i64, wrap_u64, wrap_u8', fam_at hq, eq_lo, eq_lo']
      by_cases q3 : ¬ parts[i] < 3
      · skip
        refine HT.region ?_   -- R11
        simp (disch := first | omega | (simp <;> omega) | fail) [wrap_i64, wrap_u64, wrap_u8', q1, q2, q3]
        refine HT.cond' ?_   -- if 71
        simp (disch := first | omega | (simp <;> omega) | fail) [wrap_i64, wrap_u64, wrap_u8']
        have hq0 : partN parts i = 0 := by unfold partN; first | (rw [hpg]; split <;> omega) | (rw [List.getD_eq_getElem?_getD, List.getElem?_eq_none (by omega)]; rfl)
        refine HT.skip ?_
        simp (disch := first | omega | (simp <;> omega) | fail) [wrap_i64, wrap_u64, wrap_u8']
        refine ⟨by first | exact hq1 | exact hq0 | exact hq0.symm | omega, fun id o h => ?_⟩
        obtain ⟨q, hq, rfl, rfl⟩ := fam_some h
        simp (disch := first | omega | (simp <;> omega) | fail) [wrap_i64, wrap_u64, wrap_u8', fam_at hq, eq_lo, eq_lo']
      rw [Classical.not_not] at q3
      refine HT.region ?_   -- R11
      simp (disch := first | omega | (simp <;> omega) | fail) [wrap_i64, wrap_u64, wrap_u8', q1, q2, q3]
      refine HT.cond' ?_   -- if 71
      simp (disch := first | omega | (simp <;> omega) | fail) [wrap_i64, wrap_u64, wrap_u8']
      have hq1 : parts[i] = (partN parts i : Int) := by unfold partN; rw [hpg, if_pos q3]; omega
      refine HT.region ?_   -- R12
      simp (disch := first | omega | (simp <;> omega) | fail) [wrap_i64, wrap_u64, wrap_u8']
      refine ⟨by first | exact hq1 | exact hq0 | exact hq0.symm | omega, fun id o h => ?_⟩
      obtain ⟨q, hq, rfl, rfl⟩ := fam_some h
      simp (disch := first | omega | (simp <;> omega) | fail) [wrap_i64, wrap_u64, wrap_u8', fam_at hq, eq_lo, eq_lo']
    · simp (disch := first | omega | (simp <;> omega) | fail) [wrap_i64, wrap_u64, wrap_u8']
      refine HT.seq ?_
      have hl64 : l.length ≤ 40 := by omega
      have b1 : ∀ N, 4000000 ≤ N → (partV (partN parts) (l.take i) (partN parts i)).length ≤ N := fun N h => by omega
      have b2 : ∀ N, 4000000 ≤ N → (partV (partN parts) (l.take i) (partN parts i)).length + 1 ≤ N := fun N h => by omega
      have b3 : ∀ N, 400000000 ≤ N → ((partV (partN parts) (l.take i) (partN parts i)).length + 1) * 80 ≤ N := fun N h => by omega
      refine HT.draw [.take 0, .take 1, .take 2, .take 3, .take 6, .take 7, .batch [4, 5, 8, 9, 10], .one 11, .batch [12], .one 13] (by kernel_rfl) ?_   -- R13
      simp (disch := first | omega | (simp <;> omega) | fail) [wrap_i64, wrap_u64, wrap_u8', b1, b2, b3, hi', show ((partN parts i : Nat) : Int) < 3 by omega, Nat.mod_one, refs1_get hqn, refs1_sub hqn, refs1_back hqn, fam_at hqn, eq_lo, eq_lo']
      refine HT.seq ?_
      refine HT.region ?_   -- R14
      simp (disch := first | omega | (simp <;> omega) | fail) [wrap_i64, wrap_u64, wrap_u8']
      refine stepK.mk (.call1 _ _ _ _ rfl Ty.hb25 rfl (Has_spec false dead l[i].id hd) rfl rfl) ?_
      simp (disch := first | omega | (simp <;> omega) | fail) [wrap_i64, wrap_u64, wrap_u8']
      refine HT.cond' ?_   -- if 96
      simp (disch := first | omega | (simp <;> omega) | fail) [wrap_i64, wrap_u64, wrap_u8']
      refine ⟨fun h96 => ?_, fun h96 => ?_⟩
      · skip
        refine HT.region ?_   -- R15
        simp (disch := first | omega | (simp <;> omega) | fail) [wrap_i64, wrap_u64, wrap_u8']
        refine HT.region ?_   -- R9
        simp (disch := first | omega | (simp <;> omega) | fail) [wrap_i64, wrap_u64, wrap_u8']
        refine Round.mk' (⟨i + 1, by omega⟩) (by dsimp only; omega) rfl ?_
        simp (disch := first | omega | (simp <;> omega) | fail) [wrap_i64, wrap_u64, wrap_u8', liveV_succ dead hi', h96, docsHV_snoc']
        intro id o h
        obtain ⟨q, hq, rfl, rfl⟩ := fam_some h
        simp only [partV_snoc (partN parts) hi']
        by_cases e : partN parts i = q
        · subst e
          simp (disch := first | omega | (simp <;> omega) | fail) [wrap_i64, wrap_u64, wrap_u8', eq_lo, eq_lo', docsHV_snoc']
        · simp (disch := first | omega | (simp <;> omega) | fail) [wrap_i64, wrap_u64, wrap_u8', e, fam_at hq, eq_lo, eq_lo']
      · skip
        refine HT.skip ?_
        simp (disch := first | omega | (simp <;> omega) | fail) [wrap_i64, wrap_u64, wrap_u8']
        refine HT.region ?_   -- R9
        simp (disch := first | omega | (simp <;> omega) | fail) [wrap_i64, wrap_u64, wrap_u8']
        refine Round.mk' (⟨i + 1, by omega⟩) (by dsimp only; omega) rfl ?_
        simp (disch := first | omega | (simp <;> omega) | fail) [wrap_i64, wrap_u64, wrap_u8', liveV_succ dead hi', h96, docsHV_snoc']
        intro id o h
        obtain ⟨q, hq, rfl, rfl⟩ := fam_some h
        simp only [partV_snoc (partN parts) hi']
        by_cases e : partN parts i = q
        · subst e
          simp (disch := first | omega | (simp <;> omega) | fail) [wrap_i64, wrap_u64, wrap_u8', eq_lo, eq_lo', docsHV_snoc']
        · simp (disch := first | omega | (simp <;> omega) | fail) [wrap_i64, wrap_u64, wrap_u8', e, fam_at hq, eq_lo, eq_lo']
  · skip
    obtain rfl : i = l.length := by omega
    obtain ⟨hk, hlv, hm1, hm2, ab, hab, hz⟩ := rebuilds (part := partN parts) (dead := dead) c4 (partN_lt parts)
    have h40 : l.length ≤ 40 := by omega
    have hk0 := hk 0
    have hk1 := hk 1
    have hk2 := hk 2
    have hQ : SegQ (segV (liveV dead l)) := seg_Q (right_sub c4 List.filter_sublist) (docsB_filter hl _)
    have hab2 := ab_B (partN_lt parts) h40 hl hab
    change buildV (liveV dead l) = (segV (liveV dead l), 0) at hlv
    change mergeV _ dead = (segV (liveV dead l), 0) at hm1 hm2 hz
    refine HT.exit ?_
    simp (disch := first | omega | (simp <;> omega) | fail) [wrap_i64, wrap_u64, wrap_u8']
    refine HT.weaken (HS.le_frzref (id := 200) (xr := .sl 5 false (docsHV (liveV dead l))) (xm := .any) (by simp)) ?_
    refine HT.weaken (HS.le_frz (id := 47) (e := 26) (sz := 1) (m := 3) 1000 (fun q => (5, docsHV (partV (partN parts) l q))) ?_ (by decide) ?_) ?_
    · simp
    · intro q hq
      have hq : q < 3 := by omega
      exact ⟨47, by simp (disch := first | omega | (simp <;> omega) | fail) [wrap_i64, wrap_u64, wrap_u8', fam_at hq, eq_lo, eq_lo'], by simp⟩
    rw [frz3]
    refine HT.seq ?_
    refine HT.region ?_   -- R16
    simp (disch := first | omega | (simp <;> omega) | fail) [wrap_i64, wrap_u64, wrap_u8']
    refine stepK.mk (.callTf _ _ _ _ _ rfl Ty.hb15 rfl rfl (Build_spec (partV (partN parts) l 0) (part_B _ hl 0)) rfl) ?_
    simp (disch := first | omega | (simp <;> omega) | fail) [wrap_i64, wrap_u64, wrap_u8', hk0]
    refine HT.seq ?_
    refine HT.region ?_   -- R17
    simp (disch := first | omega | (simp <;> omega) | fail) [wrap_i64, wrap_u64, wrap_u8']
    refine stepK.mk (.callTf _ _ _ _ _ rfl Ty.hb15 rfl rfl (Build_spec (partV (partN parts) l 1) (part_B _ hl 1)) rfl) ?_
    simp (disch := first | omega | (simp <;> omega) | fail) [wrap_i64, wrap_u64, wrap_u8', hk1]
    refine HT.seq ?_
    refine HT.region ?_   -- R18
    simp (disch := first | omega | (simp <;> omega) | fail) [wrap_i64, wrap_u64, wrap_u8']
    refine stepK.mk (.callTf _ _ _ _ _ rfl Ty.hb15 rfl rfl (Build_spec (partV (partN parts) l 2) (part_B _ hl 2)) rfl) ?_
    simp (disch := first | omega | (simp <;> omega) | fail) [wrap_i64, wrap_u64, wrap_u8', hk2]
    refine HT.seq ?_
    refine HT.region ?_   -- R19
    simp (disch := first | omega | (simp <;> omega) | fail) [wrap_i64, wrap_u64, wrap_u8']
    refine stepK.mk (.callTf _ _ _ _ _ rfl Ty.hb15 rfl rfl (Build_spec (liveV dead l) (docsB_filter hl _)) rfl) ?_
    simp (disch := first | omega | (simp <;> omega) | fail) [wrap_i64, wrap_u64, wrap_u8', hlv]
    refine HT.seq ?_
    refine HT.region ?_   -- R20
    simp (disch := first | omega | (simp <;> omega) | fail) [wrap_i64, wrap_u64, wrap_u8']
    refine stepK.mk (.callTf _ _ _ _ _ rfl Ty.hb12 rfl rfl (mergeAny_spec [segV (partV (partN parts) l 0), segV (partV (partN parts) l 1), segV (partV (partN parts) l 2)] dead (by omega) (segs_B (ls := [_, _, _]) (by simp) (fun m hm => by simp at hm; rcases hm with rfl | rfl | rfl <;> exact part_40 _ h40 hl _))) rfl) ?_
    simp (disch := first | omega | (simp <;> omega) | fail) [wrap_i64, wrap_u64, wrap_u8', hm1]
    refine HT.seq ?_
    refine HT.region ?_   -- R21
    simp (disch := first | omega | (simp <;> omega) | fail) [wrap_i64, wrap_u64, wrap_u8']
    refine stepK.mk (.callTf _ _ _ _ _ rfl Ty.hb12 rfl rfl (mergeAny_spec [segV (partV (partN parts) l 2), segV (partV (partN parts) l 1), segV (partV (partN parts) l 0)] dead (by omega) (segs_B (ls := [_, _, _]) (by simp) (fun m hm => by simp at hm; rcases hm with rfl | rfl | rfl <;> exact part_40 _ h40 hl _))) rfl) ?_
    simp (disch := first | omega | (simp <;> omega) | fail) [wrap_i64, wrap_u64, wrap_u8', hm2]
    refine HT.seq ?_
    refine HT.region ?_   -- R22
    simp (disch := first | omega | (simp <;> omega) | fail) [wrap_i64, wrap_u64, wrap_u8']
    refine stepK.mk (.callTf _ _ _ _ _ rfl Ty.hb12 rfl rfl (mergeNil_spec [segV (partV (partN parts) l 0), segV (partV (partN parts) l 1)] (segs_B (ls := [_, _]) (by simp) (fun m hm => by simp at hm; rcases hm with rfl | rfl <;> exact part_40 _ h40 hl _))) rfl) ?_
    simp (disch := first | omega | (simp <;> omega) | fail) [wrap_i64, wrap_u64, wrap_u8', hab]
    refine HT.seq ?_
    refine HT.region ?_   -- R23
    simp (disch := first | omega | (simp <;> omega) | fail) [wrap_i64, wrap_u64, wrap_u8']
    refine stepK.mk (.callTf _ _ _ _ _ rfl Ty.hb12 rfl rfl (mergeAny_spec [ab, segV (partV (partN parts) l 2)] dead (by omega) hab2) rfl) ?_
    simp (disch := first | omega | (simp <;> omega) | fail) [wrap_i64, wrap_u64, wrap_u8', hz]
    refine HT.seq ?_
    refine HT.seq ?_
    refine HT.region ?_   -- R24
    simp (disch := first | omega | (simp <;> omega) | fail) [wrap_i64, wrap_u64, wrap_u8']
    refine HT.cond' ?_   -- if 180
    simp (disch := first | omega | (simp <;> omega) | fail) [wrap_i64, wrap_u64, wrap_u8']
    refine HT.skip ?_
    simp (disch := first | omega | (simp <;> omega) | fail) [wrap_i64, wrap_u64, wrap_u8']
    refine HT.seq ?_
    refine HT.region ?_   -- R26
    simp (disch := first | omega | (simp <;> omega) | fail) [wrap_i64, wrap_u64, wrap_u8']
    refine stepK.mk (.call1f _ _ _ _ _ rfl Ty.hb27 rfl rfl (SRight_of (segV (liveV dead l)) hQ (by rw [show (segV (liveV dead l)).docs = liveV dead l from rfl, hlv]; exact hQ) Build_spec) rfl) ?_
    simp (disch := first | omega | (simp <;> omega) | fail) [wrap_i64, wrap_u64, wrap_u8', show (segV (liveV dead l)).docs = liveV dead l from rfl, hlv]
    refine stepK.mk (.call1f _ _ _ _ _ rfl Ty.hb14 rfl rfl (Same29_spec (segV (liveV dead l)) (segV (liveV dead l)) hQ hQ) rfl) ?_
    simp (disch := first | omega | (simp <;> omega) | fail) [wrap_i64, wrap_u64, wrap_u8']
    refine stepK.mk (.call1f _ _ _ _ _ rfl Ty.hb14 rfl rfl (Same29_spec (segV (liveV dead l)) (segV (liveV dead l)) hQ hQ) rfl) ?_
    simp (disch := first | omega | (simp <;> omega) | fail) [wrap_i64, wrap_u64, wrap_u8']
    refine stepK.mk (.call1f _ _ _ _ _ rfl Ty.hb14 rfl rfl (Same29_spec (segV (liveV dead l)) (segV (liveV dead l)) hQ hQ) rfl) ?_
    simp (disch := first | omega | (simp <;> omega) | fail) [wrap_i64, wrap_u64, wrap_u8']
    refine HT.ret ?_
    simp (disch := first | omega | (simp <;> omega) | fail) [wrap_i64, wrap_u64, wrap_u8']
end Go.Hv
set_option linter.unusedVariables false
set_option linter.unusedSimpArgs false
/- The laws of layer 31, in the form in which their rows ask for them. -/
namespace Go.Hv
open Go Go.Hv Go.Proofs Go.RowKit
open Go.Proofs.YthdljfognblpbaaGreatDoor
theorem rebuildsR (l : List Doc) (parts dead : List Int) (g : l.length ≤ 140737488355328 ∧ ∀ d ∈ l, DocF 140737488355328 d) (h : parts.length ≤ 140737488355328) (k : dead.length ≤ 140737488355328) : Spec1 Tryz.prog 9 [.sl 5 false (docsHV l), .sl 1 false (intsHV parts), .sl 1 false (intsHV dead)] (bo true) := rebuilds_spec l parts dead g h k
end Go.Hv
