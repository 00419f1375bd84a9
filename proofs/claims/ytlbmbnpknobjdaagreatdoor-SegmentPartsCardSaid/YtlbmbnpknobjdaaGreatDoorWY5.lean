import Derived.Test.YtlbmbnpknobjdaaGreatDoorWY4
import Derived.HandedShaped
import Derived.Shelf.Vars
import Derived.ProofKit
import Derived.OpenShut
import Derived.LaidMore
import Derived.Lay
import Derived.SevenTiedAt
import Derived.Stop.Joined
set_option linter.unusedVariables false
set_option linter.unusedSimpArgs false
/- Eval of a segment, walked (layer 29). -/
namespace Go.Hv
open Go Go.Hv Go.Proofs Go.RowKit
open Go.Proofs.YtlbmbnpknobjdaaGreatDoor
def rowQ (p : List (Int × Int)) (i : Nat) : HObj := .row 3 1 (intsHV (gatI p ((fI p).getD i 0)))
theorem fI_snoc_get (p : List (Int × Int)) (c g : Int) {i : Nat} (hi : i < (fI p).length) : (fI (p ++ [(c, g)]))[i]? = (fI p)[i]? := by
  rw [fI_snoc]; unfold adK
  split
  · rfl
  · rw [List.getElem?_append_left hi]
theorem rowQ_same {p : List (Int × Int)} {c g : Int} {i : Nat} (hi : i < (fI p).length) (hne : (fI p)[i]? ≠ some c) : rowQ (p ++ [(c, g)]) i = rowQ p i := by
  unfold rowQ
  rw [List.getD_eq_getElem?_getD, List.getD_eq_getElem?_getD, fI_snoc_get p c g hi, List.getElem?_eq_getElem hi, gatI_snoc, if_neg, List.append_nil]
  rw [List.getElem?_eq_getElem hi] at hne
  intro h
  exact hne (by rw [h]; rfl)
theorem rowQ_hit {p : List (Int × Int)} {c g : Int} {i : Nat} (he : (fI (p ++ [(c, g)]))[i]? = some c) : rowQ (p ++ [(c, g)]) i = .row 3 1 (intsHV (gatI p c ++ [g])) := by
  unfold rowQ
  rw [List.getD_eq_getElem?_getD, he, gatI_snoc]
  simp
theorem isIM_fentsQ (p : List (Int × Int)) (ks : List Int) : isIM (fents eI (fun k => HV.sl 1 false (intsHV (gatI p k))) ks) = true := isIM_fents _ _ _ (fun _ => rfl)
theorem fents_keys {K : Type} (enc g : K → HV) (ks : List K) : (fents enc g ks).map (·.1) = ks.map enc := by simp [fents]
theorem find_fents (p : List (Int × Int)) (c : Int) (ks : List Int) : findHV Tryz.prog 3 (.lit (.int .i64 c)) (fents eI (fun k => HV.sl 1 false (intsHV (gatI p k))) ks) 0 = some (if c ∈ ks then some (ks.idxOf c, .sl 1 false (intsHV (gatI p c))) else none) := by
  have h := findHV_of (P := Tryz.prog) eI_eq c (fents eI (fun k => HV.sl 1 false (intsHV (gatI p k))) ks) ks 0 (fents_keys _ _ _)
  rw [show HV.lit (.int .i64 c) = eI c from rfl, h]
  split
  · next hc =>
    have hlt := List.idxOf_lt_length_iff.2 hc
    rw [List.getD_eq_getElem?_getD, fents_get, List.getElem?_eq_getElem hlt]
    simp [List.getElem_idxOf hlt]
  · rfl
theorem pJ_le {g : List Post} {P : Post} (h : ∀ p ∈ g, p.docs.length ≤ 64) (hg : g.length ≤ 128000) (hP : P.docs.length ≤ 64) (k j : Nat) : (pJ g P k j).length ≤ 9000000 := by
  unfold pJ
  rw [List.length_append]
  have h1 := evQ_length (g := g.take k) (m := 64) fun p hp => h p (List.mem_of_mem_take hp)
  have h2 : ((evP P).take j).length ≤ P.docs.length := by rw [List.length_take]; simp [evP]; omega
  have h3 : (g.take k).length ≤ g.length := by rw [List.length_take]; omega
  omega
set_option maxRecDepth 20000 in
set_option maxHeartbeats 8000000 in
theorem Eval_seg (l : List Doc) (n : NeedT) (hl : IncBy Doc.id l) (h64 : l.length ≤ 64) (hx : ∀ d ∈ l, d.text.length ≤ 900) (hb : NeedB 140737488355328 n) (hg1 : (gramsOf l).length ≤ 128000) (hg2 : ∀ p ∈ gramsOf l, p.docs.length ≤ 64) : Spec1 Tryz.prog 31 [.agg (segV l).enc, .agg (needC n)] (.sl 1 false (intsHV (evalR l n))) := by
  have hEl := evQ_length hg2
  have hEl2 : (evQ (gramsOf l)).length ≤ 8192000 := by omega
  refine Spec1.of_HT Tryz.func31 rfl (by rw [Tryz.ntmps31]; simp) rfl ?_
  rw [Tryz.ntmps31]
  refine HT.seq ?_
  refine HT.region ?_   -- R0
  simp (disch := first | omega | (simp <;> omega) | fail) [wrap_i64, wrap_u64, wrap_u8', eI, subM_kents_lo, eq_lo, eq_lo', show (segV l).docs = l from rfl, show (segV l).grams = gramsOf l from rfl]
  refine HT.seq ?_
  refine HT.seq ?_
  by_cases hv : validN n 1 = false
  · skip
    refine HT.region ?_   -- R1
    simp (disch := first | omega | (simp <;> omega) | fail) [wrap_i64, wrap_u64, wrap_u8', eI, subM_kents_lo, eq_lo, eq_lo', show (segV l).docs = l from rfl, show (segV l).grams = gramsOf l from rfl, hv]
    refine stepK.mk (.call1f _ _ _ _ _ rfl Ty.hb63 rfl rfl (Rright_spec n hb) rfl) ?_
    simp (disch := first | omega | (simp <;> omega) | fail) [wrap_i64, wrap_u64, wrap_u8', eI, subM_kents_lo, eq_lo, eq_lo', show (segV l).docs = l from rfl, show (segV l).grams = gramsOf l from rfl, hv]
    refine HT.cond' ?_   -- if 15
    simp (disch := first | omega | (simp <;> omega) | fail) [wrap_i64, wrap_u64, wrap_u8', eI, subM_kents_lo, eq_lo, eq_lo', show (segV l).docs = l from rfl, show (segV l).grams = gramsOf l from rfl]
    refine HT.seq ?_
    refine HT.region ?_   -- R2
    simp (disch := first | omega | (simp <;> omega) | fail) [wrap_i64, wrap_u64, wrap_u8', eI, subM_kents_lo, eq_lo, eq_lo', show (segV l).docs = l from rfl, show (segV l).grams = gramsOf l from rfl]
    refine HT.weaken (HS.le_wk 4 (.sl 1 false []) (by decide) rfl rfl (HLe.nilf 0 1 true)) ?_
    refine HT.ret ?_
    simp (disch := first | omega | (simp <;> omega) | fail) [wrap_i64, wrap_u64, wrap_u8', eI, subM_kents_lo, eq_lo, eq_lo', show (segV l).docs = l from rfl, show (segV l).grams = gramsOf l from rfl, evalR, hv]
  rw [Bool.not_eq_false] at hv
  refine HT.region ?_   -- R1
  simp (disch := first | omega | (simp <;> omega) | fail) [wrap_i64, wrap_u64, wrap_u8', eI, subM_kents_lo, eq_lo, eq_lo', show (segV l).docs = l from rfl, show (segV l).grams = gramsOf l from rfl, hv]
  refine stepK.mk (.call1f _ _ _ _ _ rfl Ty.hb63 rfl rfl (Rright_spec n hb) rfl) ?_
  simp (disch := first | omega | (simp <;> omega) | fail) [wrap_i64, wrap_u64, wrap_u8', eI, subM_kents_lo, eq_lo, eq_lo', show (segV l).docs = l from rfl, show (segV l).grams = gramsOf l from rfl, hv]
  refine HT.cond' ?_   -- if 15
  simp (disch := first | omega | (simp <;> omega) | fail) [wrap_i64, wrap_u64, wrap_u8', eI, subM_kents_lo, eq_lo, eq_lo', show (segV l).docs = l from rfl, show (segV l).grams = gramsOf l from rfl]
  refine HT.skip ?_
  simp (disch := first | omega | (simp <;> omega) | fail) [wrap_i64, wrap_u64, wrap_u8', eI, subM_kents_lo, eq_lo, eq_lo', show (segV l).docs = l from rfl, show (segV l).grams = gramsOf l from rfl]
  refine HT.seq ?_
  refine HT.region ?_   -- R3
  simp (disch := first | omega | (simp <;> omega) | fail) [wrap_i64, wrap_u64, wrap_u8', eI, subM_kents_lo, eq_lo, eq_lo', show (segV l).docs = l from rfl, show (segV l).grams = gramsOf l from rfl]
  refine HT.seq ?_
  refine HT.seq ?_
  refine HT.region ?_   -- R4
  simp (disch := first | omega | (simp <;> omega) | fail) [wrap_i64, wrap_u64, wrap_u8', eI, subM_kents_lo, eq_lo, eq_lo', show (segV l).docs = l from rfl, show (segV l).grams = gramsOf l from rfl]
  refine HT.block ?_
  refine HT.loopK (fun k : {k : Nat // k ≤ (gramsOf l).length} => [.s 20 (i64 k), .o 16 (.map (kents eI 1000 (fI (evQ ((gramsOf l).take k))))), .os (fam 1000 (fI (evQ ((gramsOf l).take k))).length (rowQ (evQ ((gramsOf l).take k))))]) [2, 3, 5, 18, 19] [2, 3] (fun k => (gramsOf l).length - k) (⟨0, by omega⟩) ?_ ?_   -- block 0 turned [20]
  · skip
    simp (disch := first | omega | (simp <;> omega) | fail) [wrap_i64, wrap_u64, wrap_u8', eI, subM_kents_lo, eq_lo, eq_lo', show (segV l).docs = l from rfl, show (segV l).grams = gramsOf l from rfl, show fI (evQ []) = [] from rfl]
    intro id o h
    obtain ⟨i, hi, _⟩ := fam_some h
    exact absurd hi (Nat.not_lt_zero _)
  rintro ⟨k, hk⟩
  simp (disch := first | omega | (simp <;> omega) | fail) [wrap_i64, wrap_u64, wrap_u8', eI, subM_kents_lo, eq_lo, eq_lo', show (segV l).docs = l from rfl, show (segV l).grams = gramsOf l from rfl]
  refine HT.seq ?_
  refine HT.region ?_   -- R5
  simp (disch := first | omega | (simp <;> omega) | fail) [wrap_i64, wrap_u64, wrap_u8', eI, subM_kents_lo, eq_lo, eq_lo', show (segV l).docs = l from rfl, show (segV l).grams = gramsOf l from rfl]
  refine HT.seq ?_
  refine HT.cond' ?_   -- if 21
  simp (disch := first | omega | (simp <;> omega) | fail) [wrap_i64, wrap_u64, wrap_u8', eI, subM_kents_lo, eq_lo, eq_lo', show (segV l).docs = l from rfl, show (segV l).grams = gramsOf l from rfl]
  refine ⟨fun h21 => ?_, fun h21 => ?_⟩
  · skip
    have hk' : k < (gramsOf l).length := by omega
    have hpd := hg2 _ (List.getElem_mem hk')
    refine HT.skip ?_
    simp (disch := first | omega | (simp <;> omega) | fail) [wrap_i64, wrap_u64, wrap_u8', eI, subM_kents_lo, eq_lo, eq_lo', show (segV l).docs = l from rfl, show (segV l).grams = gramsOf l from rfl]
    refine HT.seq ?_
    refine HT.block ?_
    refine HT.seq ?_
    refine HT.region ?_   -- R6
    simp (disch := first | omega | (simp <;> omega) | fail) [wrap_i64, wrap_u64, wrap_u8', eI, subM_kents_lo, eq_lo, eq_lo', show (segV l).docs = l from rfl, show (segV l).grams = gramsOf l from rfl]
    refine HT.seq ?_
    refine HT.region ?_   -- R7
    simp (disch := first | omega | (simp <;> omega) | fail) [wrap_i64, wrap_u64, wrap_u8', eI, subM_kents_lo, eq_lo, eq_lo', show (segV l).docs = l from rfl, show (segV l).grams = gramsOf l from rfl]
    refine HT.block ?_
    refine HT.loopK (fun j : {j : Nat // j ≤ (gramsOf l)[k].docs.length} => [.s 27 (i64 j), .o 16 (.map (kents eI 1000 (fI (pJ (gramsOf l) (gramsOf l)[k] k j)))), .os (fam 1000 (fI (pJ (gramsOf l) (gramsOf l)[k] k j)).length (rowQ (pJ (gramsOf l) (gramsOf l)[k] k j)))]) [2, 3, 5, 7, 18, 19, 20, 25, 26] [2, 3, 7] (fun j => (gramsOf l)[k].docs.length - j) (⟨0, by omega⟩) ?_ ?_   -- block 2 turned [27]
    · skip
      simp (disch := first | omega | (simp <;> omega) | fail) [wrap_i64, wrap_u64, wrap_u8', eI, subM_kents_lo, eq_lo, eq_lo', show (segV l).docs = l from rfl, show (segV l).grams = gramsOf l from rfl, pJ_zero]
      intro id o h
      obtain ⟨i, hi, rfl, rfl⟩ := fam_some h
      simp (disch := first | omega | (simp <;> omega) | fail) [wrap_i64, wrap_u64, wrap_u8', eI, subM_kents_lo, eq_lo, eq_lo', show (segV l).docs = l from rfl, show (segV l).grams = gramsOf l from rfl, fam_at hi, rowQ]
    rintro ⟨j, hj⟩
    simp (disch := first | omega | (simp <;> omega) | fail) [wrap_i64, wrap_u64, wrap_u8', eI, subM_kents_lo, eq_lo, eq_lo', show (segV l).docs = l from rfl, show (segV l).grams = gramsOf l from rfl]
    refine HT.seq ?_
    refine HT.region ?_   -- R8
    simp (disch := first | omega | (simp <;> omega) | fail) [wrap_i64, wrap_u64, wrap_u8', eI, subM_kents_lo, eq_lo, eq_lo', show (segV l).docs = l from rfl, show (segV l).grams = gramsOf l from rfl]
    refine HT.seq ?_
    refine HT.cond' ?_   -- if 28
    simp (disch := first | omega | (simp <;> omega) | fail) [wrap_i64, wrap_u64, wrap_u8', eI, subM_kents_lo, eq_lo, eq_lo', show (segV l).docs = l from rfl, show (segV l).grams = gramsOf l from rfl]
    refine ⟨fun h28 => ?_, fun h28 => ?_⟩
    · skip
      have hj' : j < (gramsOf l)[k].docs.length := by omega
      refine HT.skip ?_
      simp (disch := first | omega | (simp <;> omega) | fail) [wrap_i64, wrap_u64, wrap_u8', eI, subM_kents_lo, eq_lo, eq_lo', show (segV l).docs = l from rfl, show (segV l).grams = gramsOf l from rfl]
      refine HT.seq ?_
      refine HT.block ?_
      refine HT.seq ?_
      refine HT.region ?_   -- R9
      simp (disch := first | omega | (simp <;> omega) | fail) [wrap_i64, wrap_u64, wrap_u8', eI, subM_kents_lo, eq_lo, eq_lo', show (segV l).docs = l from rfl, show (segV l).grams = gramsOf l from rfl]
      have hp1 := pJ_succ (gramsOf l) (gramsOf l)[k] k hj'
      have hpl : (pJ (gramsOf l) (gramsOf l)[k] k j).length ≤ 9000000 := pJ_le hg2 hg1 hpd k j
      have hfl := fI_length (pJ (gramsOf l) (gramsOf l)[k] k j)
      generalize (gramsOf l)[k].docs[j] = g at *
      generalize pJ (gramsOf l) (gramsOf l)[k] k j = p at *
      by_cases cf : g.code ∈ fI p
      · skip
        have hlt := List.idxOf_lt_length_iff.2 cf
        have e1 : fI (p ++ [(g.code, (gramsOf l)[k].code)]) = fI p := by rw [fI_snoc, adK, if_pos cf]
        have hb1 := gatI_length p g.code
        have hgd : rowQ p ((fI p).idxOf g.code) = .row 3 1 (intsHV (gatI p g.code)) := by
          unfold rowQ; rw [List.getD_eq_getElem?_getD, List.getElem?_eq_getElem hlt, List.getElem_idxOf hlt]; rfl
        have hf1 : findHV Tryz.prog 3 (.lit (.int .i64 g.code)) (kents eI 1000 (fI p)) 0 = some (some ((fI p).idxOf g.code, .ref (1000 + (fI p).idxOf g.code))) := by
          have := find_kents (P := Tryz.prog) eI_eq 1000 g.code (fI p); rw [if_pos cf] at this; exact this
        have hs1 : subM (1000 + (fI p).idxOf g.code) .any .any (kents eI 1000 (fI p)) = (kents eI 1000 (fI p)).set ((fI p).idxOf g.code) (.lit (.int .i64 g.code), .any) := subM_kents_at cf
        have hf2 : findHV Tryz.prog 3 (.lit (.int .i64 g.code)) ((kents eI 1000 (fI p)).set ((fI p).idxOf g.code) (.lit (.int .i64 g.code), .any)) 0 = some (some ((fI p).idxOf g.code, .any)) := find_kents_set eI_eq 1000 (fI p) cf .any
        have hgg1 : ((kents eI 1000 (fI p)).set ((fI p).idxOf g.code) (.lit (.int .i64 g.code), .any))[(fI p).idxOf g.code]? = some (.lit (.int .i64 g.code), .any) := kents_set_get (enc := eI) 1000 cf .any
        have hb2 : (kents eI 1000 (fI p)).set ((fI p).idxOf g.code) (.lit (.int .i64 g.code), .ref (1000 + (fI p).idxOf g.code)) = kents eI 1000 (fI p) := kents_back (enc := eI) 1000 cf
        generalize hvv : (gramsOf l)[k].code = v at *
        refine HT.drawT (.pre (.take 0) (.pre (.take 3) (.till [4, 5, 6, 7, 8, 9] [1, 2] (fun r => match r with | 0 => .alt [1, 10] (fun i => match i with | 1 => .alt [2, 10] (fun i => match i with | 2 => .lin [.one 10, .one 11] | _ => .lin [.one 2, .one 11]) | _ => .lin [.batch [1, 2], .one 11]) | 1 => .alt [2, 10] (fun i => match i with | 2 => .lin [.one 10, .one 11] | _ => .lin [.one 2, .one 11]) | _ => .lin [.one 10, .one 11])))) (by kernel_rfl) ?_   -- R10
        simp (disch := first | omega | (simp <;> omega) | fail) [wrap_i64, wrap_u64, wrap_u8', eI, subM_kents_lo, eq_lo, eq_lo', show (segV l).docs = l from rfl, show (segV l).grams = gramsOf l from rfl, hf1, hs1, hf2, hgg1, hb2, hgd, fam_at hlt, hvv]
        repeat' refine And.intro ?_ ?_
        all_goals
          skip
          refine HT.region ?_   -- R11
          simp (disch := first | omega | (simp <;> omega) | fail) [wrap_i64, wrap_u64, wrap_u8', eI, subM_kents_lo, eq_lo, eq_lo', show (segV l).docs = l from rfl, show (segV l).grams = gramsOf l from rfl]
          refine Round.mk' (⟨j + 1, by omega⟩) (by dsimp only; omega) rfl ?_
          simp (disch := first | omega | (simp <;> omega) | fail) [wrap_i64, wrap_u64, wrap_u8', eI, subM_kents_lo, eq_lo, eq_lo', show (segV l).docs = l from rfl, show (segV l).grams = gramsOf l from rfl, hp1]
          first
          | (have e2 : (fI (p ++ [(g.code, v)]))[(fI p).idxOf g.code]? = some g.code := by rw [e1, List.getElem?_eq_getElem hlt, List.getElem_idxOf]
             refine ⟨by rw [e1], fun id o h => ?_⟩
             rw [e1] at h
             obtain ⟨i, hi, rfl, rfl⟩ := fam_some h
             by_cases e : (fI p).idxOf g.code = i
             · subst e
               simp (disch := first | omega | (simp <;> omega) | fail) [wrap_i64, wrap_u64, wrap_u8', eI, subM_kents_lo, eq_lo, eq_lo', show (segV l).docs = l from rfl, show (segV l).grams = gramsOf l from rfl, rowQ_hit e2]
             · have hne : (fI p)[i]? ≠ some g.code := fun h' => e (by
                 have hi2 := List.getElem?_eq_getElem hi
                 rw [hi2] at h'
                 have := (fI_nodup p).idxOf_getElem i hi
                 rw [Option.some.inj h'] at this
                 exact this)
               rw [rowQ_same hi hne]
               simp (disch := first | omega | (simp <;> omega) | fail) [wrap_i64, wrap_u64, wrap_u8', eI, subM_kents_lo, eq_lo, eq_lo', show (segV l).docs = l from rfl, show (segV l).grams = gramsOf l from rfl, fam_at hi, rowQ, e])
          | (have hs2 : subM (1000 + (fI p).length) .any .any (kents eI 1000 (fI p)) = kents eI 1000 (fI p) := subM_kents_out (.inr (Nat.le_refl _))
             have hs3 : subM 41 (.ref (1000 + (fI p).length)) (.mref (1000 + (fI p).length)) (kents eI 1000 (fI p)) = kents eI 1000 (fI p) := subM_kents_out (.inl (by decide))
             refine ⟨?_, fun id o h => ?_⟩
             · rw [e1, kents_snoc]
               have ha : ∀ (a b : List (HV × HV)) i x y, subM i x y (a ++ b) = subM i x y a ++ subM i x y b := fun a b i x y => by simp [subM]
               rw [ha, ha, hs2, hs3]
               simp [subM, eI, show ¬ 41 = 1000 + (fI p).length by omega]
             · obtain ⟨i, hi, rfl, rfl⟩ := fam_some h
               rw [e1, List.length_append, List.length_singleton] at hi
               by_cases e : (fI p).length = i
               · subst e
                 rw [rowQ_hit (by rw [e1, List.getElem?_append_right (Nat.le_refl _), Nat.sub_self]; rfl), gatI_none cf]
                 simp (disch := first | omega | (simp <;> omega) | fail) [wrap_i64, wrap_u64, wrap_u8', eI, subM_kents_lo, eq_lo, eq_lo', show (segV l).docs = l from rfl, show (segV l).grams = gramsOf l from rfl]
               · have hi' : i < (fI p).length := by omega
                 have hne : (fI p)[i]? ≠ some g.code := fun h' => cf (List.mem_of_getElem? h')
                 rw [rowQ_same hi' hne]
                 simp (disch := first | omega | (simp <;> omega) | fail) [wrap_i64, wrap_u64, wrap_u8', eI, subM_kents_lo, eq_lo, eq_lo', show (segV l).docs = l from rfl, show (segV l).grams = gramsOf l from rfl, e, fam_at hi', rowQ])
      have e1 : fI (p ++ [(g.code, (gramsOf l)[k].code)]) = fI p ++ [g.code] := by rw [fI_snoc, adK, if_neg cf]
      have hf1 : findHV Tryz.prog 3 (.lit (.int .i64 g.code)) (kents eI 1000 (fI p)) 0 = some none := by
        have := find_kents (P := Tryz.prog) eI_eq 1000 g.code (fI p); rw [if_neg cf] at this; exact this
      have hs1 : subM 41 .any .any (kents eI 1000 (fI p)) = kents eI 1000 (fI p) := subM_kents_out (.inl (by decide))
      generalize hvv : (gramsOf l)[k].code = v at *
      refine HT.drawT (.pre (.take 0) (.pre (.take 3) (.till [4, 5, 6, 7, 8, 9] [1, 2] (fun r => match r with | 0 => .alt [1, 10] (fun i => match i with | 1 => .alt [2, 10] (fun i => match i with | 2 => .lin [.one 10, .one 11] | _ => .lin [.one 2, .one 11]) | _ => .lin [.batch [1, 2], .one 11]) | 1 => .alt [2, 10] (fun i => match i with | 2 => .lin [.one 10, .one 11] | _ => .lin [.one 2, .one 11]) | _ => .lin [.one 10, .one 11])))) (by kernel_rfl) ?_   -- R10
      simp (disch := first | omega | (simp <;> omega) | fail) [wrap_i64, wrap_u64, wrap_u8', eI, subM_kents_lo, eq_lo, eq_lo', show (segV l).docs = l from rfl, show (segV l).grams = gramsOf l from rfl, hf1, hs1, hvv]
      repeat' refine And.intro ?_ ?_
      all_goals
        skip
        refine HT.weaken (HS.le_fits (M := [.s 27 (i64 j), .o 16 (.map (kents eI 1000 (fI p) ++ [(i64 g.code, .ref 41)])), .o 41 (.row 3 1 (intsHV [v])), .os (fam 1000 (fI p).length (rowQ p)), .s 2 (.ptr 2 0), .s 3 (.ptr 3 0), .s 5 (.mref 16), .s 7 (.ptr 7 0), .s 18 (.sl 2 false (postsHV (gramsOf l))), .s 19 (i64 (gramsOf l).length), .s 20 (i64 k), .s 25 (.sl 2 false (gramsHV (gramsOf l)[k].docs)), .s 26 (i64 (gramsOf l)[k].docs.length), .o 2 (.box [.sl 5 false (docsHV l), .sl 2 false (postsHV (gramsOf l))]), .o 3 (.box (needC n)), .o 7 (.box [i64 v, .sl 2 false (gramsHV (gramsOf l)[k].docs)])]) ?_) ?_
        · simp (disch := first | omega | (simp <;> omega) | fail) [wrap_i64, wrap_u64, wrap_u8', eI, subM_kents_lo, eq_lo, eq_lo', show (segV l).docs = l from rfl, show (segV l).grams = gramsOf l from rfl, fam_not, intsHV]
          intro id o h
          obtain ⟨i, hi, rfl, rfl⟩ := fam_some h
          simp (disch := first | omega | (simp <;> omega) | fail) [wrap_i64, wrap_u64, wrap_u8', eI, subM_kents_lo, eq_lo, eq_lo', show (segV l).docs = l from rfl, show (segV l).grams = gramsOf l from rfl, fam_at hi, rowQ]
        refine HT.weaken (HS.le_ren 41 (1000 + (fI p).length) rfl ?_) ?_
        · simp (disch := first | omega | (simp <;> omega) | fail) [wrap_i64, wrap_u64, wrap_u8', eI, subM_kents_lo, eq_lo, eq_lo', show (segV l).docs = l from rfl, show (segV l).grams = gramsOf l from rfl, fam_not]
        simp only [HObj.sub]
        refine HT.region ?_   -- R11
        simp (disch := first | omega | (simp <;> omega) | fail) [wrap_i64, wrap_u64, wrap_u8', eI, subM_kents_lo, eq_lo, eq_lo', show (segV l).docs = l from rfl, show (segV l).grams = gramsOf l from rfl]
        refine Round.mk' (⟨j + 1, by omega⟩) (by dsimp only; omega) rfl ?_
        simp (disch := first | omega | (simp <;> omega) | fail) [wrap_i64, wrap_u64, wrap_u8', eI, subM_kents_lo, eq_lo, eq_lo', show (segV l).docs = l from rfl, show (segV l).grams = gramsOf l from rfl, hp1]
        first
        | (have e2 : (fI (p ++ [(g.code, v)]))[(fI p).idxOf g.code]? = some g.code := by rw [e1, List.getElem?_eq_getElem hlt, List.getElem_idxOf]
           refine ⟨by rw [e1], fun id o h => ?_⟩
           rw [e1] at h
           obtain ⟨i, hi, rfl, rfl⟩ := fam_some h
           by_cases e : (fI p).idxOf g.code = i
           · subst e
             simp (disch := first | omega | (simp <;> omega) | fail) [wrap_i64, wrap_u64, wrap_u8', eI, subM_kents_lo, eq_lo, eq_lo', show (segV l).docs = l from rfl, show (segV l).grams = gramsOf l from rfl, rowQ_hit e2]
           · have hne : (fI p)[i]? ≠ some g.code := fun h' => e (by
               have hi2 := List.getElem?_eq_getElem hi
               rw [hi2] at h'
               have := (fI_nodup p).idxOf_getElem i hi
               rw [Option.some.inj h'] at this
               exact this)
             rw [rowQ_same hi hne]
             simp (disch := first | omega | (simp <;> omega) | fail) [wrap_i64, wrap_u64, wrap_u8', eI, subM_kents_lo, eq_lo, eq_lo', show (segV l).docs = l from rfl, show (segV l).grams = gramsOf l from rfl, fam_at hi, rowQ, e])
        | (have hs2 : subM (1000 + (fI p).length) .any .any (kents eI 1000 (fI p)) = kents eI 1000 (fI p) := subM_kents_out (.inr (Nat.le_refl _))
           have hs3 : subM 41 (.ref (1000 + (fI p).length)) (.mref (1000 + (fI p).length)) (kents eI 1000 (fI p)) = kents eI 1000 (fI p) := subM_kents_out (.inl (by decide))
           refine ⟨?_, fun id o h => ?_⟩
           · rw [e1, kents_snoc]
             have ha : ∀ (a b : List (HV × HV)) i x y, subM i x y (a ++ b) = subM i x y a ++ subM i x y b := fun a b i x y => by simp [subM]
             rw [ha, ha, hs2, hs3]
             simp [subM, eI, show ¬ 41 = 1000 + (fI p).length by omega]
           · obtain ⟨i, hi, rfl, rfl⟩ := fam_some h
             rw [e1, List.length_append, List.length_singleton] at hi
             by_cases e : (fI p).length = i
             · subst e
               rw [rowQ_hit (by rw [e1, List.getElem?_append_right (Nat.le_refl _), Nat.sub_self]; rfl), gatI_none cf]
               simp (disch := first | omega | (simp <;> omega) | fail) [wrap_i64, wrap_u64, wrap_u8', eI, subM_kents_lo, eq_lo, eq_lo', show (segV l).docs = l from rfl, show (segV l).grams = gramsOf l from rfl]
             · have hi' : i < (fI p).length := by omega
               have hne : (fI p)[i]? ≠ some g.code := fun h' => cf (List.mem_of_getElem? h')
               rw [rowQ_same hi' hne]
               simp (disch := first | omega | (simp <;> omega) | fail) [wrap_i64, wrap_u64, wrap_u8', eI, subM_kents_lo, eq_lo, eq_lo', show (segV l).docs = l from rfl, show (segV l).grams = gramsOf l from rfl, e, fam_at hi', rowQ])
    · skip
      obtain rfl : j = (gramsOf l)[k].docs.length := by omega
      refine HT.exit ?_
      simp (disch := first | omega | (simp <;> omega) | fail) [wrap_i64, wrap_u64, wrap_u8', eI, subM_kents_lo, eq_lo, eq_lo', show (segV l).docs = l from rfl, show (segV l).grams = gramsOf l from rfl]
      refine HT.region ?_   -- R12
      simp (disch := first | omega | (simp <;> omega) | fail) [wrap_i64, wrap_u64, wrap_u8', eI, subM_kents_lo, eq_lo, eq_lo', show (segV l).docs = l from rfl, show (segV l).grams = gramsOf l from rfl]
      refine Round.mk' (⟨k + 1, by omega⟩) (by dsimp only; omega) rfl ?_
      simp (disch := first | omega | (simp <;> omega) | fail) [wrap_i64, wrap_u64, wrap_u8', eI, subM_kents_lo, eq_lo, eq_lo', show (segV l).docs = l from rfl, show (segV l).grams = gramsOf l from rfl, pJ_end (gramsOf l) hk']
      intro id o h
      obtain ⟨i, hi, rfl, rfl⟩ := fam_some h
      simp (disch := first | omega | (simp <;> omega) | fail) [wrap_i64, wrap_u64, wrap_u8', eI, subM_kents_lo, eq_lo, eq_lo', show (segV l).docs = l from rfl, show (segV l).grams = gramsOf l from rfl, fam_at hi, rowQ]
  · skip
    obtain rfl : k = (gramsOf l).length := by omega
    refine HT.exit ?_
    simp (disch := first | omega | (simp <;> omega) | fail) [wrap_i64, wrap_u64, wrap_u8', eI, subM_kents_lo, eq_lo, eq_lo', show (segV l).docs = l from rfl, show (segV l).grams = gramsOf l from rfl]
    have hfl2 := fI_length (evQ (gramsOf l))
    refine HT.weaken (HS.le_frzK (m := 16) (sz := 1) 1000 eI 3 (fun c => intsHV (gatI (evQ (gramsOf l)) c)) (fI (evQ (gramsOf l))) (by decide) ?_ (fun _ => by simp) ?_) ?_
    · simp (disch := first | omega | (simp <;> omega) | fail) [wrap_i64, wrap_u64, wrap_u8', eI, subM_kents_lo, eq_lo, eq_lo', show (segV l).docs = l from rfl, show (segV l).grams = gramsOf l from rfl]
    · intro i c hc
      have hi := getElem?_lt hc
      obtain rfl : (fI (evQ (gramsOf l)))[i] = c := by rw [List.getElem?_eq_getElem hi] at hc; exact Option.some.inj hc
      simp (disch := first | omega | (simp <;> omega) | fail) [wrap_i64, wrap_u64, wrap_u8', eI, subM_kents_lo, eq_lo, eq_lo', show (segV l).docs = l from rfl, show (segV l).grams = gramsOf l from rfl, fam_at hi, rowQ]
    refine HT.weaken (HS.le_frzref (id := 16) (xr := .any) (xm := .mp (fents eI (fun c => .sl 1 false (intsHV (gatI (evQ (gramsOf l)) c))) (fI (evQ (gramsOf l))))) (by simp [frz1, isIM_fentsQ])) ?_
    refine HT.seq ?_
    refine HT.region ?_   -- R13
    simp (disch := first | omega | (simp <;> omega) | fail) [wrap_i64, wrap_u64, wrap_u8', eI, subM_kents_lo, eq_lo, eq_lo', show (segV l).docs = l from rfl, show (segV l).grams = gramsOf l from rfl]
    refine HT.weaken (HS.le_own (t := 10) 200 3 1 _ (by decide) rfl (by decide)) ?_
    refine HT.seq ?_
    refine HT.seq ?_
    refine HT.region ?_   -- R14
    simp (disch := first | omega | (simp <;> omega) | fail) [wrap_i64, wrap_u64, wrap_u8', eI, subM_kents_lo, eq_lo, eq_lo', show (segV l).docs = l from rfl, show (segV l).grams = gramsOf l from rfl]
    refine HT.block ?_
    refine HT.loopK (fun k : {k : Nat // k ≤ l.length} => [.s 47 (i64 k), .s 10 (.ref 200), .o 200 (.row 3 1 (intsHV (eval29 (l.take k) n)))]) [3, 5, 45, 46] [3] (fun k => l.length - k) (⟨0, by omega⟩) ?_ ?_   -- block 4 turned [10, 47]
    · simp (disch := first | omega | (simp <;> omega) | fail) [wrap_i64, wrap_u64, wrap_u8', eI, subM_kents_lo, eq_lo, eq_lo', show (segV l).docs = l from rfl, show (segV l).grams = gramsOf l from rfl, show eval29 [] n = [] from rfl]
    rintro ⟨k, hk⟩
    simp (disch := first | omega | (simp <;> omega) | fail) [wrap_i64, wrap_u64, wrap_u8', eI, subM_kents_lo, eq_lo, eq_lo', show (segV l).docs = l from rfl, show (segV l).grams = gramsOf l from rfl]
    refine HT.seq ?_
    refine HT.region ?_   -- R15
    simp (disch := first | omega | (simp <;> omega) | fail) [wrap_i64, wrap_u64, wrap_u8', eI, subM_kents_lo, eq_lo, eq_lo', show (segV l).docs = l from rfl, show (segV l).grams = gramsOf l from rfl]
    refine HT.seq ?_
    refine HT.cond' ?_   -- if 48
    simp (disch := first | omega | (simp <;> omega) | fail) [wrap_i64, wrap_u64, wrap_u8', eI, subM_kents_lo, eq_lo, eq_lo', show (segV l).docs = l from rfl, show (segV l).grams = gramsOf l from rfl]
    refine ⟨fun h48 => ?_, fun h48 => ?_⟩
    · skip
      have hk' : k < l.length := by omega
      have hxk := hx _ (List.getElem_mem hk')
      have hfl := eval29_len n l k
      have hof := ofV_length l[k].text
      have hgq := gatI_evQ hl (List.getElem_mem hk')
      refine HT.skip ?_
      simp (disch := first | omega | (simp <;> omega) | fail) [wrap_i64, wrap_u64, wrap_u8', eI, subM_kents_lo, eq_lo, eq_lo', show (segV l).docs = l from rfl, show (segV l).grams = gramsOf l from rfl]
      refine HT.seq ?_
      refine HT.block ?_
      refine HT.seq ?_
      refine HT.region ?_   -- R16
      simp (disch := first | omega | (simp <;> omega) | fail) [wrap_i64, wrap_u64, wrap_u8', eI, subM_kents_lo, eq_lo, eq_lo', show (segV l).docs = l from rfl, show (segV l).grams = gramsOf l from rfl]
      refine HT.seq ?_
      by_cases cm : l[k].id ∈ fI (evQ (gramsOf l))
      · skip
        have hf := find_fents (evQ (gramsOf l)) l[k].id (fI (evQ (gramsOf l)))
        rw [if_pos cm, hgq] at hf
        have hE : Spec1 Tryz.prog 37 [.agg (needC n), .sl 1 false (intsHV (ofV l[k].text))] (bo (validN n 1 && holdsN n (ofV l[k].text))) := Eval_spec n false _ hb (by omega)
        refine HT.region ?_   -- R17
        simp (disch := first | omega | (simp <;> omega) | fail) [wrap_i64, wrap_u64, wrap_u8', eI, subM_kents_lo, eq_lo, eq_lo', show (segV l).docs = l from rfl, show (segV l).grams = gramsOf l from rfl, hf]
        refine stepK.mk (.call1f _ _ _ _ _ rfl Ty.hb37 rfl rfl (hE) rfl) ?_
        simp (disch := first | omega | (simp <;> omega) | fail) [wrap_i64, wrap_u64, wrap_u8', eI, subM_kents_lo, eq_lo, eq_lo', show (segV l).docs = l from rfl, show (segV l).grams = gramsOf l from rfl, hf, hv]
        refine HT.cond' ?_   -- if 56
        simp (disch := first | omega | (simp <;> omega) | fail) [wrap_i64, wrap_u64, wrap_u8', eI, subM_kents_lo, eq_lo, eq_lo', show (segV l).docs = l from rfl, show (segV l).grams = gramsOf l from rfl]
        refine ⟨fun h56 => ?_, fun h56 => ?_⟩
        · skip
          refine HT.region ?_   -- R18
          simp (disch := first | omega | (simp <;> omega) | fail) [wrap_i64, wrap_u64, wrap_u8', eI, subM_kents_lo, eq_lo, eq_lo', show (segV l).docs = l from rfl, show (segV l).grams = gramsOf l from rfl]
          refine HT.region ?_   -- R19
          simp (disch := first | omega | (simp <;> omega) | fail) [wrap_i64, wrap_u64, wrap_u8', eI, subM_kents_lo, eq_lo, eq_lo', show (segV l).docs = l from rfl, show (segV l).grams = gramsOf l from rfl]
          refine Round.mk' (⟨k + 1, by omega⟩) (by dsimp only; omega) rfl ?_
          simp (disch := first | omega | (simp <;> omega) | fail) [wrap_i64, wrap_u64, wrap_u8', eI, subM_kents_lo, eq_lo, eq_lo', show (segV l).docs = l from rfl, show (segV l).grams = gramsOf l from rfl, eval29_snoc n hk', h56]
        · skip
          refine HT.skip ?_
          simp (disch := first | omega | (simp <;> omega) | fail) [wrap_i64, wrap_u64, wrap_u8', eI, subM_kents_lo, eq_lo, eq_lo', show (segV l).docs = l from rfl, show (segV l).grams = gramsOf l from rfl]
          refine HT.region ?_   -- R19
          simp (disch := first | omega | (simp <;> omega) | fail) [wrap_i64, wrap_u64, wrap_u8', eI, subM_kents_lo, eq_lo, eq_lo', show (segV l).docs = l from rfl, show (segV l).grams = gramsOf l from rfl]
          refine Round.mk' (⟨k + 1, by omega⟩) (by dsimp only; omega) rfl ?_
          simp (disch := first | omega | (simp <;> omega) | fail) [wrap_i64, wrap_u64, wrap_u8', eI, subM_kents_lo, eq_lo, eq_lo', show (segV l).docs = l from rfl, show (segV l).grams = gramsOf l from rfl, eval29_snoc n hk', h56]
      have hf := find_fents (evQ (gramsOf l)) l[k].id (fI (evQ (gramsOf l)))
      rw [if_neg cm] at hf
      have h0 : ofV l[k].text = [] := by rw [← hgq]; exact gatI_none cm
      have hE : Spec1 Tryz.prog 37 [.agg (needC n), .sl 0 true []] (bo (validN n 1 && holdsN n (ofV l[k].text))) := by
        rw [h0]; exact (Eval_spec n true [] hb (by simp)).args (l := [.agg (needC n), .sl 0 true []]) (HLeL.cons (HLe.refl _) (HLeL.cons (HLe.nil 0 1 true) HLeL.nil))
      refine HT.region ?_   -- R17
      simp (disch := first | omega | (simp <;> omega) | fail) [wrap_i64, wrap_u64, wrap_u8', eI, subM_kents_lo, eq_lo, eq_lo', show (segV l).docs = l from rfl, show (segV l).grams = gramsOf l from rfl, hf]
      refine stepK.mk (.call1f _ _ _ _ _ rfl Ty.hb37 rfl rfl (hE) rfl) ?_
      simp (disch := first | omega | (simp <;> omega) | fail) [wrap_i64, wrap_u64, wrap_u8', eI, subM_kents_lo, eq_lo, eq_lo', show (segV l).docs = l from rfl, show (segV l).grams = gramsOf l from rfl, hf, hv]
      refine HT.cond' ?_   -- if 56
      simp (disch := first | omega | (simp <;> omega) | fail) [wrap_i64, wrap_u64, wrap_u8', eI, subM_kents_lo, eq_lo, eq_lo', show (segV l).docs = l from rfl, show (segV l).grams = gramsOf l from rfl]
      refine ⟨fun h56 => ?_, fun h56 => ?_⟩
      · skip
        refine HT.region ?_   -- R18
        simp (disch := first | omega | (simp <;> omega) | fail) [wrap_i64, wrap_u64, wrap_u8', eI, subM_kents_lo, eq_lo, eq_lo', show (segV l).docs = l from rfl, show (segV l).grams = gramsOf l from rfl]
        refine HT.region ?_   -- R19
        simp (disch := first | omega | (simp <;> omega) | fail) [wrap_i64, wrap_u64, wrap_u8', eI, subM_kents_lo, eq_lo, eq_lo', show (segV l).docs = l from rfl, show (segV l).grams = gramsOf l from rfl]
        refine Round.mk' (⟨k + 1, by omega⟩) (by dsimp only; omega) rfl ?_
        simp (disch := first | omega | (simp <;> omega) | fail) [wrap_i64, wrap_u64, wrap_u8', eI, subM_kents_lo, eq_lo, eq_lo', show (segV l).docs = l from rfl, show (segV l).grams = gramsOf l from rfl, eval29_snoc n hk', h56]
      · skip
        refine HT.skip ?_
        simp (disch := first | omega | (simp <;> omega) | fail) [wrap_i64, wrap_u64, wrap_u8', eI, subM_kents_lo, eq_lo, eq_lo', show (segV l).docs = l from rfl, show (segV l).grams = gramsOf l from rfl]
        refine HT.region ?_   -- R19
        simp (disch := first | omega | (simp <;> omega) | fail) [wrap_i64, wrap_u64, wrap_u8', eI, subM_kents_lo, eq_lo, eq_lo', show (segV l).docs = l from rfl, show (segV l).grams = gramsOf l from rfl]
        refine Round.mk' (⟨k + 1, by omega⟩) (by dsimp only; omega) rfl ?_
        simp (disch := first | omega | (simp <;> omega) | fail) [wrap_i64, wrap_u64, wrap_u8', eI, subM_kents_lo, eq_lo, eq_lo', show (segV l).docs = l from rfl, show (segV l).grams = gramsOf l from rfl, eval29_snoc n hk', h56]
    · skip
      obtain rfl : k = l.length := by omega
      refine HT.exit ?_
      simp (disch := first | omega | (simp <;> omega) | fail) [wrap_i64, wrap_u64, wrap_u8', eI, subM_kents_lo, eq_lo, eq_lo', show (segV l).docs = l from rfl, show (segV l).grams = gramsOf l from rfl]
      refine HT.seq ?_
      refine HT.region ?_   -- R20
      simp (disch := first | omega | (simp <;> omega) | fail) [wrap_i64, wrap_u64, wrap_u8', eI, subM_kents_lo, eq_lo, eq_lo', show (segV l).docs = l from rfl, show (segV l).grams = gramsOf l from rfl]
      refine HT.ret ?_
      simp (disch := first | omega | (simp <;> omega) | fail) [wrap_i64, wrap_u64, wrap_u8', eI, subM_kents_lo, eq_lo, eq_lo', show (segV l).docs = l from rfl, show (segV l).grams = gramsOf l from rfl, evalR, hv, eval29_all]
end Go.Hv
set_option linter.unusedVariables false
set_option linter.unusedSimpArgs false
/- The examples of layer 29. -/
namespace Go.Hv
open Go Go.Hv Go.Proofs Go.RowKit
open Go.Proofs.YtlbmbnpknobjdaaGreatDoor
def exOn : List (List UInt8) := [[109, 97, 105, 110]]
def exA9 : Doc := ⟨3, [114], [97], [97, 98, 99, 97, 98], exOn⟩
def exB9 : Doc := ⟨5, [114], [98], [120, 65, 66, 67], exOn⟩
def exL : List Doc := [exA9, exB9]
theorem exL_right : rightV exL = 0 := by decide +kernel
theorem exL_build : buildV exL = (segV exL, 0) := build_yes exL_right
theorem exL_B : DocsB 140737488355328 exL := by simp [DocsB, DocB, exL, exA9, exB9, exOn]
theorem exL_grams : (gramsOf exL).length = 4 := by decide +kernel
theorem exL_size : sizeV (gramsOf exL) = 5 := by decide +kernel
theorem exL_docs : docsV (gramsOf exL) 6382179 = [3, 5] := by decide +kernel
theorem exL_at : atsV (gramsOf exL) 6382179 5 = [1] := by decide +kernel
def exN : NeedT := .mk 3 6382179 []
theorem exL_eval : evalR exL exN = [3, 5] := by decide +kernel
theorem exL_f1 : find29 exL [66, 99] = [⟨3, [1]⟩, ⟨5, [2]⟩] := by decide +kernel
theorem exL_f2 : find29 exL [97, 98, 99, 97] = [⟨3, [0]⟩] := by decide +kernel
theorem exL_f3 : (find29 exL []).length = 2 := by decide +kernel
theorem exL_text : ∀ d ∈ exL, d.text.length ≤ 900 := by simp [exL, exA9, exB9]
theorem exL_dec : decide ((buildV (segV exL).docs).2 = 0 ∧ segV exL = (buildV (segV exL).docs).1) = true := by
  show decide ((buildV exL).2 = 0 ∧ segV exL = (buildV exL).1) = true
  rw [exL_build]; simp
theorem exL_Q : SegQ (segV exL) := seg_Q exL_right exL_B
theorem same_full (a b : List Int) (ha : a.length ≤ 1000) : Spec1 Tryz.prog 22 [.sl 1 false (intsHV a), .sl 1 true (intsHV b)] (bo (decide (a = b))) :=
  (Same5_spec a b (by omega)).args (l := [.sl 1 false (intsHV a), .sl 1 true (intsHV b)]) (HLeL.cons (HLe.refl _) (HLeL.cons (HLe.full _ _) HLeL.nil))
theorem need_ex : HLeL [i64 3, i64 6382179, .sl 0 true []] (needC exN) := HLeL.cons (HLe.refl _) (HLeL.cons (HLe.refl _) (HLeL.cons (HLe.nilf 0 3 true) HLeL.nil))
theorem evalEx_spec : Spec1 Tryz.prog 31 [.agg (segV exL).enc, .agg [i64 3, i64 6382179, .sl 0 true []]] (.sl 1 false (intsHV [3, 5])) := by
  have h := (Eval_seg exL exN (right_inc exL_right) (by decide) exL_text (.mk _ _ _ (by simp) (by simp)) (by rw [exL_grams]; decide) (fun p hp => by
    obtain ⟨c, _, rfl⟩ := List.mem_map.1 hp
    have := postV_length exL c
    have h2 : exL.length = 2 := rfl
    show (postV exL c).length ≤ 64
    omega)).args (l := [.agg (segV exL).enc, .agg [i64 3, i64 6382179, .sl 0 true []]]) (HLeL.cons (HLe.refl _) (HLeL.cons (HLe.agg need_ex) HLeL.nil))
  rw [exL_eval] at h
  exact h
theorem at_le {l l' : List (List HV)} (hl : l'.length = l.length) (h : ∀ (i : Nat) (x x' : List HV), l[i]? = some x → l'[i]? = some x' → HLeL x x') : HLe (.sl 2 true l) (.sl 2 false l') := HLe.trans (HLe.sl (f := true) hl h) (HLe.full _ _)
theorem ex2_le (a b : Int) (x y : List Int) : HLe (.sl 2 true [[i64 a, .sl 1 true (intsHV x)], [i64 b, .sl 1 true (intsHV y)]]) (.sl 2 false (gramsHV [⟨a, x⟩, ⟨b, y⟩])) :=
  at_le (l' := gramsHV [⟨a, x⟩, ⟨b, y⟩]) rfl fun i u u' h h' => by
    match i with
    | 0 =>
      obtain rfl := Option.some.inj h
      obtain rfl := Option.some.inj h'
      exact HLeL.cons (HLe.refl _) (HLeL.cons (HLe.full _ _) HLeL.nil)
    | 1 =>
      obtain rfl := Option.some.inj h
      obtain rfl := Option.some.inj h'
      exact HLeL.cons (HLe.refl _) (HLeL.cons (HLe.full _ _) HLeL.nil)
    | i + 2 => simp at h
theorem ex1_le (a : Int) (x : List Int) : HLe (.sl 2 true [[i64 a, .sl 1 true (intsHV x)]]) (.sl 2 false (gramsHV [⟨a, x⟩])) :=
  at_le (l' := gramsHV [⟨a, x⟩]) rfl fun i u u' h h' => by
    match i with
    | 0 =>
      obtain rfl := Option.some.inj h
      obtain rfl := Option.some.inj h'
      exact HLeL.cons (HLe.refl _) (HLeL.cons (HLe.full _ _) HLeL.nil)
    | i + 1 => simp at h
theorem sameAt2_spec : Spec1 Tryz.prog 28 [.sl 2 false (gramsHV [⟨3, [1]⟩, ⟨5, [2]⟩]), .sl 2 true [[i64 3, .sl 1 true (intsHV [1])], [i64 5, .sl 1 true (intsHV [2])]]] (bo true) :=
  (SameAt_spec [⟨3, [1]⟩, ⟨5, [2]⟩] [⟨3, [1]⟩, ⟨5, [2]⟩] (by simp) (by simp)).args (l := [.sl 2 false (gramsHV [⟨3, [1]⟩, ⟨5, [2]⟩]), .sl 2 true [[i64 3, .sl 1 true (intsHV [1])], [i64 5, .sl 1 true (intsHV [2])]]]) (HLeL.cons (HLe.refl _) (HLeL.cons (ex2_le 3 5 [1] [2]) HLeL.nil))
theorem sameAt1_spec : Spec1 Tryz.prog 28 [.sl 2 false (gramsHV [⟨3, [0]⟩]), .sl 2 true [[i64 3, .sl 1 true (intsHV [0])]]] (bo true) :=
  (SameAt_spec [⟨3, [0]⟩] [⟨3, [0]⟩] (by simp) (by simp)).args (l := [.sl 2 false (gramsHV [⟨3, [0]⟩]), .sl 2 true [[i64 3, .sl 1 true (intsHV [0])]]]) (HLeL.cons (HLe.refl _) (HLeL.cons (ex1_le 3 [0]) HLeL.nil))
theorem findEx_spec (t : List UInt8) (ht : t.length ≤ 900) : Spec1 Tryz.prog 29 [.agg (segV exL).enc, .str t] (.sl 2 false (gramsHV (find29 exL t))) := Find_seg exL t (right_inc exL_right) (by decide) exL_text ht (seg_T exL_right)
theorem example0_spec  : Spec1 Tryz.prog 39 [] (.sl 5 true [[i64 3, .str [114], .str [97], .str [97, 98, 99, 97, 98], .sl 1 true (strsHV exOn)], [i64 5, .str [114], .str [98], .str [120, 65, 66, 67], .sl 1 true (strsHV exOn)]]) := by
  refine Spec1.of_HT Tryz.func39 rfl (by rw [Tryz.ntmps39]; simp) rfl ?_
  rw [Tryz.ntmps39]
  refine HT.seq ?_
  refine HT.region ?_   -- R0
  simp (disch := first | omega | (simp <;> omega) | fail) [wrap_i64, wrap_u64, wrap_u8']
  refine HT.seq ?_
  refine HT.region ?_   -- R1
  simp (disch := first | omega | (simp <;> omega) | fail) [wrap_i64, wrap_u64, wrap_u8']
  refine HT.seq ?_
  refine HT.region ?_   -- R2
  simp (disch := first | omega | (simp <;> omega) | fail) [wrap_i64, wrap_u64, wrap_u8']
  refine HT.ret ?_
  simp (disch := first | omega | (simp <;> omega) | fail) [wrap_i64, wrap_u64, wrap_u8', strsHV, exOn]
theorem example_spec : Spec1 Tryz.prog 39 [] (.sl 5 false (docsHV exL)) :=
  example0_spec.tell (HLe.trans (HLe.sl (f := true) (es' := docsHV exL) rfl fun i u u' h h' => by
    match i with
    | 0 =>
      obtain rfl := Option.some.inj h
      obtain rfl := Option.some.inj h'
      exact HLeL.cons (HLe.refl _) (HLeL.cons (HLe.refl _) (HLeL.cons (HLe.refl _) (HLeL.cons (HLe.refl _) (HLeL.cons (HLe.full _ _) HLeL.nil))))
    | 1 =>
      obtain rfl := Option.some.inj h
      obtain rfl := Option.some.inj h'
      exact HLeL.cons (HLe.refl _) (HLeL.cons (HLe.refl _) (HLeL.cons (HLe.refl _) (HLeL.cons (HLe.refl _) (HLeL.cons (HLe.full _ _) HLeL.nil))))
    | i + 2 => simp at h) (HLe.full _ _))
theorem exS_docs : (segV exL).docs.length = 2 := rfl
theorem exS_grams : (segV exL).grams.length = 4 := exL_grams
set_option maxRecDepth 20000 in
set_option maxHeartbeats 4000000 in
theorem alive_spec  : Spec1 Tryz.prog 10 [] (bo true) := by
  refine Spec1.of_HT Tryz.func10 rfl (by rw [Tryz.ntmps10]; simp) rfl ?_
  rw [Tryz.ntmps10]
  refine HT.seq ?_
  refine HT.region ?_   -- R0
  simp (disch := first | omega | (simp <;> omega) | fail) [wrap_i64, wrap_u64, wrap_u8']
  refine HT.seq ?_
  refine HT.region ?_   -- R1
  simp (disch := first | omega | (simp <;> omega) | fail) [wrap_i64, wrap_u64, wrap_u8']
  refine stepK.mk (.call1f _ _ _ _ _ rfl Ty.hb39 rfl rfl (example_spec) rfl) ?_
  simp (disch := first | omega | (simp <;> omega) | fail) [wrap_i64, wrap_u64, wrap_u8']
  refine stepK.mk (.callTf _ _ _ _ _ rfl Ty.hb12 rfl rfl (Build_spec exL exL_B) rfl) ?_
  simp (disch := first | omega | (simp <;> omega) | fail) [wrap_i64, wrap_u64, wrap_u8', exL_build]
  refine HT.seq ?_
  refine HT.seq ?_
  refine HT.region ?_   -- R2
  simp (disch := first | omega | (simp <;> omega) | fail) [wrap_i64, wrap_u64, wrap_u8', exS_docs, exS_grams]
  refine stepK.mk (.call1f _ _ _ _ _ rfl Ty.hb16 rfl rfl (Size_spec (segV exL) (seg_S exL_right).1 (seg_S exL_right).2.2 (seg_size exL_right)) rfl) ?_
  simp (disch := first | omega | (simp <;> omega) | fail) [wrap_i64, wrap_u64, wrap_u8', exS_docs, exS_grams, show sizeV (segV exL).grams = 5 from exL_size]
  refine stepK.mk (.call1f _ _ _ _ _ rfl Ty.hb15 rfl rfl (SRight_of (segV exL) exL_Q (build_Q exL_B) Build_spec) rfl) ?_
  simp (disch := first | omega | (simp <;> omega) | fail) [wrap_i64, wrap_u64, wrap_u8', exS_docs, exS_grams, exL_dec]
  refine stepK.mk (.call1f _ _ _ _ _ rfl Ty.hb20 rfl rfl (sSame_spec (segV exL) (segV exL) exL_Q exL_Q) rfl) ?_
  simp (disch := first | omega | (simp <;> omega) | fail) [wrap_i64, wrap_u64, wrap_u8', exS_docs, exS_grams]
  refine HT.cond' ?_   -- if 38
  simp (disch := first | omega | (simp <;> omega) | fail) [wrap_i64, wrap_u64, wrap_u8']
  refine HT.skip ?_
  simp (disch := first | omega | (simp <;> omega) | fail) [wrap_i64, wrap_u64, wrap_u8']
  refine HT.seq ?_
  refine HT.region ?_   -- R4
  simp (disch := first | omega | (simp <;> omega) | fail) [wrap_i64, wrap_u64, wrap_u8']
  refine HT.seq ?_
  refine HT.seq ?_
  refine HT.region ?_   -- R5
  simp (disch := first | omega | (simp <;> omega) | fail) [wrap_i64, wrap_u64, wrap_u8']
  refine stepK.mk (.call1f _ _ _ _ _ rfl Ty.hb23 rfl rfl (Docs_spec (segV exL) 6382179 (seg_S exL_right)) rfl) ?_
  simp (disch := first | omega | (simp <;> omega) | fail) [wrap_i64, wrap_u64, wrap_u8', show docsV (segV exL).grams 6382179 = [3, 5] from exL_docs]
  refine stepK.mk (.call1f _ _ _ _ _ rfl Ty.hb22 rfl rfl (same_full [3, 5] [3, 5] (by decide)) rfl) ?_
  simp (disch := first | omega | (simp <;> omega) | fail) [wrap_i64, wrap_u64, wrap_u8']
  refine stepK.mk (.call1f _ _ _ _ _ rfl Ty.hb25 rfl rfl (At_seg (segV exL) 6382179 5 (seg_T exL_right)) rfl) ?_
  simp (disch := first | omega | (simp <;> omega) | fail) [wrap_i64, wrap_u64, wrap_u8', show atsV (segV exL).grams 6382179 5 = [1] from exL_at]
  refine stepK.mk (.call1f _ _ _ _ _ rfl Ty.hb22 rfl rfl (same_full [1] [1] (by decide)) rfl) ?_
  simp (disch := first | omega | (simp <;> omega) | fail) [wrap_i64, wrap_u64, wrap_u8']
  refine stepK.mk (.call1f _ _ _ _ _ rfl Ty.hb31 rfl rfl (evalEx_spec) rfl) ?_
  simp (disch := first | omega | (simp <;> omega) | fail) [wrap_i64, wrap_u64, wrap_u8']
  refine stepK.mk (.call1f _ _ _ _ _ rfl Ty.hb22 rfl rfl (same_full [3, 5] [3, 5] (by decide)) rfl) ?_
  simp (disch := first | omega | (simp <;> omega) | fail) [wrap_i64, wrap_u64, wrap_u8']
  refine HT.cond' ?_   -- if 61
  simp (disch := first | omega | (simp <;> omega) | fail) [wrap_i64, wrap_u64, wrap_u8']
  refine HT.skip ?_
  simp (disch := first | omega | (simp <;> omega) | fail) [wrap_i64, wrap_u64, wrap_u8']
  refine HT.seq ?_
  refine HT.region ?_   -- R7
  simp (disch := first | omega | (simp <;> omega) | fail) [wrap_i64, wrap_u64, wrap_u8']
  refine stepK.mk (.call1f _ _ _ _ _ rfl Ty.hb29 rfl rfl (findEx_spec [66, 99] (by decide)) rfl) ?_
  simp (disch := first | omega | (simp <;> omega) | fail) [wrap_i64, wrap_u64, wrap_u8', exL_f1]
  refine stepK.mk (.call1f _ _ _ _ _ rfl Ty.hb28 rfl rfl (sameAt2_spec) rfl) ?_
  simp (disch := first | omega | (simp <;> omega) | fail) [wrap_i64, wrap_u64, wrap_u8']
  refine stepK.mk (.call1f _ _ _ _ _ rfl Ty.hb29 rfl rfl (findEx_spec [97, 98, 99, 97] (by decide)) rfl) ?_
  simp (disch := first | omega | (simp <;> omega) | fail) [wrap_i64, wrap_u64, wrap_u8', exL_f2]
  refine stepK.mk (.call1f _ _ _ _ _ rfl Ty.hb28 rfl rfl (sameAt1_spec) rfl) ?_
  simp (disch := first | omega | (simp <;> omega) | fail) [wrap_i64, wrap_u64, wrap_u8']
  refine stepK.mk (.call1f _ _ _ _ _ rfl Ty.hb29 rfl rfl (findEx_spec [] (by decide)) rfl) ?_
  simp (disch := first | omega | (simp <;> omega) | fail) [wrap_i64, wrap_u64, wrap_u8', exL_f3]
  refine HT.ret ?_
  simp (disch := first | omega | (simp <;> omega) | fail) [wrap_i64, wrap_u64, wrap_u8']
end Go.Hv
set_option linter.unusedVariables false
set_option linter.unusedSimpArgs false
/- The law SegmentFinds (layer 29). -/
namespace Go.Hv
open Go Go.Hv Go.Proofs Go.RowKit
open Go.Proofs.YtlbmbnpknobjdaaGreatDoor
theorem find29_off {l : List Doc} {t : List UInt8} (h : ∀ d ∈ l, d.text.length ≤ 900) : ∀ g ∈ find29 l t, g.off.length ≤ 1000 := fun g hg => by
  unfold find29 at hg
  obtain ⟨d, hd, rfl⟩ := List.mem_map.1 (List.mem_filter.1 hg).1
  have h1 : (findV (foldS d.text) (foldS t)).length ≤ (foldS d.text).length + 1 := by
    have := findK_length (foldS d.text) (foldS t) ((foldS d.text).length + 1 - (foldS t).length)
    unfold findV; omega
  have h2 := h d hd
  have h3 : (foldS d.text).length = d.text.length := by simp [foldS]
  show (findV (foldS d.text) (foldS t)).length ≤ 1000
  omega
theorem find29_len' (l : List Doc) (t : List UInt8) : (find29 l t).length ≤ l.length := by
  have := find29_len l t l.length
  rwa [List.take_length] at this
theorem evalR_len (l : List Doc) (n : NeedT) : (evalR l n).length ≤ l.length := by
  unfold evalR
  split
  · have := eval29_len n l l.length
    rwa [List.take_length] at this
  · simp
theorem SameAt_find {l : List Doc} (t : List UInt8) (hl : l.length ≤ 64) (h : ∀ d ∈ l, d.text.length ≤ 900) : Spec1 Tryz.prog 28 [.sl 2 false (gramsHV (find29 l t)), .sl 2 false (gramsHV (find29 l t))] (bo true) := by
  have := SameAt_spec (find29 l t) (find29 l t) (by have := find29_len' l t; omega) (fun g hg => by have := find29_off h g hg; omega)
  simpa using this
theorem grams_few {l : List Doc} (h : rightV l = 0) (h12 : l.length ≤ 12) : (gramsOf l).length ≤ 128000 ∧ ∀ p ∈ gramsOf l, p.docs.length ≤ 64 := by
  have hp := gramsOf_B (right_txt h)
  refine ⟨hp.1, fun p hp' => ?_⟩
  obtain ⟨c, _, rfl⟩ := List.mem_map.1 hp'
  have := postV_length l c
  show (postV l c).length ≤ 64
  omega
end Go.Hv
set_option linter.unusedVariables false
set_option linter.unusedSimpArgs false
/- The law SegmentParts (layer 29). -/
namespace Go.Hv
open Go Go.Hv Go.Proofs Go.RowKit
open Go.Proofs.YtlbmbnpknobjdaaGreatDoor
theorem find29_part (l : List Doc) (t : List UInt8) {k : Nat} (hk : k < l.length) : find29 (l.take (k + 1)) t = find29 (l.take k) t ++ find29 [l[k]] t := by
  unfold find29
  rw [List.take_succ_eq_append_getElem hk, List.map_append, List.filter_append]
  try rfl
theorem docs_cut (l : List Doc) {k : Nat} (hk : k < l.length) : List.drop k (List.take (k + 1) (docsHV l)) = docsHV [l[k]] := by
  have h : List.drop k (List.take (k + 1) l) = [l[k]] := by
    rw [List.take_succ_eq_append_getElem hk, List.drop_left' (by simp; omega)]
  rw [show docsHV l = l.map Doc.enc from rfl, ← List.map_take, ← List.map_drop, h]
  rfl
theorem gramsHV_app (a b : List Gram) : gramsHV (a ++ b) = gramsHV a ++ gramsHV b := List.map_append
theorem one_sub {l : List Doc} {k : Nat} (hk : k < l.length) : List.Sublist [l[k]] l := List.singleton_sublist.2 (List.getElem_mem hk)
set_option maxRecDepth 20000 in
set_option maxHeartbeats 8000000 in
theorem parts_spec (l : List Doc) (t : List UInt8) (hl : DocsB 140737488355328 l) (htb : t.length ≤ 140737488355328) : Spec1 Tryz.prog 9 [.sl 5 false (docsHV l), .str t] (bo true) := by
  refine Spec1.of_HT Tryz.func9 rfl (by rw [Tryz.ntmps9]; simp) rfl ?_
  rw [Tryz.ntmps9]
  refine HT.seq ?_
  refine HT.region ?_   -- R0
  simp (disch := first | omega | (simp <;> omega) | fail) [wrap_i64, wrap_u64, wrap_u8']
  refine HT.seq ?_
  refine HT.seq ?_
  refine HT.region ?_   -- R1
  simp (disch := first | omega | (simp <;> omega) | fail) [wrap_i64, wrap_u64, wrap_u8']
  refine stepK.mk (.call1f _ _ _ _ _ rfl Ty.hb10 rfl rfl (alive_spec) rfl) ?_
  simp (disch := first | omega | (simp <;> omega) | fail) [wrap_i64, wrap_u64, wrap_u8']
  refine HT.cond' ?_   -- if 12
  simp (disch := first | omega | (simp <;> omega) | fail) [wrap_i64, wrap_u64, wrap_u8']
  refine HT.skip ?_
  simp (disch := first | omega | (simp <;> omega) | fail) [wrap_i64, wrap_u64, wrap_u8']
  refine HT.seq ?_
  refine HT.seq ?_
  by_cases f : fewV l = false
  · skip
    refine HT.region ?_   -- R3
    simp (disch := first | omega | (simp <;> omega) | fail) [wrap_i64, wrap_u64, wrap_u8', f]
    refine stepK.mk (.call1f _ _ _ _ _ rfl Ty.hb11 rfl rfl (few_spec l hl.1 (docB_few hl)) rfl) ?_
    simp (disch := first | omega | (simp <;> omega) | fail) [wrap_i64, wrap_u64, wrap_u8', f]
    refine HT.cond' ?_   -- if 25
    simp (disch := first | omega | (simp <;> omega) | fail) [wrap_i64, wrap_u64, wrap_u8']
    refine HT.seq ?_
    refine HT.region ?_   -- R4
    simp (disch := first | omega | (simp <;> omega) | fail) [wrap_i64, wrap_u64, wrap_u8']
    refine HT.ret ?_
    simp (disch := first | omega | (simp <;> omega) | fail) [wrap_i64, wrap_u64, wrap_u8']
  rw [Bool.not_eq_false] at f
  by_cases r : ¬ rightV l = 0
  · skip
    refine HT.region ?_   -- R3
    simp (disch := first | omega | (simp <;> omega) | fail) [wrap_i64, wrap_u64, wrap_u8', f, r]
    refine stepK.mk (.call1f _ _ _ _ _ rfl Ty.hb11 rfl rfl (few_spec l hl.1 (docB_few hl)) rfl) ?_
    simp (disch := first | omega | (simp <;> omega) | fail) [wrap_i64, wrap_u64, wrap_u8', f, r]
    refine stepK.mk (.call1f _ _ _ _ _ rfl Ty.hb21 rfl rfl (refRight_spec l hl) rfl) ?_
    simp (disch := first | omega | (simp <;> omega) | fail) [wrap_i64, wrap_u64, wrap_u8', f, r]
    refine HT.cond' ?_   -- if 25
    simp (disch := first | omega | (simp <;> omega) | fail) [wrap_i64, wrap_u64, wrap_u8']
    refine HT.seq ?_
    refine HT.region ?_   -- R4
    simp (disch := first | omega | (simp <;> omega) | fail) [wrap_i64, wrap_u64, wrap_u8']
    refine HT.ret ?_
    simp (disch := first | omega | (simp <;> omega) | fail) [wrap_i64, wrap_u64, wrap_u8']
  rw [Classical.not_not] at r
  by_cases t2 : 30 < t.length
  · skip
    refine HT.region ?_   -- R3
    simp (disch := first | omega | (simp <;> omega) | fail) [wrap_i64, wrap_u64, wrap_u8', f, r, t2]
    refine stepK.mk (.call1f _ _ _ _ _ rfl Ty.hb11 rfl rfl (few_spec l hl.1 (docB_few hl)) rfl) ?_
    simp (disch := first | omega | (simp <;> omega) | fail) [wrap_i64, wrap_u64, wrap_u8', f, r, t2]
    refine stepK.mk (.call1f _ _ _ _ _ rfl Ty.hb21 rfl rfl (refRight_spec l hl) rfl) ?_
    simp (disch := first | omega | (simp <;> omega) | fail) [wrap_i64, wrap_u64, wrap_u8', f, r, t2]
    refine HT.cond' ?_   -- if 25
    simp (disch := first | omega | (simp <;> omega) | fail) [wrap_i64, wrap_u64, wrap_u8']
    refine HT.seq ?_
    refine HT.region ?_   -- R4
    simp (disch := first | omega | (simp <;> omega) | fail) [wrap_i64, wrap_u64, wrap_u8']
    refine HT.ret ?_
    simp (disch := first | omega | (simp <;> omega) | fail) [wrap_i64, wrap_u64, wrap_u8']
  have hbd := build_yes r
  have hT := seg_T r
  have hft := few_text f
  have hx : ∀ d ∈ l, d.text.length ≤ 900 := fun d hd => by have := hft.2 d hd; omega
  refine HT.region ?_   -- R3
  simp (disch := first | omega | (simp <;> omega) | fail) [wrap_i64, wrap_u64, wrap_u8', f, r, t2]
  refine stepK.mk (.call1f _ _ _ _ _ rfl Ty.hb11 rfl rfl (few_spec l hl.1 (docB_few hl)) rfl) ?_
  simp (disch := first | omega | (simp <;> omega) | fail) [wrap_i64, wrap_u64, wrap_u8', f, r, t2]
  refine stepK.mk (.call1f _ _ _ _ _ rfl Ty.hb21 rfl rfl (refRight_spec l hl) rfl) ?_
  simp (disch := first | omega | (simp <;> omega) | fail) [wrap_i64, wrap_u64, wrap_u8', f, r, t2]
  refine HT.cond' ?_   -- if 25
  simp (disch := first | omega | (simp <;> omega) | fail) [wrap_i64, wrap_u64, wrap_u8']
  refine HT.skip ?_
  simp (disch := first | omega | (simp <;> omega) | fail) [wrap_i64, wrap_u64, wrap_u8']
  refine HT.seq ?_
  refine HT.region ?_   -- R5
  simp (disch := first | omega | (simp <;> omega) | fail) [wrap_i64, wrap_u64, wrap_u8']
  refine stepK.mk (.callTf _ _ _ _ _ rfl Ty.hb12 rfl rfl (Build_spec l hl) rfl) ?_
  simp (disch := first | omega | (simp <;> omega) | fail) [wrap_i64, wrap_u64, wrap_u8', hbd]
  refine HT.seq ?_
  refine HT.seq ?_
  refine HT.region ?_   -- R6
  simp (disch := first | omega | (simp <;> omega) | fail) [wrap_i64, wrap_u64, wrap_u8']
  refine HT.cond' ?_   -- if 32
  simp (disch := first | omega | (simp <;> omega) | fail) [wrap_i64, wrap_u64, wrap_u8']
  refine HT.skip ?_
  simp (disch := first | omega | (simp <;> omega) | fail) [wrap_i64, wrap_u64, wrap_u8']
  refine HT.seq ?_
  refine HT.region ?_   -- R8
  simp (disch := first | omega | (simp <;> omega) | fail) [wrap_i64, wrap_u64, wrap_u8']
  refine HT.weaken (HS.le_own (t := 7) 200 62 2 _ (by decide) rfl (by decide)) ?_
  refine HT.seq ?_
  refine HT.seq ?_
  refine HT.region ?_   -- R9
  simp (disch := first | omega | (simp <;> omega) | fail) [wrap_i64, wrap_u64, wrap_u8']
  refine HT.block ?_
  refine HT.loopK (fun k : {k : Nat // k ≤ l.length} => [.s 8 (i64 k), .s 7 (.ref 200), .o 200 (.row 62 2 (gramsHV (find29 (l.take k) t)))]) [0, 1, 5] [5] (fun k => l.length - k) (⟨0, by omega⟩) ?_ ?_   -- block 0 turned [7, 8]
  · simp (disch := first | omega | (simp <;> omega) | fail) [wrap_i64, wrap_u64, wrap_u8', show find29 [] t = [] from rfl]
  rintro ⟨k, hk⟩
  simp (disch := first | omega | (simp <;> omega) | fail) [wrap_i64, wrap_u64, wrap_u8']
  refine HT.seq ?_
  refine HT.seq ?_
  refine HT.region ?_   -- R10
  simp (disch := first | omega | (simp <;> omega) | fail) [wrap_i64, wrap_u64, wrap_u8']
  refine HT.cond' ?_   -- if 37
  simp (disch := first | omega | (simp <;> omega) | fail) [wrap_i64, wrap_u64, wrap_u8']
  refine ⟨fun h37 => ?_, fun h37 => ?_⟩
  · skip
    have hk' : k < l.length := by omega
    have hcut := docs_cut l hk'
    have hxk := hx _ (List.getElem_mem hk')
    have hsub := one_sub hk'
    have hr1 := right_sub r hsub
    have hb1 := build_yes hr1
    have hT1 := seg_T hr1
    have hB1 : DocsB 140737488355328 [l[k]] := ⟨by simp, fun d hd => by rw [List.mem_singleton.1 hd]; exact hl.2 _ (List.getElem_mem hk')⟩
    have hfl := find29_len l t k
    have hf1 : (find29 [l[k]] t).length ≤ 1 := find29_len' [l[k]] t
    refine HT.skip ?_
    simp (disch := first | omega | (simp <;> omega) | fail) [wrap_i64, wrap_u64, wrap_u8']
    refine HT.seq ?_
    refine HT.block ?_
    refine HT.seq ?_
    refine HT.region ?_   -- R12
    simp (disch := first | omega | (simp <;> omega) | fail) [wrap_i64, wrap_u64, wrap_u8', hcut]
    refine stepK.mk (.callTf _ _ _ _ _ rfl Ty.hb12 rfl rfl (Build_spec [l[k]] hB1) rfl) ?_
    simp (disch := first | omega | (simp <;> omega) | fail) [wrap_i64, wrap_u64, wrap_u8', hcut, hb1]
    refine HT.seq ?_
    refine HT.seq ?_
    refine HT.region ?_   -- R13
    simp (disch := first | omega | (simp <;> omega) | fail) [wrap_i64, wrap_u64, wrap_u8']
    refine HT.cond' ?_   -- if 50
    simp (disch := first | omega | (simp <;> omega) | fail) [wrap_i64, wrap_u64, wrap_u8']
    refine HT.skip ?_
    simp (disch := first | omega | (simp <;> omega) | fail) [wrap_i64, wrap_u64, wrap_u8']
    refine HT.region ?_   -- R15
    simp (disch := first | omega | (simp <;> omega) | fail) [wrap_i64, wrap_u64, wrap_u8']
    refine stepK.mk (.call1f _ _ _ _ _ rfl Ty.hb29 rfl rfl (Find_seg [l[k]] t (right_inc hr1) (by simp) (fun d hd => by rw [List.mem_singleton.1 hd]; exact hxk) (by omega) hT1) rfl) ?_
    simp (disch := first | omega | (simp <;> omega) | fail) [wrap_i64, wrap_u64, wrap_u8']
    refine HT.region ?_   -- R11
    simp (disch := first | omega | (simp <;> omega) | fail) [wrap_i64, wrap_u64, wrap_u8']
    refine Round.mk' (⟨k + 1, by omega⟩) (by dsimp only; omega) rfl ?_
    simp (disch := first | omega | (simp <;> omega) | fail) [wrap_i64, wrap_u64, wrap_u8', find29_part l t hk', gramsHV_app]
  · skip
    obtain rfl : k = l.length := by omega
    refine HT.exit ?_
    simp (disch := first | omega | (simp <;> omega) | fail) [wrap_i64, wrap_u64, wrap_u8']
    refine HT.weaken (HS.le_frzref (id := 200) (xr := .sl 2 false (gramsHV (find29 l t))) (xm := .any) (by simp [find29_all])) ?_
    refine HT.seq ?_
    refine HT.region ?_   -- R16
    simp (disch := first | omega | (simp <;> omega) | fail) [wrap_i64, wrap_u64, wrap_u8']
    refine stepK.mk (.call1f _ _ _ _ _ rfl Ty.hb29 rfl rfl (Find_seg l t (right_inc r) (by omega) hx (by omega) hT) rfl) ?_
    simp (disch := first | omega | (simp <;> omega) | fail) [wrap_i64, wrap_u64, wrap_u8']
    refine stepK.mk (.call1f _ _ _ _ _ rfl Ty.hb28 rfl rfl (SameAt_find t (by omega) hx) rfl) ?_
    simp (disch := first | omega | (simp <;> omega) | fail) [wrap_i64, wrap_u64, wrap_u8']
    refine HT.ret ?_
    simp (disch := first | omega | (simp <;> omega) | fail) [wrap_i64, wrap_u64, wrap_u8']
end Go.Hv
set_option linter.unusedVariables false
set_option linter.unusedSimpArgs false
/- occurs, and the plain law of SegmentExact (layer 29). -/
namespace Go.Hv
open Go Go.Hv Go.Proofs Go.RowKit
open Go.Proofs.YtlbmbnpknobjdaaGreatDoor
theorem incBy_same {l : List Doc} (h : IncBy Doc.id l) {d e : Doc} (hd : d ∈ l) (he : e ∈ l) (hi : d.id = e.id) : d = e := by
  obtain ⟨i, h1, rfl⟩ := List.getElem_of_mem hd
  obtain ⟨j, h2, rfl⟩ := List.getElem_of_mem he
  have hp := List.pairwise_iff_getElem.1 h
  rcases Nat.lt_trichotomy i j with c | c | c
  · have := hp i j h1 h2 c; omega
  · subst c; rfl
  · have := hp j i h2 h1 c; omega
theorem find29_at {l : List Doc} (t : List UInt8) (h : IncBy Doc.id l) {d : Doc} (hd : d ∈ l) : atV (find29 l t) d.id = findV (foldS d.text) (foldS t) := by
  unfold atV
  split
  · next g hg =>
    have hm := List.mem_of_find?_eq_some hg
    have hc : g.code = d.id := by simpa using List.find?_some hg
    unfold find29 at hm
    obtain ⟨e, he, rfl⟩ := List.mem_map.1 (List.mem_filter.1 hm).1
    rw [incBy_same h he hd hc]
  · next hg =>
    rw [List.find?_eq_none] at hg
    by_cases hn : findV (foldS d.text) (foldS t) = []
    · exact hn.symm
    · have := hg ⟨d.id, findV (foldS d.text) (foldS t)⟩ (List.mem_filter.2 ⟨List.mem_map.2 ⟨d, hd, rfl⟩, by simpa using hn⟩)
      simp at this
theorem evalR_at {l : List Doc} (n : NeedT) (h : IncBy Doc.id l) {d : Doc} (hd : d ∈ l) : decide (d.id ∈ evalR l n) = (validN n 1 && holdsN n (ofV d.text)) := by
  unfold evalR eval29
  by_cases hv : validN n 1 = true
  · rw [if_pos hv, hv, Bool.true_and, Bool.eq_iff_iff, decide_eq_true_iff]
    constructor
    · intro hm
      obtain ⟨e, he, hi⟩ := List.mem_map.1 hm
      have hme := List.mem_filter.1 he
      rw [← incBy_same h hme.1 hd hi]; exact hme.2
    · intro hh
      exact List.mem_map.2 ⟨d, List.mem_filter.2 ⟨hd, hh⟩, rfl⟩
  · rw [if_neg hv]
    rw [Bool.not_eq_true] at hv
    rw [hv]; simp
theorem evalR_snoc (n : NeedT) {l : List Doc} {k : Nat} (hk : k < l.length) : (evalR (l.take (k + 1)) n).length = (evalR (l.take k) n).length + if (validN n 1 && holdsN n (ofV l[k].text)) = true then 1 else 0 := by
  unfold evalR
  by_cases hv : validN n 1 = true
  · rw [if_pos hv, if_pos hv, eval29_snoc n hk, hv, List.length_append]
    by_cases hh : holdsN n (ofV l[k].text) = true <;> simp [hh]
  · rw [if_neg hv, if_neg hv]; rw [Bool.not_eq_true] at hv; simp [hv]
theorem offV_mem (s : List UInt8) (c x : Int) : x ∈ offV s c ↔ x ∈ atV (gramsV s) c := by
  rw [atV_gramsM]
  unfold offV
  constructor
  · exact offK_mem
  · rintro ⟨j, h1, h2, rfl⟩
    unfold offK
    exact List.mem_map.2 ⟨j, List.mem_filter.2 ⟨List.mem_range.2 h1, by simpa using h2⟩, rfl⟩
theorem find_all {s t : List UInt8} (hs : s.length ≤ 900) (h3 : 3 ≤ t.length) (k : Nat) : (k : Int) ∈ findV (foldS s) (foldS t) ↔ ∀ i : Nat, i < t.length - 2 → (k : Int) + i ∈ offV s (codeAt t i) := by
  rw [← exact_cand hs (by omega)]
  unfold candV candI
  rw [if_neg (by omega), ins_foldl_mem, List.take_length, List.mem_filter, candJ_iff]
  constructor
  · intro h i hi
    rw [offV_mem]
    have h' := h
    simp only [List.not_mem_nil, false_or] at h'
    exact h'.2.2 i hi
  · intro h
    have h0 := h 0 (by omega)
    rw [offV_mem] at h0
    refine .inr ⟨by simpa using h0, by omega, fun i hi => ?_⟩
    have := h i hi
    rwa [offV_mem] at this
theorem all_end {s t : List UInt8} {k j : Nat} {b : Bool} (hs : s.length ≤ 900) (hj : j ≤ t.length - 2) (hg : b = true ↔ 3 ≤ t.length ∧ ∀ i : Nat, i < j → (k : Int) + i ∈ offV s (codeAt t i)) (he : ¬ j + 3 ≤ t.length ∨ b = false) (h3 : 3 ≤ t.length) : b = decide ((k : Int) ∈ findV (foldS s) (foldS t)) := by
  rw [Bool.eq_iff_iff, decide_eq_true_iff, find_all hs h3, hg]
  constructor
  · intro h i hi
    rcases he with he | he
    · exact h.2 i (by omega)
    · have := hg.2 h; rw [he] at this; cases this
  · intro h
    exact ⟨h3, fun i hi => h i (by omega)⟩
theorem all_more {s t : List UInt8} {k j : Nat} (hg : (3 : Nat) ≤ t.length ∧ ∀ i : Nat, i < j → (k : Int) + i ∈ offV s (codeAt t i)) : decide ((k : Int) + j ∈ offV s (codeAt t j)) = true ↔ 3 ≤ t.length ∧ ∀ i : Nat, i < j + 1 → (k : Int) + i ∈ offV s (codeAt t i) := by
  rw [decide_eq_true_iff]
  constructor
  · intro h
    refine ⟨hg.1, fun i hi => ?_⟩
    by_cases e : i = j
    · subst e; exact h
    · exact hg.2 i (by omega)
  · intro h
    exact h.2 j (by omega)
theorem find_occ {s t : List UInt8} {k : Nat} (hk : k ≤ s.length) : decide ((k : Int) ∈ findV (foldS s) (foldS t)) = occ (foldS s) (foldS t) k := by
  rw [Bool.eq_iff_iff, decide_eq_true_iff, findV_mem]
  constructor
  · rintro ⟨i, _, h, e⟩
    obtain rfl : k = i := by omega
    exact h
  · intro h; exact ⟨k, by simpa using hk, h, rfl⟩
theorem occ9_no {s t : List UInt8} {k : Nat} (hk : k ≤ s.length) (h : s.length < k + t.length) : occ (foldS s) (foldS t) k = false := by
  rw [Bool.eq_false_iff]
  intro ho
  rcases occ_room ho with e | e
  · have := congrArg List.length e
    simp at this
    subst this
    simp at h; omega
  · simp at e; omega
theorem occ9_cut {s t : List UInt8} {k : Nat} (h : k + t.length ≤ s.length) : decide (foldS (List.drop k (List.take (k + t.length) s)) = foldS t) = occ (foldS s) (foldS t) k := by
  unfold occ
  have : foldS (List.drop k (List.take (k + t.length) s)) = List.take (foldS t).length (List.drop k (foldS s)) := by
    rw [foldS_length]
    unfold foldS
    rw [List.map_drop, List.map_take, List.take_drop, Nat.add_comm]
  rw [this]
set_option maxRecDepth 20000 in
set_option maxHeartbeats 4000000 in
theorem occurs29_spec (s t : List UInt8) (k : Nat) (hs : s.length ≤ 900) (ht : t.length ≤ 900) (hk : k ≤ s.length) : Spec1 Tryz.prog 36 [.str s, .str t, i64 k] (bo (occ (foldS s) (foldS t) k)) := by
  refine Spec1.of_HT Tryz.func36 rfl (by rw [Tryz.ntmps36]; simp) rfl ?_
  rw [Tryz.ntmps36]
  refine HT.seq ?_
  refine HT.region ?_   -- R0
  simp (disch := first | omega | (simp <;> omega) | fail) [wrap_i64, wrap_u64, wrap_u8']
  refine HT.seq ?_
  by_cases c1 : s.length < k + t.length
  · skip
    refine HT.region ?_   -- R1
    simp (disch := first | omega | (simp <;> omega) | fail) [wrap_i64, wrap_u64, wrap_u8', c1]
    refine HT.ret ?_
    first | (simp (disch := first | omega | (simp <;> omega) | fail) [wrap_i64, wrap_u64, wrap_u8', occ9_no hk c1]; done) | (simp (disch := first | omega | (simp <;> omega) | fail) [wrap_i64, wrap_u64, wrap_u8', hc]; done)
  have hc := occ9_cut (s := s) (t := t) (k := k) (by omega)
  refine HT.region ?_   -- R1
  simp (disch := first | omega | (simp <;> omega) | fail) [wrap_i64, wrap_u64, wrap_u8', c1]
  refine stepK.mk (.call1 _ _ _ _ rfl Ty.hb67 rfl (Fold_spec (List.drop k (List.take (k + t.length) s)) (by simp; omega)) rfl rfl) ?_
  simp (disch := first | omega | (simp <;> omega) | fail) [wrap_i64, wrap_u64, wrap_u8', c1]
  refine stepK.mk (.call1 _ _ _ _ rfl Ty.hb67 rfl (Fold_spec t (by omega)) rfl rfl) ?_
  simp (disch := first | omega | (simp <;> omega) | fail) [wrap_i64, wrap_u64, wrap_u8', c1]
  refine HT.ret ?_
  first | (simp (disch := first | omega | (simp <;> omega) | fail) [wrap_i64, wrap_u64, wrap_u8', occ9_no hk c1]; done) | (simp (disch := first | omega | (simp <;> omega) | fail) [wrap_i64, wrap_u64, wrap_u8', hc]; done)
end Go.Hv
set_option linter.unusedVariables false
set_option linter.unusedSimpArgs false
/- The law SegmentExact (layer 29). -/
namespace Go.Hv
open Go Go.Hv Go.Proofs Go.RowKit
open Go.Proofs.YtlbmbnpknobjdaaGreatDoor
theorem At_doc {l : List Doc} (h : IncBy Doc.id l) (hT : SegT (segV l)) {d : Doc} (hd : d ∈ l) (c : Int) : Spec1 Tryz.prog 25 [.agg (segV l).enc, i64 c, i64 d.id] (.sl 1 false (intsHV (offV d.text c))) := by
  have := At_seg (segV l) c d.id hT
  rwa [show (segV l).grams = gramsOf l from rfl, atsV_seg h c hd] at this
theorem Off_doc {l : List Doc} (t : List UInt8) (h : IncBy Doc.id l) (h64 : l.length ≤ 64) {d : Doc} (hd : d ∈ l) : Spec1 Tryz.prog 33 [.sl 2 false (gramsHV (find29 l t)), i64 d.id] (.sl 1 false (intsHV (findV (foldS d.text) (foldS t)))) := by
  have := offsets_spec (find29 l t) d.id (by have := find29_len' l t; omega)
  rwa [find29_at t h hd] at this
theorem findV_len9 {s : List UInt8} (t : List UInt8) (h : s.length ≤ 900) : (findV (foldS s) (foldS t)).length ≤ 1000 := by
  have := findK_length (foldS s) (foldS t) ((foldS s).length + 1 - (foldS t).length)
  have h2 := foldS_length s
  unfold findV; omega
theorem In_find (s t : List UInt8) (k : Nat) (hs : s.length ≤ 900) (hk : k ≤ s.length) : Spec1 Tryz.prog 35 [.sl 1 false (intsHV (findV (foldS s) (foldS t))), i64 k] (bo (occ (foldS s) (foldS t) k)) := by
  have := In_spec false (findV (foldS s) (foldS t)) k (by have := findV_len9 t hs; omega)
  rwa [find_occ hk] at this
def hitB (n : NeedT) (d : Doc) : Bool := validN n 1 && holdsN n (ofV d.text)
theorem evalR_snocH (n : NeedT) {l : List Doc} {k : Nat} (hk : k < l.length) : (evalR (l.take (k + 1)) n).length = (evalR (l.take k) n).length + if hitB n l[k] = true then 1 else 0 := evalR_snoc n hk
theorem Eval_doc (n : NeedT) (d : Doc) (hb : NeedB 140737488355328 n) (hd : d.text.length ≤ 900) : Spec1 Tryz.prog 37 [.agg (needC n), .sl 1 false (intsHV (ofV d.text))] (bo (hitB n d)) :=
  Eval_spec n false (ofV d.text) hb (by have := ofV_length d.text; omega)
theorem In_eval {l : List Doc} (n : NeedT) (h : IncBy Doc.id l) (h64 : l.length ≤ 64) {d : Doc} (hd : d ∈ l) : Spec1 Tryz.prog 35 [.sl 1 false (intsHV (evalR l n)), i64 d.id] (bo (hitB n d)) := by
  have := In_spec false (evalR l n) d.id (by have := evalR_len l n; omega)
  rwa [evalR_at n h hd] at this
theorem find29_snocL (l : List Doc) (t : List UInt8) {k : Nat} (hk : k < l.length) : (find29 (l.take (k + 1)) t).length = (find29 (l.take k) t).length + if findV (foldS l[k].text) (foldS t) = [] then 0 else 1 := by
  rw [find29_snoc l t hk, List.length_append]
  by_cases h : findV (foldS l[k].text) (foldS t) = [] <;> simp [h]
set_option maxRecDepth 20000 in
set_option maxHeartbeats 8000000 in
theorem exact_spec (l : List Doc) (t : List UInt8) (n : NeedT) (hl : DocsB 140737488355328 l) (htb : t.length ≤ 140737488355328) (hb : NeedB 140737488355328 n) : Spec1 Tryz.prog 7 [.sl 5 false (docsHV l), .str t, .agg (needC n)] (bo true) := by
  refine Spec1.of_HT Tryz.func7 rfl (by rw [Tryz.ntmps7]; simp) rfl ?_
  rw [Tryz.ntmps7]
  refine HT.seq ?_
  refine HT.region ?_   -- R0
  simp (disch := first | omega | (simp <;> omega) | fail) [wrap_i64, wrap_u64, wrap_u8']
  refine HT.seq ?_
  refine HT.seq ?_
  refine HT.region ?_   -- R1
  simp (disch := first | omega | (simp <;> omega) | fail) [wrap_i64, wrap_u64, wrap_u8']
  refine stepK.mk (.call1f _ _ _ _ _ rfl Ty.hb10 rfl rfl (alive_spec) rfl) ?_
  simp (disch := first | omega | (simp <;> omega) | fail) [wrap_i64, wrap_u64, wrap_u8']
  refine HT.cond' ?_   -- if 22
  simp (disch := first | omega | (simp <;> omega) | fail) [wrap_i64, wrap_u64, wrap_u8']
  refine HT.skip ?_
  simp (disch := first | omega | (simp <;> omega) | fail) [wrap_i64, wrap_u64, wrap_u8']
  refine HT.seq ?_
  refine HT.seq ?_
  by_cases f : fewV l = false
  · skip
    refine HT.region ?_   -- R3
    simp (disch := first | omega | (simp <;> omega) | fail) [wrap_i64, wrap_u64, wrap_u8', f]
    refine stepK.mk (.call1f _ _ _ _ _ rfl Ty.hb11 rfl rfl (few_spec l hl.1 (docB_few hl)) rfl) ?_
    simp (disch := first | omega | (simp <;> omega) | fail) [wrap_i64, wrap_u64, wrap_u8', f]
    refine HT.cond' ?_   -- if 40
    simp (disch := first | omega | (simp <;> omega) | fail) [wrap_i64, wrap_u64, wrap_u8']
    refine HT.seq ?_
    refine HT.region ?_   -- R4
    simp (disch := first | omega | (simp <;> omega) | fail) [wrap_i64, wrap_u64, wrap_u8']
    refine HT.ret ?_
    simp (disch := first | omega | (simp <;> omega) | fail) [wrap_i64, wrap_u64, wrap_u8']
  rw [Bool.not_eq_false] at f
  by_cases r : ¬ rightV l = 0
  · skip
    refine HT.region ?_   -- R3
    simp (disch := first | omega | (simp <;> omega) | fail) [wrap_i64, wrap_u64, wrap_u8', f, r]
    refine stepK.mk (.call1f _ _ _ _ _ rfl Ty.hb11 rfl rfl (few_spec l hl.1 (docB_few hl)) rfl) ?_
    simp (disch := first | omega | (simp <;> omega) | fail) [wrap_i64, wrap_u64, wrap_u8', f, r]
    refine stepK.mk (.call1f _ _ _ _ _ rfl Ty.hb21 rfl rfl (refRight_spec l hl) rfl) ?_
    simp (disch := first | omega | (simp <;> omega) | fail) [wrap_i64, wrap_u64, wrap_u8', f, r]
    refine HT.cond' ?_   -- if 40
    simp (disch := first | omega | (simp <;> omega) | fail) [wrap_i64, wrap_u64, wrap_u8']
    refine HT.seq ?_
    refine HT.region ?_   -- R4
    simp (disch := first | omega | (simp <;> omega) | fail) [wrap_i64, wrap_u64, wrap_u8']
    refine HT.ret ?_
    simp (disch := first | omega | (simp <;> omega) | fail) [wrap_i64, wrap_u64, wrap_u8']
  rw [Classical.not_not] at r
  by_cases t2 : 30 < t.length
  · skip
    refine HT.region ?_   -- R3
    simp (disch := first | omega | (simp <;> omega) | fail) [wrap_i64, wrap_u64, wrap_u8', f, r, t2]
    refine stepK.mk (.call1f _ _ _ _ _ rfl Ty.hb11 rfl rfl (few_spec l hl.1 (docB_few hl)) rfl) ?_
    simp (disch := first | omega | (simp <;> omega) | fail) [wrap_i64, wrap_u64, wrap_u8', f, r, t2]
    refine stepK.mk (.call1f _ _ _ _ _ rfl Ty.hb21 rfl rfl (refRight_spec l hl) rfl) ?_
    simp (disch := first | omega | (simp <;> omega) | fail) [wrap_i64, wrap_u64, wrap_u8', f, r, t2]
    refine HT.cond' ?_   -- if 40
    simp (disch := first | omega | (simp <;> omega) | fail) [wrap_i64, wrap_u64, wrap_u8']
    refine HT.seq ?_
    refine HT.region ?_   -- R4
    simp (disch := first | omega | (simp <;> omega) | fail) [wrap_i64, wrap_u64, wrap_u8']
    refine HT.ret ?_
    simp (disch := first | omega | (simp <;> omega) | fail) [wrap_i64, wrap_u64, wrap_u8']
  by_cases n2 : 60 < nodesN n 60
  · skip
    refine HT.region ?_   -- R3
    simp (disch := first | omega | (simp <;> omega) | fail) [wrap_i64, wrap_u64, wrap_u8', f, r, t2, n2]
    refine stepK.mk (.call1f _ _ _ _ _ rfl Ty.hb11 rfl rfl (few_spec l hl.1 (docB_few hl)) rfl) ?_
    simp (disch := first | omega | (simp <;> omega) | fail) [wrap_i64, wrap_u64, wrap_u8', f, r, t2, n2]
    refine stepK.mk (.call1f _ _ _ _ _ rfl Ty.hb21 rfl rfl (refRight_spec l hl) rfl) ?_
    simp (disch := first | omega | (simp <;> omega) | fail) [wrap_i64, wrap_u64, wrap_u8', f, r, t2, n2]
    refine stepK.mk (.call1f _ _ _ _ _ rfl Ty.hb27 rfl rfl (Nodes_spec n hb 60 (by decide) (by decide)) rfl) ?_
    simp (disch := first | omega | (simp <;> omega) | fail) [wrap_i64, wrap_u64, wrap_u8', f, r, t2, n2]
    refine HT.cond' ?_   -- if 40
    simp (disch := first | omega | (simp <;> omega) | fail) [wrap_i64, wrap_u64, wrap_u8']
    refine HT.seq ?_
    refine HT.region ?_   -- R4
    simp (disch := first | omega | (simp <;> omega) | fail) [wrap_i64, wrap_u64, wrap_u8']
    refine HT.ret ?_
    simp (disch := first | omega | (simp <;> omega) | fail) [wrap_i64, wrap_u64, wrap_u8']
  have hbd := build_yes r
  have hT := seg_T r
  have hft := few_text f
  have hg := grams_few r hft.1
  have hx : ∀ d ∈ l, d.text.length ≤ 900 := fun d hd => by have := hft.2 d hd; omega
  have hinc := right_inc r
  have hfl := find29_len' l t
  have hel := evalR_len l n
  refine HT.region ?_   -- R3
  simp (disch := first | omega | (simp <;> omega) | fail) [wrap_i64, wrap_u64, wrap_u8', f, r, t2, n2]
  refine stepK.mk (.call1f _ _ _ _ _ rfl Ty.hb11 rfl rfl (few_spec l hl.1 (docB_few hl)) rfl) ?_
  simp (disch := first | omega | (simp <;> omega) | fail) [wrap_i64, wrap_u64, wrap_u8', f, r, t2, n2]
  refine stepK.mk (.call1f _ _ _ _ _ rfl Ty.hb21 rfl rfl (refRight_spec l hl) rfl) ?_
  simp (disch := first | omega | (simp <;> omega) | fail) [wrap_i64, wrap_u64, wrap_u8', f, r, t2, n2]
  refine stepK.mk (.call1f _ _ _ _ _ rfl Ty.hb27 rfl rfl (Nodes_spec n hb 60 (by decide) (by decide)) rfl) ?_
  simp (disch := first | omega | (simp <;> omega) | fail) [wrap_i64, wrap_u64, wrap_u8', f, r, t2, n2]
  refine HT.cond' ?_   -- if 40
  simp (disch := first | omega | (simp <;> omega) | fail) [wrap_i64, wrap_u64, wrap_u8']
  refine HT.skip ?_
  simp (disch := first | omega | (simp <;> omega) | fail) [wrap_i64, wrap_u64, wrap_u8']
  refine HT.seq ?_
  refine HT.region ?_   -- R5
  simp (disch := first | omega | (simp <;> omega) | fail) [wrap_i64, wrap_u64, wrap_u8']
  refine stepK.mk (.callTf _ _ _ _ _ rfl Ty.hb12 rfl rfl (Build_spec l hl) rfl) ?_
  simp (disch := first | omega | (simp <;> omega) | fail) [wrap_i64, wrap_u64, wrap_u8', hbd]
  refine HT.seq ?_
  refine HT.seq ?_
  refine HT.region ?_   -- R6
  simp (disch := first | omega | (simp <;> omega) | fail) [wrap_i64, wrap_u64, wrap_u8']
  refine HT.cond' ?_   -- if 47
  simp (disch := first | omega | (simp <;> omega) | fail) [wrap_i64, wrap_u64, wrap_u8']
  refine HT.skip ?_
  simp (disch := first | omega | (simp <;> omega) | fail) [wrap_i64, wrap_u64, wrap_u8']
  refine HT.seq ?_
  refine HT.draw [.batch [0, 1, 2, 3, 4, 5, 6, 7]] (by kernel_rfl) ?_   -- R8
  simp (disch := first | omega | (simp <;> omega) | fail) [wrap_i64, wrap_u64, wrap_u8']
  refine stepK.mk (.call1 _ _ _ rfl Ty.hb29 rfl rfl (Find_seg l t hinc (by omega) hx (by omega) hT)) ?_
  simp (disch := first | omega | (simp <;> omega) | fail) [wrap_i64, wrap_u64, wrap_u8']
  refine stepK.mk (.call1 _ _ _ rfl Ty.hb31 rfl rfl (Eval_seg l n hinc (by omega) hx hb hg.1 hg.2)) ?_
  refine HT.seq ?_
  refine HT.region ?_   -- R9
  simp (disch := first | omega | (simp <;> omega) | fail) [wrap_i64, wrap_u64, wrap_u8']
  refine HT.seq ?_
  refine HT.seq ?_
  refine HT.region ?_   -- R10
  simp (disch := first | omega | (simp <;> omega) | fail) [wrap_i64, wrap_u64, wrap_u8']
  refine HT.block ?_
  refine HT.loopK (fun k : {k : Nat // k ≤ l.length} => [.s 13 (i64 k), .s 11 (i64 (find29 (l.take k) t).length), .s 12 (i64 (evalR (l.take k) n).length)]) [0, 1, 5, 7, 9, 10, 165, 166, 167, 168] [5, 7] (fun k => l.length - k) (⟨0, by omega⟩) ?_ ?_   -- block 0 turned [11, 12, 13, 91, 129, 130, 131, 132, 133, 134, 135, 136, 137, 138]
  · simp (disch := first | omega | (simp <;> omega) | fail) [wrap_i64, wrap_u64, wrap_u8', show find29 [] t = [] from rfl, show (evalR [] n).length = 0 from Nat.le_zero.1 (evalR_len [] n)]
  rintro ⟨k, hk⟩
  simp (disch := first | omega | (simp <;> omega) | fail) [wrap_i64, wrap_u64, wrap_u8']
  refine HT.seq ?_
  refine HT.seq ?_
  refine HT.region ?_   -- R11
  simp (disch := first | omega | (simp <;> omega) | fail) [wrap_i64, wrap_u64, wrap_u8']
  refine HT.cond' ?_   -- if 57
  simp (disch := first | omega | (simp <;> omega) | fail) [wrap_i64, wrap_u64, wrap_u8']
  refine ⟨fun h57 => ?_, fun h57 => ?_⟩
  · skip
    have hk' : k < l.length := by omega
    have hm := List.getElem_mem hk'
    have hxk := hft.2 _ hm
    have hfk := find29_len l t k
    have hek : (evalR (l.take k) n).length ≤ l.length := by have := evalR_len (l.take k) n; rw [List.length_take] at this; omega
    have hvl := findV_len9 (s := l[k].text) t (by omega)
    refine HT.skip ?_
    simp (disch := first | omega | (simp <;> omega) | fail) [wrap_i64, wrap_u64, wrap_u8']
    refine HT.seq ?_
    refine HT.block ?_
    refine HT.seq ?_
    refine HT.region ?_   -- R13
    simp (disch := first | omega | (simp <;> omega) | fail) [wrap_i64, wrap_u64, wrap_u8']
    refine stepK.mk (.call1f _ _ _ _ _ rfl Ty.hb33 rfl rfl (Off_doc t hinc (by omega) hm) rfl) ?_
    simp (disch := first | omega | (simp <;> omega) | fail) [wrap_i64, wrap_u64, wrap_u8']
    refine HT.seq ?_
    refine HT.seq ?_
    refine HT.region ?_   -- R14
    simp (disch := first | omega | (simp <;> omega) | fail) [wrap_i64, wrap_u64, wrap_u8']
    refine HT.cond' ?_   -- if 69
    simp (disch := first | omega | (simp <;> omega) | fail) [wrap_i64, wrap_u64, wrap_u8']
    refine ⟨fun h69 => ?_, fun h69 => ?_⟩
    · skip
      have hne : ¬ findV (foldS l[k].text) (foldS t) = [] := by intro e; simp [e] at h69
      refine HT.region ?_   -- R15
      simp (disch := first | omega | (simp <;> omega) | fail) [wrap_i64, wrap_u64, wrap_u8']
      refine HT.seq ?_
      refine HT.seq ?_
      refine HT.region ?_   -- R16
      simp (disch := first | omega | (simp <;> omega) | fail) [wrap_i64, wrap_u64, wrap_u8']
      refine HT.block ?_
      refine HT.loopK (fun i : {i : Nat // i ≤ l[k].text.length + 1} => [.s 15 (i64 i)]) [0, 1, 5, 7, 9, 10, 11, 12, 13, 14, 165, 166, 167, 168] [5, 7] (fun i => l[k].text.length + 1 - i) (⟨0, by omega⟩) ?_ ?_   -- block 2 turned [15, 91, 129, 130, 131, 132, 133, 134, 135, 136, 137, 138]
      · simp (disch := first | omega | (simp <;> omega) | fail) [wrap_i64, wrap_u64, wrap_u8']
      rintro ⟨i, hi⟩
      simp (disch := first | omega | (simp <;> omega) | fail) [wrap_i64, wrap_u64, wrap_u8']
      refine HT.seq ?_
      refine HT.seq ?_
      refine HT.region ?_   -- R17
      simp (disch := first | omega | (simp <;> omega) | fail) [wrap_i64, wrap_u64, wrap_u8']
      refine HT.cond' ?_   -- if 79
      simp (disch := first | omega | (simp <;> omega) | fail) [wrap_i64, wrap_u64, wrap_u8']
      refine ⟨fun h79 => ?_, fun h79 => ?_⟩
      · skip
        have hi' : i ≤ l[k].text.length := by omega
        have hs9 : l[k].text.length ≤ 900 := by omega
        refine HT.skip ?_
        simp (disch := first | omega | (simp <;> omega) | fail) [wrap_i64, wrap_u64, wrap_u8']
        refine HT.seq ?_
        refine HT.block ?_
        refine HT.seq ?_
        refine HT.region ?_   -- R19
        simp (disch := first | omega | (simp <;> omega) | fail) [wrap_i64, wrap_u64, wrap_u8']
        refine HT.seq ?_
        refine HT.seq ?_
        refine HT.region ?_   -- R20
        simp (disch := first | omega | (simp <;> omega) | fail) [wrap_i64, wrap_u64, wrap_u8']
        refine HT.block ?_
        refine HT.loopK (fun q : {q : Nat × Bool // q.1 ≤ t.length - 2 ∧ (q.2 = true ↔ 3 ≤ t.length ∧ ∀ p : Nat, p < q.1 → (i : Int) + p ∈ offV l[k].text (codeAt t p))} => [.s 17 (i64 q.1.1), .s 16 (bo q.1.2)]) [0, 1, 5, 7, 9, 10, 11, 12, 13, 14, 15, 129, 130, 131, 132, 133, 134, 135, 136, 137, 138, 165, 166, 167, 168] [5, 7] (fun q => t.length - q.1.1) (⟨(0, decide (3 ≤ t.length)), by simp, by simp⟩) ?_ ?_   -- block 4 turned [16, 17, 91]
        · simp (disch := first | omega | (simp <;> omega) | fail) [wrap_i64, wrap_u64, wrap_u8', show ((3 : Int) ≤ (t.length : Int) ↔ 3 ≤ t.length) from by omega]
        rintro ⟨⟨j, b⟩, hj, hgb⟩
        simp (disch := first | omega | (simp <;> omega) | fail) [wrap_i64, wrap_u64, wrap_u8']
        dsimp only at hj hgb
        refine HT.seq ?_
        refine HT.seq ?_
        by_cases e1 : ¬ j + 3 ≤ t.length
        · skip
          refine HT.region ?_   -- R21
          simp (disch := first | omega | (simp <;> omega) | fail) [wrap_i64, wrap_u64, wrap_u8', e1]
          refine HT.cond' ?_   -- if 92
          simp (disch := first | omega | (simp <;> omega) | fail) [wrap_i64, wrap_u64, wrap_u8']
          have hall := all_end (show l[k].text.length ≤ 900 by omega) hj hgb (by first | exact .inl e1 | exact .inr (by simpa using h92))
          clear e1
          refine HT.exit ?_
          simp (disch := first | omega | (simp <;> omega) | fail) [wrap_i64, wrap_u64, wrap_u8']
          refine HT.seq ?_
          by_cases c3 : ¬ 3 ≤ t.length
          · skip
            refine HT.draw [.batch [0, 1, 2, 3, 4, 5, 6, 7, 8, 9, 10, 11, 12, 13, 14, 15, 16, 17, 18, 19, 20, 21, 22, 23]] (by kernel_rfl) ?_   -- R25
            simp -dsimp (disch := first | omega | (simp <;> omega) | fail) [wrap_i64, wrap_u64, wrap_u8', c3]
            refine stepK.mk (.call1 _ _ _ rfl Ty.hb35 rfl rfl (In_find l[k].text t i hs9 hi')) ?_
            simp -dsimp (disch := first | omega | (simp <;> omega) | fail) [wrap_i64, wrap_u64, wrap_u8', c3]
            refine stepK.mk (.call1 _ _ _ rfl Ty.hb36 rfl rfl (occurs29_spec l[k].text t i hs9 (by omega) hi')) ?_
            simp -dsimp (disch := first | omega | (simp <;> omega) | fail) [wrap_i64, wrap_u64, wrap_u8', c3]
            refine HT.cond' ?_   -- if 139
            simp (disch := first | omega | (simp <;> omega) | fail) [wrap_i64, wrap_u64, wrap_u8']
            refine HT.skip ?_
            simp (disch := first | omega | (simp <;> omega) | fail) [wrap_i64, wrap_u64, wrap_u8']
            refine HT.region ?_   -- R18
            simp (disch := first | omega | (simp <;> omega) | fail) [wrap_i64, wrap_u64, wrap_u8']
            refine Round.mk' (⟨i + 1, by omega⟩) (by dsimp only; omega) rfl ?_
            simp (disch := first | omega | (simp <;> omega) | fail) [wrap_i64, wrap_u64, wrap_u8']
          rw [Classical.not_not] at c3
          have hbo := (hall c3).trans (find_occ hi')
          refine HT.draw [.batch [0, 1, 2, 3, 4, 5, 6, 7, 8, 9, 10, 11, 12, 13, 14, 15, 16, 17, 18, 19, 20, 21, 22, 23]] (by kernel_rfl) ?_   -- R25
          simp -dsimp (disch := first | omega | (simp <;> omega) | fail) [wrap_i64, wrap_u64, wrap_u8', c3]
          refine stepK.mk (.call1 _ _ _ rfl Ty.hb35 rfl rfl (In_find l[k].text t i hs9 hi')) ?_
          simp -dsimp (disch := first | omega | (simp <;> omega) | fail) [wrap_i64, wrap_u64, wrap_u8', c3]
          refine stepK.mk (.call1 _ _ _ rfl Ty.hb36 rfl rfl (occurs29_spec l[k].text t i hs9 (by omega) hi')) ?_
          simp -dsimp (disch := first | omega | (simp <;> omega) | fail) [wrap_i64, wrap_u64, wrap_u8', c3]
          refine stepK.mk (.call1 _ _ _ rfl Ty.hb35 rfl rfl (In_find l[k].text t i hs9 hi')) ?_
          simp -dsimp (disch := first | omega | (simp <;> omega) | fail) [wrap_i64, wrap_u64, wrap_u8', c3, hbo]
          refine HT.cond' ?_   -- if 139
          simp (disch := first | omega | (simp <;> omega) | fail) [wrap_i64, wrap_u64, wrap_u8']
          refine HT.skip ?_
          simp (disch := first | omega | (simp <;> omega) | fail) [wrap_i64, wrap_u64, wrap_u8']
          refine HT.region ?_   -- R18
          simp (disch := first | omega | (simp <;> omega) | fail) [wrap_i64, wrap_u64, wrap_u8']
          refine Round.mk' (⟨i + 1, by omega⟩) (by dsimp only; omega) rfl ?_
          simp (disch := first | omega | (simp <;> omega) | fail) [wrap_i64, wrap_u64, wrap_u8']
        rw [Classical.not_not] at e1
        refine HT.region ?_   -- R21
        simp (disch := first | omega | (simp <;> omega) | fail) [wrap_i64, wrap_u64, wrap_u8', e1]
        refine HT.cond' ?_   -- if 92
        simp (disch := first | omega | (simp <;> omega) | fail) [wrap_i64, wrap_u64, wrap_u8']
        refine ⟨fun h92 => ?_, fun h92 => ?_⟩
        · skip
          have hbt : b = true := by simpa using h92
          have hcu := codeV_cut e1
          have hcu3 := cut3_length e1
          refine HT.skip ?_
          simp (disch := first | omega | (simp <;> omega) | fail) [wrap_i64, wrap_u64, wrap_u8']
          refine HT.seq ?_
          refine HT.block ?_
          refine HT.seq ?_
          refine HT.region ?_   -- R23
          simp (disch := first | omega | (simp <;> omega) | fail) [wrap_i64, wrap_u64, wrap_u8', hcu, hcu3]
          refine stepK.mk (.callTf _ _ _ _ _ rfl Ty.hb34 rfl rfl (refCode_spec (List.drop j (List.take (j + 3) t)) (by simp; omega)) rfl) ?_
          simp (disch := first | omega | (simp <;> omega) | fail) [wrap_i64, wrap_u64, wrap_u8', hcu, hcu3]
          refine HT.draw [.batch [0, 1, 2, 3, 4, 5, 6, 7, 8, 9, 10, 11, 12]] (by kernel_rfl) ?_   -- R24
          simp (disch := first | omega | (simp <;> omega) | fail) [wrap_i64, wrap_u64, wrap_u8']
          refine stepK.mk (.call1 _ _ _ rfl Ty.hb25 rfl rfl (At_doc hinc hT hm (codeAt t j))) ?_
          simp (disch := first | omega | (simp <;> omega) | fail) [wrap_i64, wrap_u64, wrap_u8']
          refine stepK.mk (.call1 _ _ _ rfl Ty.hb35 rfl rfl (In_spec false (offV l[k].text (codeAt t j)) ((i : Int) + j) (by have := offV_len' l[k].text (codeAt t j); omega))) ?_
          simp (disch := first | omega | (simp <;> omega) | fail) [wrap_i64, wrap_u64, wrap_u8']
          refine HT.region ?_   -- R22
          simp (disch := first | omega | (simp <;> omega) | fail) [wrap_i64, wrap_u64, wrap_u8']
          refine Round.mk' (⟨(j + 1, decide ((i : Int) + j ∈ offV l[k].text (codeAt t j))), by show j + 1 ≤ t.length - 2; omega, all_more (hgb.1 hbt)⟩) (by dsimp only; omega) rfl ?_
          simp (disch := first | omega | (simp <;> omega) | fail) [wrap_i64, wrap_u64, wrap_u8']
        · skip
          have hall := all_end (show l[k].text.length ≤ 900 by omega) hj hgb (by first | exact .inl e1 | exact .inr (by simpa using h92))
          clear e1
          refine HT.exit ?_
          simp (disch := first | omega | (simp <;> omega) | fail) [wrap_i64, wrap_u64, wrap_u8']
          refine HT.seq ?_
          by_cases c3 : ¬ 3 ≤ t.length
          · skip
            refine HT.draw [.batch [0, 1, 2, 3, 4, 5, 6, 7, 8, 9, 10, 11, 12, 13, 14, 15, 16, 17, 18, 19, 20, 21, 22, 23]] (by kernel_rfl) ?_   -- R25
            simp -dsimp (disch := first | omega | (simp <;> omega) | fail) [wrap_i64, wrap_u64, wrap_u8', c3]
            refine stepK.mk (.call1 _ _ _ rfl Ty.hb35 rfl rfl (In_find l[k].text t i hs9 hi')) ?_
            simp -dsimp (disch := first | omega | (simp <;> omega) | fail) [wrap_i64, wrap_u64, wrap_u8', c3]
            refine stepK.mk (.call1 _ _ _ rfl Ty.hb36 rfl rfl (occurs29_spec l[k].text t i hs9 (by omega) hi')) ?_
            simp -dsimp (disch := first | omega | (simp <;> omega) | fail) [wrap_i64, wrap_u64, wrap_u8', c3]
            refine HT.cond' ?_   -- if 139
            simp (disch := first | omega | (simp <;> omega) | fail) [wrap_i64, wrap_u64, wrap_u8']
            refine HT.skip ?_
            simp (disch := first | omega | (simp <;> omega) | fail) [wrap_i64, wrap_u64, wrap_u8']
            refine HT.region ?_   -- R18
            simp (disch := first | omega | (simp <;> omega) | fail) [wrap_i64, wrap_u64, wrap_u8']
            refine Round.mk' (⟨i + 1, by omega⟩) (by dsimp only; omega) rfl ?_
            simp (disch := first | omega | (simp <;> omega) | fail) [wrap_i64, wrap_u64, wrap_u8']
          rw [Classical.not_not] at c3
          have hbo := (hall c3).trans (find_occ hi')
          refine HT.draw [.batch [0, 1, 2, 3, 4, 5, 6, 7, 8, 9, 10, 11, 12, 13, 14, 15, 16, 17, 18, 19, 20, 21, 22, 23]] (by kernel_rfl) ?_   -- R25
          simp -dsimp (disch := first | omega | (simp <;> omega) | fail) [wrap_i64, wrap_u64, wrap_u8', c3]
          refine stepK.mk (.call1 _ _ _ rfl Ty.hb35 rfl rfl (In_find l[k].text t i hs9 hi')) ?_
          simp -dsimp (disch := first | omega | (simp <;> omega) | fail) [wrap_i64, wrap_u64, wrap_u8', c3]
          refine stepK.mk (.call1 _ _ _ rfl Ty.hb36 rfl rfl (occurs29_spec l[k].text t i hs9 (by omega) hi')) ?_
          simp -dsimp (disch := first | omega | (simp <;> omega) | fail) [wrap_i64, wrap_u64, wrap_u8', c3]
          refine stepK.mk (.call1 _ _ _ rfl Ty.hb35 rfl rfl (In_find l[k].text t i hs9 hi')) ?_
          simp -dsimp (disch := first | omega | (simp <;> omega) | fail) [wrap_i64, wrap_u64, wrap_u8', c3, hbo]
          refine HT.cond' ?_   -- if 139
          simp (disch := first | omega | (simp <;> omega) | fail) [wrap_i64, wrap_u64, wrap_u8']
          refine HT.skip ?_
          simp (disch := first | omega | (simp <;> omega) | fail) [wrap_i64, wrap_u64, wrap_u8']
          refine HT.region ?_   -- R18
          simp (disch := first | omega | (simp <;> omega) | fail) [wrap_i64, wrap_u64, wrap_u8']
          refine Round.mk' (⟨i + 1, by omega⟩) (by dsimp only; omega) rfl ?_
          simp (disch := first | omega | (simp <;> omega) | fail) [wrap_i64, wrap_u64, wrap_u8']
      · skip
        obtain rfl : i = l[k].text.length + 1 := by omega
        refine HT.exit ?_
        simp (disch := first | omega | (simp <;> omega) | fail) [wrap_i64, wrap_u64, wrap_u8']
        refine HT.seq ?_
        refine HT.draw [.batch [0, 1, 2, 3, 4, 5, 6, 7, 8]] (by kernel_rfl) ?_   -- R27
        simp (disch := first | omega | (simp <;> omega) | fail) [wrap_i64, wrap_u64, wrap_u8']
        refine stepK.mk (.call1 _ _ _ rfl Ty.hb38 rfl rfl (refOf_spec l[k].text (by omega))) ?_
        refine stepK.mk (.call1 _ _ _ rfl Ty.hb37 rfl rfl (Eval_doc n l[k] hb (by omega))) ?_
        refine HT.seq ?_
        refine HT.seq ?_
        refine HT.region ?_   -- R28
        simp (disch := first | omega | (simp <;> omega) | fail) [wrap_i64, wrap_u64, wrap_u8']
        refine stepK.mk (.call1f _ _ _ _ _ rfl Ty.hb35 rfl rfl (In_eval n hinc (by omega) hm) rfl) ?_
        simp (disch := first | omega | (simp <;> omega) | fail) [wrap_i64, wrap_u64, wrap_u8']
        refine HT.cond' ?_   -- if 156
        simp (disch := first | omega | (simp <;> omega) | fail) [wrap_i64, wrap_u64, wrap_u8']
        refine HT.skip ?_
        simp (disch := first | omega | (simp <;> omega) | fail) [wrap_i64, wrap_u64, wrap_u8']
        refine HT.seq ?_
        refine HT.region ?_   -- R30
        simp (disch := first | omega | (simp <;> omega) | fail) [wrap_i64, wrap_u64, wrap_u8']
        refine HT.cond' ?_   -- if 157
        simp (disch := first | omega | (simp <;> omega) | fail) [wrap_i64, wrap_u64, wrap_u8']
        refine ⟨fun h157 => ?_, fun h157 => ?_⟩
        · skip
          have hcv : hitB n l[k] = true := by simpa using h157
          refine HT.region ?_   -- R31
          simp (disch := first | omega | (simp <;> omega) | fail) [wrap_i64, wrap_u64, wrap_u8']
          refine HT.region ?_   -- R12
          simp (disch := first | omega | (simp <;> omega) | fail) [wrap_i64, wrap_u64, wrap_u8']
          refine Round.mk' (⟨k + 1, by omega⟩) (by dsimp only; omega) rfl ?_
          simp (disch := first | omega | (simp <;> omega) | fail) [wrap_i64, wrap_u64, wrap_u8', find29_snocL l t hk', evalR_snocH n hk']
          all_goals first | (simp only [hne, hcv]; simp; done) | (simp [hne, hcv]; done) | (simp [hne, hcv]; omega)
        · skip
          have hcv : hitB n l[k] = false := by simpa using h157
          refine HT.skip ?_
          simp (disch := first | omega | (simp <;> omega) | fail) [wrap_i64, wrap_u64, wrap_u8']
          refine HT.region ?_   -- R12
          simp (disch := first | omega | (simp <;> omega) | fail) [wrap_i64, wrap_u64, wrap_u8']
          refine Round.mk' (⟨k + 1, by omega⟩) (by dsimp only; omega) rfl ?_
          simp (disch := first | omega | (simp <;> omega) | fail) [wrap_i64, wrap_u64, wrap_u8', find29_snocL l t hk', evalR_snocH n hk']
          all_goals first | (simp only [hne, hcv]; simp; done) | (simp [hne, hcv]; done) | (simp [hne, hcv]; omega)
    · skip
      have hne : findV (foldS l[k].text) (foldS t) = [] := by first | exact h69 | simpa using h69 | (apply List.eq_nil_of_length_eq_zero; omega)
      refine HT.skip ?_
      simp (disch := first | omega | (simp <;> omega) | fail) [wrap_i64, wrap_u64, wrap_u8']
      refine HT.seq ?_
      refine HT.seq ?_
      refine HT.region ?_   -- R16
      simp (disch := first | omega | (simp <;> omega) | fail) [wrap_i64, wrap_u64, wrap_u8']
      refine HT.block ?_
      refine HT.loopK (fun i : {i : Nat // i ≤ l[k].text.length + 1} => [.s 15 (i64 i)]) [0, 1, 5, 7, 9, 10, 11, 12, 13, 14, 165, 166, 167, 168] [5, 7] (fun i => l[k].text.length + 1 - i) (⟨0, by omega⟩) ?_ ?_   -- block 2 turned [15, 91, 129, 130, 131, 132, 133, 134, 135, 136, 137, 138]
      · simp (disch := first | omega | (simp <;> omega) | fail) [wrap_i64, wrap_u64, wrap_u8']
      rintro ⟨i, hi⟩
      simp (disch := first | omega | (simp <;> omega) | fail) [wrap_i64, wrap_u64, wrap_u8']
      refine HT.seq ?_
      refine HT.seq ?_
      refine HT.region ?_   -- R17
      simp (disch := first | omega | (simp <;> omega) | fail) [wrap_i64, wrap_u64, wrap_u8']
      refine HT.cond' ?_   -- if 79
      simp (disch := first | omega | (simp <;> omega) | fail) [wrap_i64, wrap_u64, wrap_u8']
      refine ⟨fun h79 => ?_, fun h79 => ?_⟩
      · skip
        have hi' : i ≤ l[k].text.length := by omega
        have hs9 : l[k].text.length ≤ 900 := by omega
        refine HT.skip ?_
        simp (disch := first | omega | (simp <;> omega) | fail) [wrap_i64, wrap_u64, wrap_u8']
        refine HT.seq ?_
        refine HT.block ?_
        refine HT.seq ?_
        refine HT.region ?_   -- R19
        simp (disch := first | omega | (simp <;> omega) | fail) [wrap_i64, wrap_u64, wrap_u8']
        refine HT.seq ?_
        refine HT.seq ?_
        refine HT.region ?_   -- R20
        simp (disch := first | omega | (simp <;> omega) | fail) [wrap_i64, wrap_u64, wrap_u8']
        refine HT.block ?_
        refine HT.loopK (fun q : {q : Nat × Bool // q.1 ≤ t.length - 2 ∧ (q.2 = true ↔ 3 ≤ t.length ∧ ∀ p : Nat, p < q.1 → (i : Int) + p ∈ offV l[k].text (codeAt t p))} => [.s 17 (i64 q.1.1), .s 16 (bo q.1.2)]) [0, 1, 5, 7, 9, 10, 11, 12, 13, 14, 15, 129, 130, 131, 132, 133, 134, 135, 136, 137, 138, 165, 166, 167, 168] [5, 7] (fun q => t.length - q.1.1) (⟨(0, decide (3 ≤ t.length)), by simp, by simp⟩) ?_ ?_   -- block 4 turned [16, 17, 91]
        · simp (disch := first | omega | (simp <;> omega) | fail) [wrap_i64, wrap_u64, wrap_u8', show ((3 : Int) ≤ (t.length : Int) ↔ 3 ≤ t.length) from by omega]
        rintro ⟨⟨j, b⟩, hj, hgb⟩
        simp (disch := first | omega | (simp <;> omega) | fail) [wrap_i64, wrap_u64, wrap_u8']
        dsimp only at hj hgb
        refine HT.seq ?_
        refine HT.seq ?_
        by_cases e1 : ¬ j + 3 ≤ t.length
        · skip
          refine HT.region ?_   -- R21
          simp (disch := first | omega | (simp <;> omega) | fail) [wrap_i64, wrap_u64, wrap_u8', e1]
          refine HT.cond' ?_   -- if 92
          simp (disch := first | omega | (simp <;> omega) | fail) [wrap_i64, wrap_u64, wrap_u8']
          have hall := all_end (show l[k].text.length ≤ 900 by omega) hj hgb (by first | exact .inl e1 | exact .inr (by simpa using h92))
          clear e1
          refine HT.exit ?_
          simp (disch := first | omega | (simp <;> omega) | fail) [wrap_i64, wrap_u64, wrap_u8']
          refine HT.seq ?_
          by_cases c3 : ¬ 3 ≤ t.length
          · skip
            refine HT.draw [.batch [0, 1, 2, 3, 4, 5, 6, 7, 8, 9, 10, 11, 12, 13, 14, 15, 16, 17, 18, 19, 20, 21, 22, 23]] (by kernel_rfl) ?_   -- R25
            simp -dsimp (disch := first | omega | (simp <;> omega) | fail) [wrap_i64, wrap_u64, wrap_u8', c3]
            refine stepK.mk (.call1 _ _ _ rfl Ty.hb35 rfl rfl (In_find l[k].text t i hs9 hi')) ?_
            simp -dsimp (disch := first | omega | (simp <;> omega) | fail) [wrap_i64, wrap_u64, wrap_u8', c3]
            refine stepK.mk (.call1 _ _ _ rfl Ty.hb36 rfl rfl (occurs29_spec l[k].text t i hs9 (by omega) hi')) ?_
            simp -dsimp (disch := first | omega | (simp <;> omega) | fail) [wrap_i64, wrap_u64, wrap_u8', c3]
            refine HT.cond' ?_   -- if 139
            simp (disch := first | omega | (simp <;> omega) | fail) [wrap_i64, wrap_u64, wrap_u8']
            refine HT.skip ?_
            simp (disch := first | omega | (simp <;> omega) | fail) [wrap_i64, wrap_u64, wrap_u8']
            refine HT.region ?_   -- R18
            simp (disch := first | omega | (simp <;> omega) | fail) [wrap_i64, wrap_u64, wrap_u8']
            refine Round.mk' (⟨i + 1, by omega⟩) (by dsimp only; omega) rfl ?_
            simp (disch := first | omega | (simp <;> omega) | fail) [wrap_i64, wrap_u64, wrap_u8']
          rw [Classical.not_not] at c3
          have hbo := (hall c3).trans (find_occ hi')
          refine HT.draw [.batch [0, 1, 2, 3, 4, 5, 6, 7, 8, 9, 10, 11, 12, 13, 14, 15, 16, 17, 18, 19, 20, 21, 22, 23]] (by kernel_rfl) ?_   -- R25
          simp -dsimp (disch := first | omega | (simp <;> omega) | fail) [wrap_i64, wrap_u64, wrap_u8', c3]
          refine stepK.mk (.call1 _ _ _ rfl Ty.hb35 rfl rfl (In_find l[k].text t i hs9 hi')) ?_
          simp -dsimp (disch := first | omega | (simp <;> omega) | fail) [wrap_i64, wrap_u64, wrap_u8', c3]
          refine stepK.mk (.call1 _ _ _ rfl Ty.hb36 rfl rfl (occurs29_spec l[k].text t i hs9 (by omega) hi')) ?_
          simp -dsimp (disch := first | omega | (simp <;> omega) | fail) [wrap_i64, wrap_u64, wrap_u8', c3]
          refine stepK.mk (.call1 _ _ _ rfl Ty.hb35 rfl rfl (In_find l[k].text t i hs9 hi')) ?_
          simp -dsimp (disch := first | omega | (simp <;> omega) | fail) [wrap_i64, wrap_u64, wrap_u8', c3, hbo]
          refine HT.cond' ?_   -- if 139
          simp (disch := first | omega | (simp <;> omega) | fail) [wrap_i64, wrap_u64, wrap_u8']
          refine HT.skip ?_
          simp (disch := first | omega | (simp <;> omega) | fail) [wrap_i64, wrap_u64, wrap_u8']
          refine HT.region ?_   -- R18
          simp (disch := first | omega | (simp <;> omega) | fail) [wrap_i64, wrap_u64, wrap_u8']
          refine Round.mk' (⟨i + 1, by omega⟩) (by dsimp only; omega) rfl ?_
          simp (disch := first | omega | (simp <;> omega) | fail) [wrap_i64, wrap_u64, wrap_u8']
        rw [Classical.not_not] at e1
        refine HT.region ?_   -- R21
        simp (disch := first | omega | (simp <;> omega) | fail) [wrap_i64, wrap_u64, wrap_u8', e1]
        refine HT.cond' ?_   -- if 92
        simp (disch := first | omega | (simp <;> omega) | fail) [wrap_i64, wrap_u64, wrap_u8']
        refine ⟨fun h92 => ?_, fun h92 => ?_⟩
        · skip
          have hbt : b = true := by simpa using h92
          have hcu := codeV_cut e1
          have hcu3 := cut3_length e1
          refine HT.skip ?_
          simp (disch := first | omega | (simp <;> omega) | fail) [wrap_i64, wrap_u64, wrap_u8']
          refine HT.seq ?_
          refine HT.block ?_
          refine HT.seq ?_
          refine HT.region ?_   -- R23
          simp (disch := first | omega | (simp <;> omega) | fail) [wrap_i64, wrap_u64, wrap_u8', hcu, hcu3]
          refine stepK.mk (.callTf _ _ _ _ _ rfl Ty.hb34 rfl rfl (refCode_spec (List.drop j (List.take (j + 3) t)) (by simp; omega)) rfl) ?_
          simp (disch := first | omega | (simp <;> omega) | fail) [wrap_i64, wrap_u64, wrap_u8', hcu, hcu3]
          refine HT.draw [.batch [0, 1, 2, 3, 4, 5, 6, 7, 8, 9, 10, 11, 12]] (by kernel_rfl) ?_   -- R24
          simp (disch := first | omega | (simp <;> omega) | fail) [wrap_i64, wrap_u64, wrap_u8']
          refine stepK.mk (.call1 _ _ _ rfl Ty.hb25 rfl rfl (At_doc hinc hT hm (codeAt t j))) ?_
          simp (disch := first | omega | (simp <;> omega) | fail) [wrap_i64, wrap_u64, wrap_u8']
          refine stepK.mk (.call1 _ _ _ rfl Ty.hb35 rfl rfl (In_spec false (offV l[k].text (codeAt t j)) ((i : Int) + j) (by have := offV_len' l[k].text (codeAt t j); omega))) ?_
          simp (disch := first | omega | (simp <;> omega) | fail) [wrap_i64, wrap_u64, wrap_u8']
          refine HT.region ?_   -- R22
          simp (disch := first | omega | (simp <;> omega) | fail) [wrap_i64, wrap_u64, wrap_u8']
          refine Round.mk' (⟨(j + 1, decide ((i : Int) + j ∈ offV l[k].text (codeAt t j))), by show j + 1 ≤ t.length - 2; omega, all_more (hgb.1 hbt)⟩) (by dsimp only; omega) rfl ?_
          simp (disch := first | omega | (simp <;> omega) | fail) [wrap_i64, wrap_u64, wrap_u8']
        · skip
          have hall := all_end (show l[k].text.length ≤ 900 by omega) hj hgb (by first | exact .inl e1 | exact .inr (by simpa using h92))
          clear e1
          refine HT.exit ?_
          simp (disch := first | omega | (simp <;> omega) | fail) [wrap_i64, wrap_u64, wrap_u8']
          refine HT.seq ?_
          by_cases c3 : ¬ 3 ≤ t.length
          · skip
            refine HT.draw [.batch [0, 1, 2, 3, 4, 5, 6, 7, 8, 9, 10, 11, 12, 13, 14, 15, 16, 17, 18, 19, 20, 21, 22, 23]] (by kernel_rfl) ?_   -- R25
            simp -dsimp (disch := first | omega | (simp <;> omega) | fail) [wrap_i64, wrap_u64, wrap_u8', c3]
            refine stepK.mk (.call1 _ _ _ rfl Ty.hb35 rfl rfl (In_find l[k].text t i hs9 hi')) ?_
            simp -dsimp (disch := first | omega | (simp <;> omega) | fail) [wrap_i64, wrap_u64, wrap_u8', c3]
            refine stepK.mk (.call1 _ _ _ rfl Ty.hb36 rfl rfl (occurs29_spec l[k].text t i hs9 (by omega) hi')) ?_
            simp -dsimp (disch := first | omega | (simp <;> omega) | fail) [wrap_i64, wrap_u64, wrap_u8', c3]
            refine HT.cond' ?_   -- if 139
            simp (disch := first | omega | (simp <;> omega) | fail) [wrap_i64, wrap_u64, wrap_u8']
            refine HT.skip ?_
            simp (disch := first | omega | (simp <;> omega) | fail) [wrap_i64, wrap_u64, wrap_u8']
            refine HT.region ?_   -- R18
            simp (disch := first | omega | (simp <;> omega) | fail) [wrap_i64, wrap_u64, wrap_u8']
            refine Round.mk' (⟨i + 1, by omega⟩) (by dsimp only; omega) rfl ?_
            simp (disch := first | omega | (simp <;> omega) | fail) [wrap_i64, wrap_u64, wrap_u8']
          rw [Classical.not_not] at c3
          have hbo := (hall c3).trans (find_occ hi')
          refine HT.draw [.batch [0, 1, 2, 3, 4, 5, 6, 7, 8, 9, 10, 11, 12, 13, 14, 15, 16, 17, 18, 19, 20, 21, 22, 23]] (by kernel_rfl) ?_   -- R25
          simp -dsimp (disch := first | omega | (simp <;> omega) | fail) [wrap_i64, wrap_u64, wrap_u8', c3]
          refine stepK.mk (.call1 _ _ _ rfl Ty.hb35 rfl rfl (In_find l[k].text t i hs9 hi')) ?_
          simp -dsimp (disch := first | omega | (simp <;> omega) | fail) [wrap_i64, wrap_u64, wrap_u8', c3]
          refine stepK.mk (.call1 _ _ _ rfl Ty.hb36 rfl rfl (occurs29_spec l[k].text t i hs9 (by omega) hi')) ?_
          simp -dsimp (disch := first | omega | (simp <;> omega) | fail) [wrap_i64, wrap_u64, wrap_u8', c3]
          refine stepK.mk (.call1 _ _ _ rfl Ty.hb35 rfl rfl (In_find l[k].text t i hs9 hi')) ?_
          simp -dsimp (disch := first | omega | (simp <;> omega) | fail) [wrap_i64, wrap_u64, wrap_u8', c3, hbo]
          refine HT.cond' ?_   -- if 139
          simp (disch := first | omega | (simp <;> omega) | fail) [wrap_i64, wrap_u64, wrap_u8']
          refine HT.skip ?_
          simp (disch := first | omega | (simp <;> omega) | fail) [wrap_i64, wrap_u64, wrap_u8']
          refine HT.region ?_   -- R18
          simp (disch := first | omega | (simp <;> omega) | fail) [wrap_i64, wrap_u64, wrap_u8']
          refine Round.mk' (⟨i + 1, by omega⟩) (by dsimp only; omega) rfl ?_
          simp (disch := first | omega | (simp <;> omega) | fail) [wrap_i64, wrap_u64, wrap_u8']
      · skip
        obtain rfl : i = l[k].text.length + 1 := by omega
        refine HT.exit ?_
        simp (disch := first | omega | (simp <;> omega) | fail) [wrap_i64, wrap_u64, wrap_u8']
        refine HT.seq ?_
        refine HT.draw [.batch [0, 1, 2, 3, 4, 5, 6, 7, 8]] (by kernel_rfl) ?_   -- R27
        simp (disch := first | omega | (simp <;> omega) | fail) [wrap_i64, wrap_u64, wrap_u8']
        refine stepK.mk (.call1 _ _ _ rfl Ty.hb38 rfl rfl (refOf_spec l[k].text (by omega))) ?_
        refine stepK.mk (.call1 _ _ _ rfl Ty.hb37 rfl rfl (Eval_doc n l[k] hb (by omega))) ?_
        refine HT.seq ?_
        refine HT.seq ?_
        refine HT.region ?_   -- R28
        simp (disch := first | omega | (simp <;> omega) | fail) [wrap_i64, wrap_u64, wrap_u8']
        refine stepK.mk (.call1f _ _ _ _ _ rfl Ty.hb35 rfl rfl (In_eval n hinc (by omega) hm) rfl) ?_
        simp (disch := first | omega | (simp <;> omega) | fail) [wrap_i64, wrap_u64, wrap_u8']
        refine HT.cond' ?_   -- if 156
        simp (disch := first | omega | (simp <;> omega) | fail) [wrap_i64, wrap_u64, wrap_u8']
        refine HT.skip ?_
        simp (disch := first | omega | (simp <;> omega) | fail) [wrap_i64, wrap_u64, wrap_u8']
        refine HT.seq ?_
        refine HT.region ?_   -- R30
        simp (disch := first | omega | (simp <;> omega) | fail) [wrap_i64, wrap_u64, wrap_u8']
        refine HT.cond' ?_   -- if 157
        simp (disch := first | omega | (simp <;> omega) | fail) [wrap_i64, wrap_u64, wrap_u8']
        refine ⟨fun h157 => ?_, fun h157 => ?_⟩
        · skip
          have hcv : hitB n l[k] = true := by simpa using h157
          refine HT.region ?_   -- R31
          simp (disch := first | omega | (simp <;> omega) | fail) [wrap_i64, wrap_u64, wrap_u8']
          refine HT.region ?_   -- R12
          simp (disch := first | omega | (simp <;> omega) | fail) [wrap_i64, wrap_u64, wrap_u8']
          refine Round.mk' (⟨k + 1, by omega⟩) (by dsimp only; omega) rfl ?_
          simp (disch := first | omega | (simp <;> omega) | fail) [wrap_i64, wrap_u64, wrap_u8', find29_snocL l t hk', evalR_snocH n hk']
          all_goals first | (simp only [hne, hcv]; simp; done) | (simp [hne, hcv]; done) | (simp [hne, hcv]; omega)
        · skip
          have hcv : hitB n l[k] = false := by simpa using h157
          refine HT.skip ?_
          simp (disch := first | omega | (simp <;> omega) | fail) [wrap_i64, wrap_u64, wrap_u8']
          refine HT.region ?_   -- R12
          simp (disch := first | omega | (simp <;> omega) | fail) [wrap_i64, wrap_u64, wrap_u8']
          refine Round.mk' (⟨k + 1, by omega⟩) (by dsimp only; omega) rfl ?_
          simp (disch := first | omega | (simp <;> omega) | fail) [wrap_i64, wrap_u64, wrap_u8', find29_snocL l t hk', evalR_snocH n hk']
          all_goals first | (simp only [hne, hcv]; simp; done) | (simp [hne, hcv]; done) | (simp [hne, hcv]; omega)
  · skip
    obtain rfl : k = l.length := by omega
    refine HT.exit ?_
    simp (disch := first | omega | (simp <;> omega) | fail) [wrap_i64, wrap_u64, wrap_u8']
    refine HT.seq ?_
    refine HT.region ?_   -- R32
    simp (disch := first | omega | (simp <;> omega) | fail) [wrap_i64, wrap_u64, wrap_u8']
    refine HT.ret ?_
    simp (disch := first | omega | (simp <;> omega) | fail) [wrap_i64, wrap_u64, wrap_u8']
end Go.Hv
set_option linter.unusedVariables false
set_option linter.unusedSectionVars false
set_option linter.unusedSimpArgs false
namespace Go.Hv
open Go Go.Hv
variable [GI]
/-! ### Documents and segments that are handed in -/
@[reducible] def strsShF : ShT := .sl 1 .str
@[reducible] def docShF : ShT := .st [.int .i64, .str, .str, .str, strsShF]
@[reducible] def docsShF : ShT := .sl 5 docShF
@[reducible] def postShF : ShT := .st [.int .i64, gramsSh]
@[reducible] def segShF : ShT := .st [docsShF, .sl 2 postShF]
@[reducible] def segsShF : ShT := .sl 2 segShF
def DocF (B : Nat) (d : Doc) : Prop := d.repo.length ≤ B ∧ d.path.length ≤ B ∧ d.text.length ≤ B ∧ d.on.length ≤ B ∧ ∀ s ∈ d.on, s.length ≤ B
theorem rdF_strs {B : Nat} {x : List HV} (h : RdF B strsShF x) : ∃ l, x = [.sl 1 false (strsHV l)] ∧ l.length ≤ B ∧ ∀ s ∈ l, s.length ≤ B := by
  cases h with
  | sl sz e es hl hz h =>
    obtain ⟨on, rfl, hon⟩ := map_choiceF (f := fun s => [HV.str s]) (p := fun s => s.length ≤ B) (fun x hx => rdF_str (h x hx))
    exact ⟨on, rfl, by simpa using hl, hon⟩
theorem rdF_doc {B : Nat} {x : List HV} (h : RdF B docShF x) : ∃ d : Doc, x = d.enc ∧ DocF B d := by
  cases h with
  | st fs hs h =>
    cases h with
    | cons h1 h =>
    cases h with
    | cons h2 h =>
    cases h with
    | cons h3 h =>
    cases h with
    | cons h4 h =>
    cases h with
    | cons h5 h =>
    cases h
    obtain ⟨n, rfl, hn⟩ := rdF_int h1
    obtain ⟨r, rfl, hr⟩ := rdF_str h2
    obtain ⟨p, rfl, hp⟩ := rdF_str h3
    obtain ⟨t, rfl, ht⟩ := rdF_str h4
    obtain ⟨on, rfl, ho, hos⟩ := rdF_strs h5
    exact ⟨⟨n, r, p, t, on⟩, rfl, hr, hp, ht, ho, hos⟩
theorem rdF_docs {B : Nat} {x : List HV} (h : RdF B docsShF x) : ∃ l : List Doc, x = [.sl 5 false (docsHV l)] ∧ l.length ≤ B ∧ ∀ d ∈ l, DocF B d := by
  cases h with
  | sl sz e es hl hz h =>
    obtain ⟨l, rfl, hb⟩ := map_choiceF (f := Doc.enc) (p := DocF B) (fun x hx => rdF_doc (h x hx))
    exact ⟨l, rfl, by simpa using hl, hb⟩
theorem docs_of_trodW {H : Type} {enc : TypeId × Value → H} {P : Program} {w : World} {sp : Nat → Bool} {held : Bool} {t : TypeId} {a : Option Addr} {n c : Nat} {d : DataW H} {ps : List MemPlace} {B : Nat} (hk : shOKW P docsShF t = true)
    (h : DataW.Trod enc P w 0 sp held t (.slice a n c) d ps) (hB : ∀ n ∈ d.weights P t, n ≤ B) : ∃ l : List Doc, IRep w (fun _ => False) (.sl 5 false (docsHV l)) (.slice a n c) ∧ l.length ≤ B ∧ ∀ d ∈ l, DocF B d := by
  obtain ⟨hs, h1, h2⟩ := arg_of_trodW docsShF hk h hB
  obtain ⟨l, rfl, hl, hg⟩ := rdF_docs h1
  exact ⟨l, repsF_one h2, hl, hg⟩
end Go.Hv
set_option linter.unusedVariables false
set_option linter.unusedSectionVars false
set_option linter.unusedSimpArgs false
namespace Go.Hv
open Go Go.Hv
variable [GI]
/-! ### A segment and a condition that are handed in -/
theorem reps_at {w : World} {dead : Nat → Prop} {hs : List HV} {us : List Value} (h : Reps w dead hs us) : us.length = hs.length ∧ ∀ (j : Nat) (c : HV) (v : Value), hs[j]? = some c → us[j]? = some v → IRep w dead c v := by
  induction h with
  | nil => exact ⟨rfl, by simp⟩
  | cons a b ih =>
    refine ⟨by simp [ih.1], fun j c v h1 h2 => ?_⟩
    cases j with
    | zero => simp at h1 h2; subst h1; subst h2; exact a
    | succ j => exact ih.2 j c v (by simpa using h1) (by simpa using h2)
theorem agg_of_reps {w : World} {dead : Nat → Prop} {hs : List HV} {v : Value} (hl : hs.length ≠ 1) (h : Reps w dead hs v.cells.toList) : IRep w dead (.agg hs) v := by
  obtain ⟨h1, h2⟩ := reps_at h
  cases v with
  | agg vs => exact .agg (by simpa [Value.cells] using h1) (fun j c v hc hv => h2 j c v hc (by simpa [Value.cells] using hv))
  | _ => exact absurd h1.symm (by simpa [Value.cells] using hl)
theorem needV_of_trodW {H : Type} {enc : TypeId × Value → H} {P : Program} {w : World} {sp : Nat → Bool} {held : Bool} {t : TypeId} {v : Value} {d : DataW H} {ps : List MemPlace} {B : Nat} (hk : needTy P t = true)
    (h : DataW.Trod enc P w 0 sp held t v d ps) (hB : ∀ n ∈ d.weights P t, n ≤ B) : ∃ n : NeedT, IRep w (fun _ => False) (.agg n.enc) v ∧ NeedB B n := by
  obtain ⟨fuel, hf⟩ := h
  obtain ⟨hs, ⟨n, rfl, hn⟩, h2, _⟩ := need_of_trodW hk fuel _ _ hf hB
  exact ⟨n, agg_of_reps (by cases n; simp [NeedT.enc]) h2, hn⟩
end Go.Hv
set_option linter.unusedVariables false
set_option linter.unusedSimpArgs false
/- The laws of layer 29, in the form in which their rows ask for them. -/
namespace Go.Hv
open Go Go.Hv Go.Proofs Go.RowKit
open Go.Proofs.YtlbmbnpknobjdaaGreatDoor
theorem needC_enc (n : NeedT) : needC n = n.enc := by cases n; rfl
theorem exactR (l : List Doc) (t : List UInt8) (n : NeedT) (g : l.length ≤ 140737488355328 ∧ ∀ d ∈ l, DocF 140737488355328 d) (h : t.length ≤ 140737488355328) (k : NeedB 140737488355328 n) : Spec1 Tryz.prog 7 [.sl 5 false (docsHV l), .str t, .agg n.enc] (bo true) := by
  rw [← needC_enc]; exact exact_spec l t n g h k
theorem partsR (l : List Doc) (t : List UInt8) (g : l.length ≤ 140737488355328 ∧ ∀ d ∈ l, DocF 140737488355328 d) (h : t.length ≤ 140737488355328) : Spec1 Tryz.prog 9 [.sl 5 false (docsHV l), .str t] (bo true) := parts_spec l t g h
end Go.Hv
set_option linter.unusedVariables false
/- What the laws of this seat lean on besides their arguments: out of the world's shape; the wrap of a listed row, the shape kept. -/
namespace Go.Hv
open Go Go.Proofs
open Go.Proofs.YtlbmbnpknobjdaaGreatDoor
theorem gok {w : World} (h : w.ShapedOpen Tryz.prog) : GI.G w :=
  Go.Proofs.cell_of_shapedOpen_int (g := 0) (zero := #[.int .i64 0]) (t := 3) h (of_decide_eq_true (by kernel_rfl)) (by kernel_rfl) rfl (by kernel_rfl) (by kernel_rfl) Tryz.underlying3
end Go.Hv
namespace Go
variable {H : Type} {enc : TypeId × Value → H}
theorem returnsInHanded_and_shaped {a : Assume} {C : Checked} {os : Os} {f : FuncId} {fn : Func} {s : ChangeSpec} {conds : List PathCond} {apart fresh handsOn again : Bool} {X : World → Array Value → Prop}
    (hX : ∀ (w w' : World) (args : Array Value), w.heap = w'.heap → X w args → X w' args)
    (own : ownKnob C.prog.godebug = none) (started : os.Started) (noInit : C.prog.inits.idxOf? f = none) (hfn : C.prog.funcs[f]? = some fn)
    (witness : ∃ (w : World) (tape : Tape) (i : Input), w.os = os ∧ (w.forCall tape i).Shaped C.prog ∧ i.vars = [] ∧ Input.okWide C.prog (w.forCall tape i) .any w.heap.size f i ∧
      ((s.pre enc C.prog fn conds apart (w.forCall tape i).memory i.args ∧ X (w.forCall tape i).memory i.args) ∧ sizedMet enc C.prog fn (OpenSpec.ofChange s) apart (w.forCall tape i).memory i.args) ∧ a.holds C.prog (lone (Frame.enter C.prog f i.args .normal) [] (w.forCall tape i)))
    (contract : ∀ (W : World) (base : Nat) (args : Array Value) (ds gs : List (DataW H)) (before : List MemPlace),
      (∀ (j : Nat) t v, fn.params[j]? = some t → args[j]? = some v → Value.okWide C.prog W .any base t v) →
      DataW.Whole enc C.prog fn.params.toList s.vars apart W args.toList ds gs before →
      conds.all (PathCond.test C.prog ⟨fn.params.toList, ds, s.plain.varTypes C.prog, gs⟩) = true →
      (DataW.weightsEach C.prog (fn.params.toList ++ s.plain.varTypes C.prog) (ds ++ gs)).all (· ≤ reachBytes) = true → X W args → W.ShapedOpen C.prog →
      a.holds C.prog (lone (Frame.enter C.prog f args .normal) [] W) →
      Calls C.prog f args W fun e W' => ∃ v, e = .returned v ∧ s.post enc C.prog fn apart fresh handsOn again W args v W') :
    ReturnsInHanded a C os f .any (fun w args => (s.pre enc C.prog fn conds apart w args ∧ X w args) ∧ sizedMet enc C.prog fn (OpenSpec.ofChange s) apart w args) (s.post enc C.prog fn apart fresh handsOn again) := by
  refine returnsInHanded_of_calls own started noInit witness ?_
  intro w tape i _ hsh _ hok hpre hholds
  obtain ⟨_, _, _, fn', hfn', _, _, _, _, hval⟩ := hok
  have e : fn' = fn := Option.some.inj (hfn'.symm.trans hfn)
  subst e
  obtain ⟨⟨⟨ds, gs, before, hw, hc⟩, hx⟩, hz⟩ := hpre
  have hw' := DataW.Whole.of_heap (w' := w.forCall tape i) (by rfl) hw
  refine (contract (w.forCall tape i) w.heap.size i.args ds gs before hval hw' hc (hz.weights hw) (hX _ _ _ (by rfl) hx) hsh hholds).mono fun e W' ⟨v, he, hp⟩ => ?_
  subst he
  exact ChangeSpec.post_blind hp
end Go
