import Derived.Test.YtlbmbnpknobjdaaGreatDoorWX4
set_option linter.unusedVariables false
set_option linter.unusedSimpArgs false
/- Conditions: whether one is valid, whether it holds, its nodes (layer 10). -/
namespace Go.Hv
open Go Go.Hv Go.Proofs Go.RowKit
open Go.Proofs.YtlbmbnpknobjdaaGreatDoor
@[reducible] def needC (x : NeedT) : List HV := [i64 x.kind, i64 x.gram, .sl 3 false (needsHV x.subs)]
theorem validN_eq (n : NeedT) (lv : Int) : validN n lv = (decide (lv ≤ 40) && (if n.kind = 1 ∨ n.kind = 2 then decide (n.gram = 0 ∧ n.subs.length = 0) else if n.kind = 3 then decide (0 ≤ n.gram ∧ n.gram < 16777216 ∧ n.subs.length = 0) else if n.kind = 4 ∨ n.kind = 5 then decide (n.gram = 0 ∧ 2 ≤ n.subs.length) && validsN n.subs (lv + 1) else false)) := by
  cases n; rw [validN]; rfl
theorem holdsN_eq (n : NeedT) (codes : List Int) : holdsN n codes = (if n.kind = 1 then true else if n.kind = 2 then false else if n.kind = 3 then decide (n.gram ∈ codes) else holdL (decide (n.kind = 5)) (decide (n.kind = 4)) n.subs codes) := by
  cases n; rw [holdsN]; rfl
theorem nodesN_eq (n : NeedT) (lim : Int) : nodesN n lim = nodesL n.subs 1 lim := by cases n; rw [nodesN]; rfl
theorem nodesL_drop {l : List NeedT} {i : Nat} {c lim : Int} (hi : i < l.length) (hc : c ≤ lim) : nodesL (l.drop i) c lim = nodesL (l.drop (i + 1)) (c + nodesN l[i] (lim - c)) lim := by
  rw [List.drop_eq_getElem_cons hi, nodesL, if_pos hc]
theorem nodesL_end {l : List NeedT} {i : Nat} {c lim : Int} (h : ¬ i < l.length ∨ ¬ c ≤ lim) : nodesL (l.drop i) c lim = c := by
  rcases h with h | h
  · rw [List.drop_eq_nil_of_le (by omega), nodesL]
  · cases hd : l.drop i with
    | nil => rw [nodesL]
    | cons x r => rw [nodesL, if_neg h]
set_option maxHeartbeats 1000000 in
theorem nodes_of (n : NeedT) (lim : Int) (hs : n.subs.length ≤ 140737488355328) (h0 : -1 ≤ lim) (hl : lim ≤ 1000000) (ih : ∀ x ∈ n.subs, ∀ m : Int, -1 ≤ m → m ≤ 1000000 → Spec1 Tryz.prog 27 [.agg (needC x), i64 m] (i64 (nodesN x m))) : Spec1 Tryz.prog 27 [.agg (needC n), i64 lim] (i64 (nodesN n lim)) := by
  refine Spec1.of_HT Tryz.func27 rfl (by rw [Tryz.ntmps27]; simp) rfl ?_
  rw [Tryz.ntmps27]
  refine HT.seq ?_
  refine HT.region ?_   -- R0
  simp (disch := first | omega | (simp <;> omega) | fail) [wrap_i64, wrap_u64, wrap_u8', NeedT.enc_eq]
  refine HT.seq ?_
  refine HT.region ?_   -- R1
  simp (disch := first | omega | (simp <;> omega) | fail) [wrap_i64, wrap_u64, wrap_u8', NeedT.enc_eq]
  refine HT.seq ?_
  refine HT.seq ?_
  refine HT.region ?_   -- R2
  simp (disch := first | omega | (simp <;> omega) | fail) [wrap_i64, wrap_u64, wrap_u8', NeedT.enc_eq]
  refine HT.block ?_
  refine HT.loopK (fun k : {k : Nat × Int // k.1 ≤ n.subs.length ∧ 1 ≤ k.2 ∧ (k.2 = 1 ∨ k.2 ≤ lim + 1) ∧ nodesL (n.subs.drop k.1) k.2 lim = nodesN n lim} => [.s 6 (i64 k.1.1), .s 5 (i64 k.1.2)]) [1, 2] [2] (fun k => n.subs.length - k.1.1) (⟨⟨0, 1⟩, by simp, by simp, by simp, by rw [nodesN_eq]; rfl⟩) ?_ ?_   -- block 0 turned [5, 6, 13, 14, 15]
  · simp (disch := first | omega | (simp <;> omega) | fail) [wrap_i64, wrap_u64, wrap_u8', NeedT.enc_eq]
  rintro ⟨⟨i, c⟩, hi, hc1, hc2, hc⟩
  simp (disch := first | omega | (simp <;> omega) | fail) [wrap_i64, wrap_u64, wrap_u8', NeedT.enc_eq]
  dsimp only at hi hc1 hc2 hc
  refine HT.seq ?_
  refine HT.seq ?_
  by_cases a1 : ¬ i < n.subs.length
  · skip
    refine HT.region ?_   -- R3
    simp (disch := first | omega | (simp <;> omega) | fail) [wrap_i64, wrap_u64, wrap_u8', NeedT.enc_eq]
    refine HT.cond' ?_   -- if 16
    simp (disch := first | omega | (simp <;> omega) | fail) [wrap_i64, wrap_u64, wrap_u8', NeedT.enc_eq]
    have hend : nodesN n lim = c := by rw [← hc]; exact nodesL_end (by first | exact .inl a1 | exact .inr a2)
    refine HT.exit ?_
    simp (disch := first | omega | (simp <;> omega) | fail) [wrap_i64, wrap_u64, wrap_u8', NeedT.enc_eq]
    refine HT.seq ?_
    refine HT.region ?_   -- R6
    simp (disch := first | omega | (simp <;> omega) | fail) [wrap_i64, wrap_u64, wrap_u8', NeedT.enc_eq]
    refine HT.ret ?_
    simp (disch := first | omega | (simp <;> omega) | fail) [wrap_i64, wrap_u64, wrap_u8', NeedT.enc_eq, hend]
  rw [Classical.not_not] at a1
  by_cases a2 : ¬ c ≤ lim
  · skip
    refine HT.region ?_   -- R3
    simp (disch := first | omega | (simp <;> omega) | fail) [wrap_i64, wrap_u64, wrap_u8', NeedT.enc_eq]
    refine HT.cond' ?_   -- if 16
    simp (disch := first | omega | (simp <;> omega) | fail) [wrap_i64, wrap_u64, wrap_u8', NeedT.enc_eq]
    have hend : nodesN n lim = c := by rw [← hc]; exact nodesL_end (by first | exact .inl a1 | exact .inr a2)
    refine HT.exit ?_
    simp (disch := first | omega | (simp <;> omega) | fail) [wrap_i64, wrap_u64, wrap_u8', NeedT.enc_eq]
    refine HT.seq ?_
    refine HT.region ?_   -- R6
    simp (disch := first | omega | (simp <;> omega) | fail) [wrap_i64, wrap_u64, wrap_u8', NeedT.enc_eq]
    refine HT.ret ?_
    simp (disch := first | omega | (simp <;> omega) | fail) [wrap_i64, wrap_u64, wrap_u8', NeedT.enc_eq, hend]
  rw [Classical.not_not] at a2
  have hn := nodesN_le n.subs[i] (lim - c)
  refine HT.region ?_   -- R3
  simp (disch := first | omega | (simp <;> omega) | fail) [wrap_i64, wrap_u64, wrap_u8', NeedT.enc_eq]
  refine HT.cond' ?_   -- if 16
  simp (disch := first | omega | (simp <;> omega) | fail) [wrap_i64, wrap_u64, wrap_u8', NeedT.enc_eq]
  refine HT.skip ?_
  simp (disch := first | omega | (simp <;> omega) | fail) [wrap_i64, wrap_u64, wrap_u8', NeedT.enc_eq]
  refine HT.seq ?_
  refine HT.block ?_
  refine HT.region ?_   -- R5
  simp (disch := first | omega | (simp <;> omega) | fail) [wrap_i64, wrap_u64, wrap_u8', NeedT.enc_eq]
  refine stepK.mk (.call1 _ _ _ _ rfl Ty.hb27 rfl (ih n.subs[i] (List.getElem_mem a1) (lim - c) (by omega) (by omega)) rfl rfl) ?_
  simp (disch := first | omega | (simp <;> omega) | fail) [wrap_i64, wrap_u64, wrap_u8', NeedT.enc_eq]
  refine HT.region ?_   -- R4
  simp (disch := first | omega | (simp <;> omega) | fail) [wrap_i64, wrap_u64, wrap_u8', NeedT.enc_eq]
  refine Round.mk' (⟨⟨i + 1, c + nodesN n.subs[i] (lim - c)⟩, by dsimp only; omega, by dsimp only; omega, by dsimp only; omega, by dsimp only; rw [← nodesL_drop a1 a2]; exact hc⟩) (by dsimp only; omega) rfl ?_
  simp (disch := first | omega | (simp <;> omega) | fail) [wrap_i64, wrap_u64, wrap_u8', NeedT.enc_eq]
theorem needInd' {p : NeedT → Prop} (h : ∀ n : NeedT, (∀ x ∈ n.subs, p x) → p n) (n : NeedT) : p n := needInd (fun k g s ih => h (.mk k g s) ih) n
theorem Nodes_spec (n : NeedT) : NeedB 140737488355328 n → ∀ lim : Int, -1 ≤ lim → lim ≤ 1000000 → Spec1 Tryz.prog 27 [.agg (needC n), i64 lim] (i64 (nodesN n lim)) := by
  refine needInd' (p := fun n => NeedB 140737488355328 n → ∀ lim : Int, -1 ≤ lim → lim ≤ 1000000 → Spec1 Tryz.prog 27 [.agg (needC n), i64 lim] (i64 (nodesN n lim))) (fun n ih hb lim h0 hl => ?_) n
  exact nodes_of n lim hb.len h0 hl fun x hx m h0 hl => ih x hx (hb.sub hx) m h0 hl
theorem valid_no {n : NeedT} {lv : Int} (h : 40 < lv ∨ (n.kind ≠ 3 ∧ n.gram ≠ 0) ∨ n.gram < 0 ∨ 16777216 ≤ n.gram) : validN n lv = false := by
  rw [validN_eq]
  rcases h with h | h | h | h
  · simp [show ¬ lv ≤ 40 by omega]
  · by_cases h1 : n.kind = 1 ∨ n.kind = 2
    · rw [if_pos h1]; simp [h.2]
    · rw [if_neg h1, if_neg h.1]; simp [h.2]
  · by_cases h1 : n.kind = 1 ∨ n.kind = 2
    · rw [if_pos h1]; simp [show ¬ n.gram = 0 by omega]
    · rw [if_neg h1]
      by_cases h3 : n.kind = 3
      · rw [if_pos h3]; simp [show ¬ 0 ≤ n.gram by omega]
      · rw [if_neg h3]; simp [show ¬ n.gram = 0 by omega]
  · by_cases h1 : n.kind = 1 ∨ n.kind = 2
    · rw [if_pos h1]; simp [show ¬ n.gram = 0 by omega]
    · rw [if_neg h1]
      by_cases h3 : n.kind = 3
      · rw [if_pos h3]; simp [show ¬ n.gram < 16777216 by omega]
      · rw [if_neg h3]; simp [show ¬ n.gram = 0 by omega]
theorem valid_leaf {n : NeedT} {lv : Int} (h1 : lv ≤ 40) (h2 : n.kind = 3 ∨ n.gram = 0) (h3 : 0 ≤ n.gram) (h4 : n.gram < 16777216) (hk : n.kind = 1 ∨ n.kind = 2 ∨ n.kind = 3) : validN n lv = decide (n.subs.length = 0) := by
  rw [validN_eq]
  by_cases k1 : n.kind = 1 ∨ n.kind = 2
  · have hg : n.gram = 0 := by rcases h2 with h | h; omega; exact h
    rw [if_pos k1]; simp [h1, hg]
  · rw [if_neg k1, if_pos (by omega)]; simp [h1, h3, h4]
theorem valid_node {n : NeedT} {lv : Int} (h1 : lv ≤ 40) (h2 : n.gram = 0) (hk : n.kind = 4 ∨ n.kind = 5) : validN n lv = (validsN n.subs (lv + 1) && decide (2 ≤ n.subs.length)) := by
  rw [validN_eq, if_neg (by omega), if_neg (by omega), if_pos hk]
  simp [h1, h2, Bool.and_comm]
theorem valid_other {n : NeedT} {lv : Int} (hk : ¬ (n.kind = 1 ∨ n.kind = 2 ∨ n.kind = 3 ∨ n.kind = 4 ∨ n.kind = 5)) : validN n lv = false := by
  rw [validN_eq, if_neg (by omega), if_neg (by omega), if_neg (by omega)]; simp
theorem valids_bad {l : List NeedT} {lv : Int} {i : Nat} (hi : i < l.length) (h : validN l[i] lv = false) : validsN l lv = false := by
  rw [Bool.eq_false_iff]
  intro h2
  have := (validsN_iff l lv).1 h2 l[i] (List.getElem_mem hi)
  rw [h] at this; cases this
set_option maxHeartbeats 4000000 in
theorem valid_of (n : NeedT) (lv : Int) (hs : n.subs.length ≤ 140737488355328) (h0 : 0 ≤ lv) (hl : lv ≤ 41) (ih : ∀ x ∈ n.subs, ∀ m : Int, 0 ≤ m → m ≤ 41 → Spec1 Tryz.prog 102 [.agg (needC x), i64 m] (bo (validN x m))) : Spec1 Tryz.prog 102 [.agg (needC n), i64 lv] (bo (validN n lv)) := by
  refine Spec1.of_HT Tryz.func102 rfl (by rw [Tryz.ntmps102]; simp) rfl ?_
  rw [Tryz.ntmps102]
  refine HT.seq ?_
  refine HT.region ?_   -- R0
  simp (disch := first | omega | (simp <;> omega) | fail) [wrap_i64, wrap_u64, wrap_u8', NeedT.enc_eq]
  refine HT.seq ?_
  refine HT.seq ?_
  by_cases a1 : 40 < lv
  · skip
    refine HT.region ?_   -- R1
    simp (disch := first | omega | (simp <;> omega) | fail) [wrap_i64, wrap_u64, wrap_u8', NeedT.enc_eq, a1]
    refine HT.cond' ?_   -- if 28
    simp (disch := first | omega | (simp <;> omega) | fail) [wrap_i64, wrap_u64, wrap_u8', NeedT.enc_eq]
    have hv : validN n lv = false := valid_no (by omega)
    refine HT.seq ?_
    refine HT.region ?_   -- R2
    simp (disch := first | omega | (simp <;> omega) | fail) [wrap_i64, wrap_u64, wrap_u8', NeedT.enc_eq]
    refine HT.ret ?_
    simp (disch := first | omega | (simp <;> omega) | fail) [wrap_i64, wrap_u64, wrap_u8', NeedT.enc_eq, hv]
  by_cases b3 : n.kind = 3 ∧ n.gram < 0
  · skip
    refine HT.region ?_   -- R1
    simp (disch := first | omega | (simp <;> omega) | fail) [wrap_i64, wrap_u64, wrap_u8', NeedT.enc_eq, a1, b3.1, b3.2]
    refine HT.cond' ?_   -- if 28
    simp (disch := first | omega | (simp <;> omega) | fail) [wrap_i64, wrap_u64, wrap_u8', NeedT.enc_eq]
    have hv : validN n lv = false := valid_no (by omega)
    refine HT.seq ?_
    refine HT.region ?_   -- R2
    simp (disch := first | omega | (simp <;> omega) | fail) [wrap_i64, wrap_u64, wrap_u8', NeedT.enc_eq]
    refine HT.ret ?_
    simp (disch := first | omega | (simp <;> omega) | fail) [wrap_i64, wrap_u64, wrap_u8', NeedT.enc_eq, hv]
  by_cases b4 : n.kind = 3 ∧ 16777216 ≤ n.gram
  · skip
    refine HT.region ?_   -- R1
    simp (disch := first | omega | (simp <;> omega) | fail) [wrap_i64, wrap_u64, wrap_u8', NeedT.enc_eq, a1, b4.1, b4.2, show ¬ n.gram < 0 by omega]
    refine HT.cond' ?_   -- if 28
    simp (disch := first | omega | (simp <;> omega) | fail) [wrap_i64, wrap_u64, wrap_u8', NeedT.enc_eq]
    have hv : validN n lv = false := valid_no (by omega)
    refine HT.seq ?_
    refine HT.region ?_   -- R2
    simp (disch := first | omega | (simp <;> omega) | fail) [wrap_i64, wrap_u64, wrap_u8', NeedT.enc_eq]
    refine HT.ret ?_
    simp (disch := first | omega | (simp <;> omega) | fail) [wrap_i64, wrap_u64, wrap_u8', NeedT.enc_eq, hv]
  by_cases b5 : n.kind = 3
  · skip
    refine HT.region ?_   -- R1
    simp (disch := first | omega | (simp <;> omega) | fail) [wrap_i64, wrap_u64, wrap_u8', NeedT.enc_eq, a1, show (n.kind = 3) = True from eq_true b5, show ¬ n.gram < 0 by omega, show ¬ 16777216 ≤ n.gram by omega]
    refine HT.cond' ?_   -- if 28
    simp (disch := first | omega | (simp <;> omega) | fail) [wrap_i64, wrap_u64, wrap_u8', NeedT.enc_eq]
    refine HT.skip ?_
    simp (disch := first | omega | (simp <;> omega) | fail) [wrap_i64, wrap_u64, wrap_u8', NeedT.enc_eq]
    refine HT.seq ?_
    refine HT.seq ?_
    refine HT.region ?_   -- R3
    simp (disch := first | omega | (simp <;> omega) | fail) [wrap_i64, wrap_u64, wrap_u8', NeedT.enc_eq]
    refine HT.block ?_
    refine HT.seq ?_
    refine HT.seq ?_
    refine HT.region ?_   -- R4
    simp (disch := first | omega | (simp <;> omega) | fail) [wrap_i64, wrap_u64, wrap_u8', NeedT.enc_eq]
    refine HT.cond' ?_   -- if 31
    simp (disch := first | omega | (simp <;> omega) | fail) [wrap_i64, wrap_u64, wrap_u8', NeedT.enc_eq]
    refine HT.seq ?_
    refine HT.region ?_   -- R5
    simp (disch := first | omega | (simp <;> omega) | fail) [wrap_i64, wrap_u64, wrap_u8', NeedT.enc_eq]
    refine HT.cond' ?_   -- if 31
    simp (disch := first | omega | (simp <;> omega) | fail) [wrap_i64, wrap_u64, wrap_u8', NeedT.enc_eq]
    refine HT.region ?_   -- R6
    simp (disch := first | omega | (simp <;> omega) | fail) [wrap_i64, wrap_u64, wrap_u8', NeedT.enc_eq]
    refine HT.cond' ?_   -- if 31
    simp (disch := first | omega | (simp <;> omega) | fail) [wrap_i64, wrap_u64, wrap_u8', NeedT.enc_eq]
    refine HT.seq ?_
    refine HT.region ?_   -- R7
    simp (disch := first | omega | (simp <;> omega) | fail) [wrap_i64, wrap_u64, wrap_u8', NeedT.enc_eq]
    refine HT.ret ?_
    have hv := valid_leaf (n := n) (lv := lv) (by omega) (by omega) (by omega) (by omega) (by omega)
    simp (disch := first | omega | (simp <;> omega) | fail) [wrap_i64, wrap_u64, wrap_u8', NeedT.enc_eq, hv]
  by_cases b6 : ¬ n.gram = 0
  · skip
    refine HT.region ?_   -- R1
    simp (disch := first | omega | (simp <;> omega) | fail) [wrap_i64, wrap_u64, wrap_u8', NeedT.enc_eq, a1, b6]
    refine HT.cond' ?_   -- if 28
    simp (disch := first | omega | (simp <;> omega) | fail) [wrap_i64, wrap_u64, wrap_u8', NeedT.enc_eq]
    have hv : validN n lv = false := valid_no (by omega)
    refine HT.seq ?_
    refine HT.region ?_   -- R2
    simp (disch := first | omega | (simp <;> omega) | fail) [wrap_i64, wrap_u64, wrap_u8', NeedT.enc_eq]
    refine HT.ret ?_
    simp (disch := first | omega | (simp <;> omega) | fail) [wrap_i64, wrap_u64, wrap_u8', NeedT.enc_eq, hv]
  rw [Classical.not_not] at b6
  by_cases k1 : n.kind = 1
  · skip
    refine HT.region ?_   -- R1
    simp (disch := first | omega | (simp <;> omega) | fail) [wrap_i64, wrap_u64, wrap_u8', NeedT.enc_eq, a1, b6]
    refine HT.cond' ?_   -- if 28
    simp (disch := first | omega | (simp <;> omega) | fail) [wrap_i64, wrap_u64, wrap_u8', NeedT.enc_eq]
    refine HT.skip ?_
    simp (disch := first | omega | (simp <;> omega) | fail) [wrap_i64, wrap_u64, wrap_u8', NeedT.enc_eq]
    refine HT.seq ?_
    refine HT.seq ?_
    refine HT.region ?_   -- R3
    simp (disch := first | omega | (simp <;> omega) | fail) [wrap_i64, wrap_u64, wrap_u8', NeedT.enc_eq]
    refine HT.block ?_
    refine HT.seq ?_
    refine HT.seq ?_
    refine HT.region ?_   -- R4
    simp (disch := first | omega | (simp <;> omega) | fail) [wrap_i64, wrap_u64, wrap_u8', NeedT.enc_eq]
    refine HT.cond' ?_   -- if 31
    simp (disch := first | omega | (simp <;> omega) | fail) [wrap_i64, wrap_u64, wrap_u8', NeedT.enc_eq]
    refine HT.skip ?_
    simp (disch := first | omega | (simp <;> omega) | fail) [wrap_i64, wrap_u64, wrap_u8', NeedT.enc_eq]
    refine HT.cond' ?_   -- if 31
    simp (disch := first | omega | (simp <;> omega) | fail) [wrap_i64, wrap_u64, wrap_u8', NeedT.enc_eq]
    refine HT.seq ?_
    refine HT.region ?_   -- R7
    simp (disch := first | omega | (simp <;> omega) | fail) [wrap_i64, wrap_u64, wrap_u8', NeedT.enc_eq]
    refine HT.ret ?_
    have hv := valid_leaf (n := n) (lv := lv) (by omega) (by omega) (by omega) (by omega) (by omega)
    simp (disch := first | omega | (simp <;> omega) | fail) [wrap_i64, wrap_u64, wrap_u8', NeedT.enc_eq, hv]
  by_cases k2 : n.kind = 2
  · skip
    refine HT.region ?_   -- R1
    simp (disch := first | omega | (simp <;> omega) | fail) [wrap_i64, wrap_u64, wrap_u8', NeedT.enc_eq, a1, b6]
    refine HT.cond' ?_   -- if 28
    simp (disch := first | omega | (simp <;> omega) | fail) [wrap_i64, wrap_u64, wrap_u8', NeedT.enc_eq]
    refine HT.skip ?_
    simp (disch := first | omega | (simp <;> omega) | fail) [wrap_i64, wrap_u64, wrap_u8', NeedT.enc_eq]
    refine HT.seq ?_
    refine HT.seq ?_
    refine HT.region ?_   -- R3
    simp (disch := first | omega | (simp <;> omega) | fail) [wrap_i64, wrap_u64, wrap_u8', NeedT.enc_eq]
    refine HT.block ?_
    refine HT.seq ?_
    refine HT.seq ?_
    refine HT.region ?_   -- R4
    simp (disch := first | omega | (simp <;> omega) | fail) [wrap_i64, wrap_u64, wrap_u8', NeedT.enc_eq]
    refine HT.cond' ?_   -- if 31
    simp (disch := first | omega | (simp <;> omega) | fail) [wrap_i64, wrap_u64, wrap_u8', NeedT.enc_eq]
    refine HT.seq ?_
    refine HT.region ?_   -- R5
    simp (disch := first | omega | (simp <;> omega) | fail) [wrap_i64, wrap_u64, wrap_u8', NeedT.enc_eq]
    refine HT.cond' ?_   -- if 31
    simp (disch := first | omega | (simp <;> omega) | fail) [wrap_i64, wrap_u64, wrap_u8', NeedT.enc_eq]
    refine HT.skip ?_
    simp (disch := first | omega | (simp <;> omega) | fail) [wrap_i64, wrap_u64, wrap_u8', NeedT.enc_eq]
    refine HT.cond' ?_   -- if 31
    simp (disch := first | omega | (simp <;> omega) | fail) [wrap_i64, wrap_u64, wrap_u8', NeedT.enc_eq]
    refine HT.seq ?_
    refine HT.region ?_   -- R7
    simp (disch := first | omega | (simp <;> omega) | fail) [wrap_i64, wrap_u64, wrap_u8', NeedT.enc_eq]
    refine HT.ret ?_
    have hv := valid_leaf (n := n) (lv := lv) (by omega) (by omega) (by omega) (by omega) (by omega)
    simp (disch := first | omega | (simp <;> omega) | fail) [wrap_i64, wrap_u64, wrap_u8', NeedT.enc_eq, hv]
  by_cases k4 : n.kind = 4
  · skip
    refine HT.region ?_   -- R1
    simp (disch := first | omega | (simp <;> omega) | fail) [wrap_i64, wrap_u64, wrap_u8', NeedT.enc_eq, a1, b6]
    refine HT.cond' ?_   -- if 28
    simp (disch := first | omega | (simp <;> omega) | fail) [wrap_i64, wrap_u64, wrap_u8', NeedT.enc_eq]
    refine HT.skip ?_
    simp (disch := first | omega | (simp <;> omega) | fail) [wrap_i64, wrap_u64, wrap_u8', NeedT.enc_eq]
    refine HT.seq ?_
    refine HT.seq ?_
    refine HT.region ?_   -- R3
    simp (disch := first | omega | (simp <;> omega) | fail) [wrap_i64, wrap_u64, wrap_u8', NeedT.enc_eq]
    refine HT.block ?_
    refine HT.seq ?_
    refine HT.seq ?_
    refine HT.region ?_   -- R4
    simp (disch := first | omega | (simp <;> omega) | fail) [wrap_i64, wrap_u64, wrap_u8', NeedT.enc_eq]
    refine HT.cond' ?_   -- if 31
    simp (disch := first | omega | (simp <;> omega) | fail) [wrap_i64, wrap_u64, wrap_u8', NeedT.enc_eq]
    refine HT.seq ?_
    refine HT.region ?_   -- R5
    simp (disch := first | omega | (simp <;> omega) | fail) [wrap_i64, wrap_u64, wrap_u8', NeedT.enc_eq]
    refine HT.cond' ?_   -- if 31
    simp (disch := first | omega | (simp <;> omega) | fail) [wrap_i64, wrap_u64, wrap_u8', NeedT.enc_eq]
    refine HT.region ?_   -- R6
    simp (disch := first | omega | (simp <;> omega) | fail) [wrap_i64, wrap_u64, wrap_u8', NeedT.enc_eq]
    refine HT.cond' ?_   -- if 31
    simp (disch := first | omega | (simp <;> omega) | fail) [wrap_i64, wrap_u64, wrap_u8', NeedT.enc_eq]
    refine HT.seq ?_
    refine HT.seq ?_
    refine HT.region ?_   -- R8
    simp (disch := first | omega | (simp <;> omega) | fail) [wrap_i64, wrap_u64, wrap_u8', NeedT.enc_eq]
    refine HT.cond' ?_   -- if 39
    simp (disch := first | omega | (simp <;> omega) | fail) [wrap_i64, wrap_u64, wrap_u8', NeedT.enc_eq]
    refine HT.skip ?_
    simp (disch := first | omega | (simp <;> omega) | fail) [wrap_i64, wrap_u64, wrap_u8', NeedT.enc_eq]
    refine HT.cond' ?_   -- if 39
    simp (disch := first | omega | (simp <;> omega) | fail) [wrap_i64, wrap_u64, wrap_u8', NeedT.enc_eq]
    refine HT.seq ?_
    refine HT.seq ?_
    refine HT.region ?_   -- R10
    simp (disch := first | omega | (simp <;> omega) | fail) [wrap_i64, wrap_u64, wrap_u8', NeedT.enc_eq]
    refine HT.block ?_
    refine HT.loopK (fun i : {i : Nat // i ≤ n.subs.length ∧ validsN (n.subs.take i) (lv + 1) = true} => [.s 45 (i64 i)]) [1, 2, 43, 44] [2] (fun i => n.subs.length - i) (⟨0, by omega, rfl⟩) ?_ ?_   -- block 1 turned [45]
    · simp (disch := first | omega | (simp <;> omega) | fail) [wrap_i64, wrap_u64, wrap_u8', NeedT.enc_eq]
    rintro ⟨i, hi, hg⟩
    simp (disch := first | omega | (simp <;> omega) | fail) [wrap_i64, wrap_u64, wrap_u8', NeedT.enc_eq]
    refine HT.seq ?_
    refine HT.region ?_   -- R11
    simp (disch := first | omega | (simp <;> omega) | fail) [wrap_i64, wrap_u64, wrap_u8', NeedT.enc_eq]
    refine HT.seq ?_
    refine HT.cond' ?_   -- if 46
    simp (disch := first | omega | (simp <;> omega) | fail) [wrap_i64, wrap_u64, wrap_u8', NeedT.enc_eq]
    refine ⟨fun h46 => ?_, fun h46 => ?_⟩
    · skip
      have hi' : i < n.subs.length := by omega
      refine HT.skip ?_
      simp (disch := first | omega | (simp <;> omega) | fail) [wrap_i64, wrap_u64, wrap_u8', NeedT.enc_eq]
      refine HT.seq ?_
      refine HT.block ?_
      refine HT.seq ?_
      refine HT.region ?_   -- R12
      simp (disch := first | omega | (simp <;> omega) | fail) [wrap_i64, wrap_u64, wrap_u8', NeedT.enc_eq]
      refine HT.seq ?_
      refine HT.region ?_   -- R13
      simp (disch := first | omega | (simp <;> omega) | fail) [wrap_i64, wrap_u64, wrap_u8', NeedT.enc_eq]
      refine stepK.mk (.call1 _ _ _ _ rfl Ty.hb102 rfl (ih n.subs[i] (List.getElem_mem hi') (lv + 1) (by omega) (by omega)) rfl rfl) ?_
      simp (disch := first | omega | (simp <;> omega) | fail) [wrap_i64, wrap_u64, wrap_u8', NeedT.enc_eq]
      refine HT.cond' ?_   -- if 53
      simp (disch := first | omega | (simp <;> omega) | fail) [wrap_i64, wrap_u64, wrap_u8', NeedT.enc_eq]
      refine ⟨fun h53 => ?_, fun h53 => ?_⟩
      · skip
        refine HT.seq ?_
        refine HT.region ?_   -- R14
        simp (disch := first | omega | (simp <;> omega) | fail) [wrap_i64, wrap_u64, wrap_u8', NeedT.enc_eq]
        refine HT.ret ?_
        have hv := valid_node (n := n) (lv := lv) (by omega) (by omega) (by omega)
        have hb := valids_bad hi' (by simpa using h53)
        simp (disch := first | omega | (simp <;> omega) | fail) [wrap_i64, wrap_u64, wrap_u8', NeedT.enc_eq, hv, hb]
      · skip
        refine HT.skip ?_
        simp (disch := first | omega | (simp <;> omega) | fail) [wrap_i64, wrap_u64, wrap_u8', NeedT.enc_eq]
        refine HT.region ?_   -- R15
        simp (disch := first | omega | (simp <;> omega) | fail) [wrap_i64, wrap_u64, wrap_u8', NeedT.enc_eq]
        refine Round.mk' (⟨i + 1, by omega, by rw [validsN_take hi', hg]; simpa using h53⟩) (by dsimp only; omega) rfl ?_
        simp (disch := first | omega | (simp <;> omega) | fail) [wrap_i64, wrap_u64, wrap_u8', NeedT.enc_eq]
    · skip
      obtain rfl : i = n.subs.length := by omega
      rw [List.take_length] at hg
      refine HT.exit ?_
      simp (disch := first | omega | (simp <;> omega) | fail) [wrap_i64, wrap_u64, wrap_u8', NeedT.enc_eq]
      refine HT.seq ?_
      refine HT.region ?_   -- R16
      simp (disch := first | omega | (simp <;> omega) | fail) [wrap_i64, wrap_u64, wrap_u8', NeedT.enc_eq]
      refine HT.ret ?_
      have hv := valid_node (n := n) (lv := lv) (by omega) (by omega) (by omega)
      simp (disch := first | omega | (simp <;> omega) | fail) [wrap_i64, wrap_u64, wrap_u8', NeedT.enc_eq, hv, hg]
      omega
  by_cases k5 : n.kind = 5
  · skip
    refine HT.region ?_   -- R1
    simp (disch := first | omega | (simp <;> omega) | fail) [wrap_i64, wrap_u64, wrap_u8', NeedT.enc_eq, a1, b6]
    refine HT.cond' ?_   -- if 28
    simp (disch := first | omega | (simp <;> omega) | fail) [wrap_i64, wrap_u64, wrap_u8', NeedT.enc_eq]
    refine HT.skip ?_
    simp (disch := first | omega | (simp <;> omega) | fail) [wrap_i64, wrap_u64, wrap_u8', NeedT.enc_eq]
    refine HT.seq ?_
    refine HT.seq ?_
    refine HT.region ?_   -- R3
    simp (disch := first | omega | (simp <;> omega) | fail) [wrap_i64, wrap_u64, wrap_u8', NeedT.enc_eq]
    refine HT.block ?_
    refine HT.seq ?_
    refine HT.seq ?_
    refine HT.region ?_   -- R4
    simp (disch := first | omega | (simp <;> omega) | fail) [wrap_i64, wrap_u64, wrap_u8', NeedT.enc_eq]
    refine HT.cond' ?_   -- if 31
    simp (disch := first | omega | (simp <;> omega) | fail) [wrap_i64, wrap_u64, wrap_u8', NeedT.enc_eq]
    refine HT.seq ?_
    refine HT.region ?_   -- R5
    simp (disch := first | omega | (simp <;> omega) | fail) [wrap_i64, wrap_u64, wrap_u8', NeedT.enc_eq]
    refine HT.cond' ?_   -- if 31
    simp (disch := first | omega | (simp <;> omega) | fail) [wrap_i64, wrap_u64, wrap_u8', NeedT.enc_eq]
    refine HT.region ?_   -- R6
    simp (disch := first | omega | (simp <;> omega) | fail) [wrap_i64, wrap_u64, wrap_u8', NeedT.enc_eq]
    refine HT.cond' ?_   -- if 31
    simp (disch := first | omega | (simp <;> omega) | fail) [wrap_i64, wrap_u64, wrap_u8', NeedT.enc_eq]
    refine HT.seq ?_
    refine HT.seq ?_
    refine HT.region ?_   -- R8
    simp (disch := first | omega | (simp <;> omega) | fail) [wrap_i64, wrap_u64, wrap_u8', NeedT.enc_eq]
    refine HT.cond' ?_   -- if 39
    simp (disch := first | omega | (simp <;> omega) | fail) [wrap_i64, wrap_u64, wrap_u8', NeedT.enc_eq]
    refine HT.region ?_   -- R9
    simp (disch := first | omega | (simp <;> omega) | fail) [wrap_i64, wrap_u64, wrap_u8', NeedT.enc_eq]
    refine HT.cond' ?_   -- if 39
    simp (disch := first | omega | (simp <;> omega) | fail) [wrap_i64, wrap_u64, wrap_u8', NeedT.enc_eq]
    refine HT.seq ?_
    refine HT.seq ?_
    refine HT.region ?_   -- R10
    simp (disch := first | omega | (simp <;> omega) | fail) [wrap_i64, wrap_u64, wrap_u8', NeedT.enc_eq]
    refine HT.block ?_
    refine HT.loopK (fun i : {i : Nat // i ≤ n.subs.length ∧ validsN (n.subs.take i) (lv + 1) = true} => [.s 45 (i64 i)]) [1, 2, 43, 44] [2] (fun i => n.subs.length - i) (⟨0, by omega, rfl⟩) ?_ ?_   -- block 1 turned [45]
    · simp (disch := first | omega | (simp <;> omega) | fail) [wrap_i64, wrap_u64, wrap_u8', NeedT.enc_eq]
    rintro ⟨i, hi, hg⟩
    simp (disch := first | omega | (simp <;> omega) | fail) [wrap_i64, wrap_u64, wrap_u8', NeedT.enc_eq]
    refine HT.seq ?_
    refine HT.region ?_   -- R11
    simp (disch := first | omega | (simp <;> omega) | fail) [wrap_i64, wrap_u64, wrap_u8', NeedT.enc_eq]
    refine HT.seq ?_
    refine HT.cond' ?_   -- if 46
    simp (disch := first | omega | (simp <;> omega) | fail) [wrap_i64, wrap_u64, wrap_u8', NeedT.enc_eq]
    refine ⟨fun h46 => ?_, fun h46 => ?_⟩
    · skip
      have hi' : i < n.subs.length := by omega
      refine HT.skip ?_
      simp (disch := first | omega | (simp <;> omega) | fail) [wrap_i64, wrap_u64, wrap_u8', NeedT.enc_eq]
      refine HT.seq ?_
      refine HT.block ?_
      refine HT.seq ?_
      refine HT.region ?_   -- R12
      simp (disch := first | omega | (simp <;> omega) | fail) [wrap_i64, wrap_u64, wrap_u8', NeedT.enc_eq]
      refine HT.seq ?_
      refine HT.region ?_   -- R13
      simp (disch := first | omega | (simp <;> omega) | fail) [wrap_i64, wrap_u64, wrap_u8', NeedT.enc_eq]
      refine stepK.mk (.call1 _ _ _ _ rfl Ty.hb102 rfl (ih n.subs[i] (List.getElem_mem hi') (lv + 1) (by omega) (by omega)) rfl rfl) ?_
      simp (disch := first | omega | (simp <;> omega) | fail) [wrap_i64, wrap_u64, wrap_u8', NeedT.enc_eq]
      refine HT.cond' ?_   -- if 53
      simp (disch := first | omega | (simp <;> omega) | fail) [wrap_i64, wrap_u64, wrap_u8', NeedT.enc_eq]
      refine ⟨fun h53 => ?_, fun h53 => ?_⟩
      · skip
        refine HT.seq ?_
        refine HT.region ?_   -- R14
        simp (disch := first | omega | (simp <;> omega) | fail) [wrap_i64, wrap_u64, wrap_u8', NeedT.enc_eq]
        refine HT.ret ?_
        have hv := valid_node (n := n) (lv := lv) (by omega) (by omega) (by omega)
        have hb := valids_bad hi' (by simpa using h53)
        simp (disch := first | omega | (simp <;> omega) | fail) [wrap_i64, wrap_u64, wrap_u8', NeedT.enc_eq, hv, hb]
      · skip
        refine HT.skip ?_
        simp (disch := first | omega | (simp <;> omega) | fail) [wrap_i64, wrap_u64, wrap_u8', NeedT.enc_eq]
        refine HT.region ?_   -- R15
        simp (disch := first | omega | (simp <;> omega) | fail) [wrap_i64, wrap_u64, wrap_u8', NeedT.enc_eq]
        refine Round.mk' (⟨i + 1, by omega, by rw [validsN_take hi', hg]; simpa using h53⟩) (by dsimp only; omega) rfl ?_
        simp (disch := first | omega | (simp <;> omega) | fail) [wrap_i64, wrap_u64, wrap_u8', NeedT.enc_eq]
    · skip
      obtain rfl : i = n.subs.length := by omega
      rw [List.take_length] at hg
      refine HT.exit ?_
      simp (disch := first | omega | (simp <;> omega) | fail) [wrap_i64, wrap_u64, wrap_u8', NeedT.enc_eq]
      refine HT.seq ?_
      refine HT.region ?_   -- R16
      simp (disch := first | omega | (simp <;> omega) | fail) [wrap_i64, wrap_u64, wrap_u8', NeedT.enc_eq]
      refine HT.ret ?_
      have hv := valid_node (n := n) (lv := lv) (by omega) (by omega) (by omega)
      simp (disch := first | omega | (simp <;> omega) | fail) [wrap_i64, wrap_u64, wrap_u8', NeedT.enc_eq, hv, hg]
      omega
  refine HT.region ?_   -- R1
  simp (disch := first | omega | (simp <;> omega) | fail) [wrap_i64, wrap_u64, wrap_u8', NeedT.enc_eq, a1, b6]
  refine HT.cond' ?_   -- if 28
  simp (disch := first | omega | (simp <;> omega) | fail) [wrap_i64, wrap_u64, wrap_u8', NeedT.enc_eq]
  refine HT.skip ?_
  simp (disch := first | omega | (simp <;> omega) | fail) [wrap_i64, wrap_u64, wrap_u8', NeedT.enc_eq]
  refine HT.seq ?_
  refine HT.seq ?_
  refine HT.region ?_   -- R3
  simp (disch := first | omega | (simp <;> omega) | fail) [wrap_i64, wrap_u64, wrap_u8', NeedT.enc_eq]
  refine HT.block ?_
  refine HT.seq ?_
  refine HT.seq ?_
  refine HT.region ?_   -- R4
  simp (disch := first | omega | (simp <;> omega) | fail) [wrap_i64, wrap_u64, wrap_u8', NeedT.enc_eq]
  refine HT.cond' ?_   -- if 31
  simp (disch := first | omega | (simp <;> omega) | fail) [wrap_i64, wrap_u64, wrap_u8', NeedT.enc_eq]
  refine HT.seq ?_
  refine HT.region ?_   -- R5
  simp (disch := first | omega | (simp <;> omega) | fail) [wrap_i64, wrap_u64, wrap_u8', NeedT.enc_eq]
  refine HT.cond' ?_   -- if 31
  simp (disch := first | omega | (simp <;> omega) | fail) [wrap_i64, wrap_u64, wrap_u8', NeedT.enc_eq]
  refine HT.region ?_   -- R6
  simp (disch := first | omega | (simp <;> omega) | fail) [wrap_i64, wrap_u64, wrap_u8', NeedT.enc_eq]
  refine HT.cond' ?_   -- if 31
  simp (disch := first | omega | (simp <;> omega) | fail) [wrap_i64, wrap_u64, wrap_u8', NeedT.enc_eq]
  refine HT.seq ?_
  refine HT.seq ?_
  refine HT.region ?_   -- R8
  simp (disch := first | omega | (simp <;> omega) | fail) [wrap_i64, wrap_u64, wrap_u8', NeedT.enc_eq]
  refine HT.cond' ?_   -- if 39
  simp (disch := first | omega | (simp <;> omega) | fail) [wrap_i64, wrap_u64, wrap_u8', NeedT.enc_eq]
  refine HT.region ?_   -- R9
  simp (disch := first | omega | (simp <;> omega) | fail) [wrap_i64, wrap_u64, wrap_u8', NeedT.enc_eq]
  refine HT.cond' ?_   -- if 39
  simp (disch := first | omega | (simp <;> omega) | fail) [wrap_i64, wrap_u64, wrap_u8', NeedT.enc_eq]
  refine HT.skip ?_
  simp (disch := first | omega | (simp <;> omega) | fail) [wrap_i64, wrap_u64, wrap_u8', NeedT.enc_eq]
  refine HT.seq ?_
  refine HT.region ?_   -- R17
  simp (disch := first | omega | (simp <;> omega) | fail) [wrap_i64, wrap_u64, wrap_u8', NeedT.enc_eq]
  refine HT.ret ?_
  have hv := valid_other (n := n) (lv := lv) (by omega)
  simp (disch := first | omega | (simp <;> omega) | fail) [wrap_i64, wrap_u64, wrap_u8', NeedT.enc_eq, hv]
theorem valid_spec (n : NeedT) : NeedB 140737488355328 n → ∀ lv : Int, 0 ≤ lv → lv ≤ 41 → Spec1 Tryz.prog 102 [.agg (needC n), i64 lv] (bo (validN n lv)) := by
  refine needInd' (p := fun n => NeedB 140737488355328 n → ∀ lv : Int, 0 ≤ lv → lv ≤ 41 → Spec1 Tryz.prog 102 [.agg (needC n), i64 lv] (bo (validN n lv))) (fun n ih hb lv h0 hl => ?_) n
  exact valid_of n lv hb.len h0 hl fun x hx m h0 hl => ih x hx (hb.sub hx) m h0 hl
theorem Rright_spec (n : NeedT) (hb : NeedB 140737488355328 n) : Spec1 Tryz.prog 63 [.agg (needC n)] (bo (validN n 1)) := by
  refine Spec1.of_HT Tryz.func63 rfl (by rw [Tryz.ntmps63]; simp) rfl ?_
  rw [Tryz.ntmps63]
  refine HT.seq ?_
  refine HT.region ?_   -- R0
  simp (disch := first | omega | (simp <;> omega) | fail) [wrap_i64, wrap_u64, wrap_u8']
  refine HT.seq ?_
  refine HT.region ?_   -- R1
  simp (disch := first | omega | (simp <;> omega) | fail) [wrap_i64, wrap_u64, wrap_u8']
  refine stepK.mk (.call1 _ _ _ _ rfl Ty.hb102 rfl (valid_spec n hb 1 (by decide) (by decide)) rfl rfl) ?_
  simp (disch := first | omega | (simp <;> omega) | fail) [wrap_i64, wrap_u64, wrap_u8']
  refine HT.ret ?_
  simp (disch := first | omega | (simp <;> omega) | fail) [wrap_i64, wrap_u64, wrap_u8']
set_option maxHeartbeats 4000000 in
theorem right_of (n : NeedT) (lv : Int) (hs : n.subs.length ≤ 140737488355328) (h0 : 0 ≤ lv) (hl : lv ≤ 41) (ih : ∀ x ∈ n.subs, ∀ m : Int, 0 ≤ m → m ≤ 41 → Spec1 Tryz.prog 103 [.agg (needC x), i64 m] (bo (validN x m))) : Spec1 Tryz.prog 103 [.agg (needC n), i64 lv] (bo (validN n lv)) := by
  refine Spec1.of_HT Tryz.func103 rfl (by rw [Tryz.ntmps103]; simp) rfl ?_
  rw [Tryz.ntmps103]
  refine HT.seq ?_
  refine HT.region ?_   -- R0
  simp (disch := first | omega | (simp <;> omega) | fail) [wrap_i64, wrap_u64, wrap_u8', NeedT.enc_eq]
  refine HT.seq ?_
  refine HT.seq ?_
  by_cases a1 : 40 < lv
  · skip
    refine HT.region ?_   -- R1
    simp (disch := first | omega | (simp <;> omega) | fail) [wrap_i64, wrap_u64, wrap_u8', NeedT.enc_eq, a1]
    refine HT.cond' ?_   -- if 17
    simp (disch := first | omega | (simp <;> omega) | fail) [wrap_i64, wrap_u64, wrap_u8', NeedT.enc_eq]
    have hv : validN n lv = false := by first | exact valid_no (.inl a1) | exact valid_other (by omega)
    refine HT.seq ?_
    refine HT.region ?_   -- R2
    simp (disch := first | omega | (simp <;> omega) | fail) [wrap_i64, wrap_u64, wrap_u8', NeedT.enc_eq]
    refine HT.ret ?_
    simp (disch := first | omega | (simp <;> omega) | fail) [wrap_i64, wrap_u64, wrap_u8', NeedT.enc_eq, hv]
  by_cases a2 : n.kind < 1
  · skip
    refine HT.region ?_   -- R1
    simp (disch := first | omega | (simp <;> omega) | fail) [wrap_i64, wrap_u64, wrap_u8', NeedT.enc_eq, a1, a2]
    refine HT.cond' ?_   -- if 17
    simp (disch := first | omega | (simp <;> omega) | fail) [wrap_i64, wrap_u64, wrap_u8', NeedT.enc_eq]
    have hv : validN n lv = false := by first | exact valid_no (.inl a1) | exact valid_other (by omega)
    refine HT.seq ?_
    refine HT.region ?_   -- R2
    simp (disch := first | omega | (simp <;> omega) | fail) [wrap_i64, wrap_u64, wrap_u8', NeedT.enc_eq]
    refine HT.ret ?_
    simp (disch := first | omega | (simp <;> omega) | fail) [wrap_i64, wrap_u64, wrap_u8', NeedT.enc_eq, hv]
  by_cases a3 : 5 < n.kind
  · skip
    refine HT.region ?_   -- R1
    simp (disch := first | omega | (simp <;> omega) | fail) [wrap_i64, wrap_u64, wrap_u8', NeedT.enc_eq, a1, a3, show ¬ n.kind < 1 by omega]
    refine HT.cond' ?_   -- if 17
    simp (disch := first | omega | (simp <;> omega) | fail) [wrap_i64, wrap_u64, wrap_u8', NeedT.enc_eq]
    have hv : validN n lv = false := by first | exact valid_no (.inl a1) | exact valid_other (by omega)
    refine HT.seq ?_
    refine HT.region ?_   -- R2
    simp (disch := first | omega | (simp <;> omega) | fail) [wrap_i64, wrap_u64, wrap_u8', NeedT.enc_eq]
    refine HT.ret ?_
    simp (disch := first | omega | (simp <;> omega) | fail) [wrap_i64, wrap_u64, wrap_u8', NeedT.enc_eq, hv]
  refine HT.region ?_   -- R1
  simp (disch := first | omega | (simp <;> omega) | fail) [wrap_i64, wrap_u64, wrap_u8', NeedT.enc_eq, a1, show ¬ n.kind < 1 by omega, show ¬ 5 < n.kind by omega]
  refine HT.cond' ?_   -- if 17
  simp (disch := first | omega | (simp <;> omega) | fail) [wrap_i64, wrap_u64, wrap_u8', NeedT.enc_eq]
  refine HT.skip ?_
  simp (disch := first | omega | (simp <;> omega) | fail) [wrap_i64, wrap_u64, wrap_u8', NeedT.enc_eq]
  refine HT.seq ?_
  refine HT.seq ?_
  refine HT.region ?_   -- R3
  simp (disch := first | omega | (simp <;> omega) | fail) [wrap_i64, wrap_u64, wrap_u8', NeedT.enc_eq]
  refine HT.cond' ?_   -- if 20
  simp (disch := first | omega | (simp <;> omega) | fail) [wrap_i64, wrap_u64, wrap_u8', NeedT.enc_eq]
  refine ⟨fun h20 => ?_, fun h20 => ?_⟩
  · skip
    refine HT.seq ?_
    by_cases g1 : n.gram < 0
    · skip
      refine HT.region ?_   -- R4
      simp (disch := first | omega | (simp <;> omega) | fail) [wrap_i64, wrap_u64, wrap_u8', NeedT.enc_eq, g1]
      refine HT.ret ?_
      first | (have hv : validN n lv = false := valid_no (by omega); simp (disch := first | omega | (simp <;> omega) | fail) [wrap_i64, wrap_u64, wrap_u8', NeedT.enc_eq, hv]) | (have hv := valid_leaf (n := n) (lv := lv) (by omega) (by omega) (by omega) (by omega) (by omega); simp (disch := first | omega | (simp <;> omega) | fail) [wrap_i64, wrap_u64, wrap_u8', NeedT.enc_eq, hv])
    by_cases g2 : 16777216 ≤ n.gram
    · skip
      refine HT.region ?_   -- R4
      simp (disch := first | omega | (simp <;> omega) | fail) [wrap_i64, wrap_u64, wrap_u8', NeedT.enc_eq, g2, show ¬ n.gram < 0 by omega]
      refine HT.ret ?_
      first | (have hv : validN n lv = false := valid_no (by omega); simp (disch := first | omega | (simp <;> omega) | fail) [wrap_i64, wrap_u64, wrap_u8', NeedT.enc_eq, hv]) | (have hv := valid_leaf (n := n) (lv := lv) (by omega) (by omega) (by omega) (by omega) (by omega); simp (disch := first | omega | (simp <;> omega) | fail) [wrap_i64, wrap_u64, wrap_u8', NeedT.enc_eq, hv])
    refine HT.region ?_   -- R4
    simp (disch := first | omega | (simp <;> omega) | fail) [wrap_i64, wrap_u64, wrap_u8', NeedT.enc_eq]
    refine HT.ret ?_
    first | (have hv : validN n lv = false := valid_no (by omega); simp (disch := first | omega | (simp <;> omega) | fail) [wrap_i64, wrap_u64, wrap_u8', NeedT.enc_eq, hv]) | (have hv := valid_leaf (n := n) (lv := lv) (by omega) (by omega) (by omega) (by omega) (by omega); simp (disch := first | omega | (simp <;> omega) | fail) [wrap_i64, wrap_u64, wrap_u8', NeedT.enc_eq, hv])
  · skip
    refine HT.skip ?_
    simp (disch := first | omega | (simp <;> omega) | fail) [wrap_i64, wrap_u64, wrap_u8', NeedT.enc_eq]
    refine HT.seq ?_
    refine HT.seq ?_
    refine HT.region ?_   -- R5
    simp (disch := first | omega | (simp <;> omega) | fail) [wrap_i64, wrap_u64, wrap_u8', NeedT.enc_eq]
    refine HT.cond' ?_   -- if 37
    simp (disch := first | omega | (simp <;> omega) | fail) [wrap_i64, wrap_u64, wrap_u8', NeedT.enc_eq]
    refine ⟨fun h37 => ?_, fun h37 => ?_⟩
    · skip
      refine HT.seq ?_
      refine HT.region ?_   -- R6
      simp (disch := first | omega | (simp <;> omega) | fail) [wrap_i64, wrap_u64, wrap_u8', NeedT.enc_eq]
      refine HT.ret ?_
      have hv : validN n lv = false := valid_no (by omega)
      simp (disch := first | omega | (simp <;> omega) | fail) [wrap_i64, wrap_u64, wrap_u8', NeedT.enc_eq, hv]
    · skip
      refine HT.skip ?_
      simp (disch := first | omega | (simp <;> omega) | fail) [wrap_i64, wrap_u64, wrap_u8', NeedT.enc_eq]
      refine HT.seq ?_
      refine HT.seq ?_
      by_cases k1 : n.kind = 1
      · skip
        refine HT.region ?_   -- R7
        simp (disch := first | omega | (simp <;> omega) | fail) [wrap_i64, wrap_u64, wrap_u8', NeedT.enc_eq, k1]
        refine HT.cond' ?_   -- if 45
        simp (disch := first | omega | (simp <;> omega) | fail) [wrap_i64, wrap_u64, wrap_u8', NeedT.enc_eq]
        refine HT.seq ?_
        refine HT.region ?_   -- R8
        simp (disch := first | omega | (simp <;> omega) | fail) [wrap_i64, wrap_u64, wrap_u8', NeedT.enc_eq]
        refine HT.ret ?_
        have hv := valid_leaf (n := n) (lv := lv) (by omega) (by omega) (by omega) (by omega) (by omega)
        simp (disch := first | omega | (simp <;> omega) | fail) [wrap_i64, wrap_u64, wrap_u8', NeedT.enc_eq, hv]
      by_cases k2 : n.kind = 2
      · skip
        refine HT.region ?_   -- R7
        simp (disch := first | omega | (simp <;> omega) | fail) [wrap_i64, wrap_u64, wrap_u8', NeedT.enc_eq, k1, k2]
        refine HT.cond' ?_   -- if 45
        simp (disch := first | omega | (simp <;> omega) | fail) [wrap_i64, wrap_u64, wrap_u8', NeedT.enc_eq]
        refine HT.seq ?_
        refine HT.region ?_   -- R8
        simp (disch := first | omega | (simp <;> omega) | fail) [wrap_i64, wrap_u64, wrap_u8', NeedT.enc_eq]
        refine HT.ret ?_
        have hv := valid_leaf (n := n) (lv := lv) (by omega) (by omega) (by omega) (by omega) (by omega)
        simp (disch := first | omega | (simp <;> omega) | fail) [wrap_i64, wrap_u64, wrap_u8', NeedT.enc_eq, hv]
      refine HT.region ?_   -- R7
      simp (disch := first | omega | (simp <;> omega) | fail) [wrap_i64, wrap_u64, wrap_u8', NeedT.enc_eq, k1, k2]
      refine HT.cond' ?_   -- if 45
      simp (disch := first | omega | (simp <;> omega) | fail) [wrap_i64, wrap_u64, wrap_u8', NeedT.enc_eq]
      refine HT.skip ?_
      simp (disch := first | omega | (simp <;> omega) | fail) [wrap_i64, wrap_u64, wrap_u8', NeedT.enc_eq]
      refine HT.seq ?_
      refine HT.seq ?_
      refine HT.region ?_   -- R9
      simp (disch := first | omega | (simp <;> omega) | fail) [wrap_i64, wrap_u64, wrap_u8', NeedT.enc_eq]
      refine HT.block ?_
      refine HT.loopK (fun i : {i : Nat // i ≤ n.subs.length ∧ validsN (n.subs.take i) (lv + 1) = true} => [.s 5 (i64 i)]) [1, 2] [2] (fun i => n.subs.length - i) (⟨0, by omega, rfl⟩) ?_ ?_   -- block 0 turned [5]
      · simp (disch := first | omega | (simp <;> omega) | fail) [wrap_i64, wrap_u64, wrap_u8', NeedT.enc_eq]
      rintro ⟨i, hi, hg⟩
      simp (disch := first | omega | (simp <;> omega) | fail) [wrap_i64, wrap_u64, wrap_u8', NeedT.enc_eq]
      refine HT.seq ?_
      refine HT.seq ?_
      refine HT.region ?_   -- R10
      simp (disch := first | omega | (simp <;> omega) | fail) [wrap_i64, wrap_u64, wrap_u8', NeedT.enc_eq]
      refine HT.cond' ?_   -- if 54
      simp (disch := first | omega | (simp <;> omega) | fail) [wrap_i64, wrap_u64, wrap_u8', NeedT.enc_eq]
      refine ⟨fun h54 => ?_, fun h54 => ?_⟩
      · skip
        have hi' : i < n.subs.length := by omega
        refine HT.skip ?_
        simp (disch := first | omega | (simp <;> omega) | fail) [wrap_i64, wrap_u64, wrap_u8', NeedT.enc_eq]
        refine HT.seq ?_
        refine HT.block ?_
        refine HT.seq ?_
        refine HT.region ?_   -- R12
        simp (disch := first | omega | (simp <;> omega) | fail) [wrap_i64, wrap_u64, wrap_u8', NeedT.enc_eq]
        refine stepK.mk (.call1 _ _ _ _ rfl Ty.hb103 rfl (ih n.subs[i] (List.getElem_mem hi') (lv + 1) (by omega) (by omega)) rfl rfl) ?_
        simp (disch := first | omega | (simp <;> omega) | fail) [wrap_i64, wrap_u64, wrap_u8', NeedT.enc_eq]
        refine HT.cond' ?_   -- if 65
        simp (disch := first | omega | (simp <;> omega) | fail) [wrap_i64, wrap_u64, wrap_u8', NeedT.enc_eq]
        refine ⟨fun h65 => ?_, fun h65 => ?_⟩
        · skip
          refine HT.seq ?_
          refine HT.region ?_   -- R13
          simp (disch := first | omega | (simp <;> omega) | fail) [wrap_i64, wrap_u64, wrap_u8', NeedT.enc_eq]
          refine HT.ret ?_
          have hv := valid_node (n := n) (lv := lv) (by omega) (by omega) (by omega)
          have hb := valids_bad hi' (by simpa using h65)
          simp (disch := first | omega | (simp <;> omega) | fail) [wrap_i64, wrap_u64, wrap_u8', NeedT.enc_eq, hv, hb]
        · skip
          refine HT.skip ?_
          simp (disch := first | omega | (simp <;> omega) | fail) [wrap_i64, wrap_u64, wrap_u8', NeedT.enc_eq]
          refine HT.region ?_   -- R11
          simp (disch := first | omega | (simp <;> omega) | fail) [wrap_i64, wrap_u64, wrap_u8', NeedT.enc_eq]
          refine Round.mk' (⟨i + 1, by omega, by rw [validsN_take hi', hg]; simpa using h65⟩) (by dsimp only; omega) rfl ?_
          simp (disch := first | omega | (simp <;> omega) | fail) [wrap_i64, wrap_u64, wrap_u8', NeedT.enc_eq]
      · skip
        obtain rfl : i = n.subs.length := by omega
        rw [List.take_length] at hg
        refine HT.exit ?_
        simp (disch := first | omega | (simp <;> omega) | fail) [wrap_i64, wrap_u64, wrap_u8', NeedT.enc_eq]
        refine HT.seq ?_
        refine HT.region ?_   -- R14
        simp (disch := first | omega | (simp <;> omega) | fail) [wrap_i64, wrap_u64, wrap_u8', NeedT.enc_eq]
        refine HT.ret ?_
        have hv := valid_node (n := n) (lv := lv) (by omega) (by omega) (by omega)
        simp (disch := first | omega | (simp <;> omega) | fail) [wrap_i64, wrap_u64, wrap_u8', NeedT.enc_eq, hv, hg]
        omega
theorem right_spec (n : NeedT) : NeedB 140737488355328 n → ∀ lv : Int, 0 ≤ lv → lv ≤ 41 → Spec1 Tryz.prog 103 [.agg (needC n), i64 lv] (bo (validN n lv)) := by
  refine needInd' (p := fun n => NeedB 140737488355328 n → ∀ lv : Int, 0 ≤ lv → lv ≤ 41 → Spec1 Tryz.prog 103 [.agg (needC n), i64 lv] (bo (validN n lv))) (fun n ih hb lv h0 hl => ?_) n
  exact right_of n lv hb.len h0 hl fun x hx m h0 hl => ih x hx (hb.sub hx) m h0 hl
theorem valid_subs {n : NeedT} {lv : Int} (h : validN n lv = true) {x : NeedT} (hx : x ∈ n.subs) : validN x (lv + 1) = true := by
  rw [validN_eq, Bool.and_eq_true] at h
  have h2 := h.2
  split at h2
  · have := (of_decide_eq_true h2).2
    have h0 : n.subs = [] := List.eq_nil_of_length_eq_zero this
    rw [h0] at hx; simp at hx
  · split at h2
    · have := (of_decide_eq_true h2).2.2
      have h0 : n.subs = [] := List.eq_nil_of_length_eq_zero this
      rw [h0] at hx; simp at hx
    · split at h2
      · rw [Bool.and_eq_true] at h2
        exact (validsN_iff _ _).1 h2.2 x hx
      · cases h2
theorem valid_empty {n : NeedT} {lv : Int} (h : validN n lv = true) (hk : n.kind = 1 ∨ n.kind = 2) : n.subs.length = 0 := by
  rw [validN_eq, Bool.and_eq_true, if_pos hk] at h
  exact (of_decide_eq_true h.2).2
theorem valid_kind {n : NeedT} {lv : Int} (h : validN n lv = true) : n.kind = 1 ∨ n.kind = 2 ∨ n.kind = 3 ∨ n.kind = 4 ∨ n.kind = 5 := by
  apply Classical.byContradiction
  intro hk
  rw [valid_other hk] at h; cases h
theorem holds_loop {n : NeedT} {codes : List Int} (h1 : ¬ n.kind = 1) (h2 : ¬ n.kind = 2) (h3 : ¬ n.kind = 3) : holdsN n codes = holdL (decide (n.kind = 5)) (decide (n.kind = 4)) n.subs codes := by
  rw [holdsN_eq, if_neg h1, if_neg h2, if_neg h3]
theorem undec_end {o d : Bool} {codes : List Int} {l : List NeedT} (h : Undec o codes l l.length) : holdL o d l codes = d := holdL_none fun x hx => h x (by rw [List.take_length]; exact hx)
theorem Rright10_spec (n : NeedT) (hb : NeedB 140737488355328 n) : Spec1 Tryz.prog 64 [.agg (needC n)] (bo (validN n 1)) := by
  refine Spec1.of_HT Tryz.func64 rfl (by rw [Tryz.ntmps64]; simp) rfl ?_
  rw [Tryz.ntmps64]
  refine HT.seq ?_
  refine HT.region ?_   -- R0
  simp (disch := first | omega | (simp <;> omega) | fail) [wrap_i64, wrap_u64, wrap_u8']
  refine HT.seq ?_
  refine HT.region ?_   -- R1
  simp (disch := first | omega | (simp <;> omega) | fail) [wrap_i64, wrap_u64, wrap_u8']
  refine stepK.mk (.call1 _ _ _ _ rfl Ty.hb103 rfl (right_spec n hb 1 (by decide) (by decide)) rfl rfl) ?_
  simp (disch := first | omega | (simp <;> omega) | fail) [wrap_i64, wrap_u64, wrap_u8']
  refine HT.ret ?_
  simp (disch := first | omega | (simp <;> omega) | fail) [wrap_i64, wrap_u64, wrap_u8']
theorem EvalC_spec (f : Bool) (codes : List Int) (c : Int) (hc : codes.length ≤ 140737488355328) : Spec1 Tryz.prog 69 [i64 c, .cptr [.sl 1 f (intsHV codes)]] (bo (decide (c ∈ codes))) := by
  refine Spec1.of_HT Tryz.func69 rfl (by rw [Tryz.ntmps69]; simp) rfl ?_
  rw [Tryz.ntmps69]
  refine HT.seq ?_
  refine HT.region ?_   -- R0
  simp (disch := first | omega | (simp <;> omega) | fail) [wrap_i64, wrap_u64, wrap_u8']
  refine HT.seq ?_
  refine HT.region ?_   -- R1
  simp (disch := first | omega | (simp <;> omega) | fail) [wrap_i64, wrap_u64, wrap_u8']
  refine stepK.mk (.call1f _ _ _ _ _ rfl Ty.hb70 rfl rfl (Contains_spec f codes c hc) rfl) ?_
  simp (disch := first | omega | (simp <;> omega) | fail) [wrap_i64, wrap_u64, wrap_u8']
  refine HT.ret ?_
  simp (disch := first | omega | (simp <;> omega) | fail) [wrap_i64, wrap_u64, wrap_u8']
set_option maxHeartbeats 4000000 in
theorem holds_of (n : NeedT) (f : Bool) (codes : List Int) (hc : codes.length ≤ 140737488355328) (hs : n.subs.length ≤ 140737488355328) (ih : ∀ x ∈ n.subs, Spec1 Tryz.prog 68 [.agg (needC x), .fn (.func 69) [.cptr [.sl 1 f (intsHV codes)]]] (bo (holdsN x codes))) : Spec1 Tryz.prog 68 [.agg (needC n), .fn (.func 69) [.cptr [.sl 1 f (intsHV codes)]]] (bo (holdsN n codes)) := by
  refine Spec1.of_HT Tryz.func68 rfl (by rw [Tryz.ntmps68]; simp) rfl ?_
  rw [Tryz.ntmps68]
  refine HT.seq ?_
  refine HT.region ?_   -- R0
  simp (disch := first | omega | (simp <;> omega) | fail) [wrap_i64, wrap_u64, wrap_u8', NeedT.enc_eq]
  refine HT.seq ?_
  refine HT.seq ?_
  refine HT.region ?_   -- R1
  simp (disch := first | omega | (simp <;> omega) | fail) [wrap_i64, wrap_u64, wrap_u8', NeedT.enc_eq]
  refine HT.block ?_
  refine HT.seq ?_
  refine HT.region ?_   -- R2
  simp (disch := first | omega | (simp <;> omega) | fail) [wrap_i64, wrap_u64, wrap_u8', NeedT.enc_eq]
  refine HT.cond' ?_   -- if 9
  simp (disch := first | omega | (simp <;> omega) | fail) [wrap_i64, wrap_u64, wrap_u8', NeedT.enc_eq]
  refine ⟨fun h9 => ?_, fun h9 => ?_⟩
  · skip
    refine HT.seq ?_
    refine HT.region ?_   -- R3
    simp (disch := first | omega | (simp <;> omega) | fail) [wrap_i64, wrap_u64, wrap_u8', NeedT.enc_eq]
    refine HT.ret ?_
    simp (disch := first | omega | (simp <;> omega) | fail) [wrap_i64, wrap_u64, wrap_u8', NeedT.enc_eq, holdsN_eq, h9]
  · skip
    refine HT.seq ?_
    refine HT.region ?_   -- R4
    simp (disch := first | omega | (simp <;> omega) | fail) [wrap_i64, wrap_u64, wrap_u8', NeedT.enc_eq]
    refine HT.cond' ?_   -- if 11
    simp (disch := first | omega | (simp <;> omega) | fail) [wrap_i64, wrap_u64, wrap_u8', NeedT.enc_eq]
    refine ⟨fun h11 => ?_, fun h11 => ?_⟩
    · skip
      refine HT.seq ?_
      refine HT.region ?_   -- R5
      simp (disch := first | omega | (simp <;> omega) | fail) [wrap_i64, wrap_u64, wrap_u8', NeedT.enc_eq]
      refine HT.ret ?_
      simp (disch := first | omega | (simp <;> omega) | fail) [wrap_i64, wrap_u64, wrap_u8', NeedT.enc_eq, holdsN_eq, h11]
    · skip
      refine HT.seq ?_
      refine HT.region ?_   -- R6
      simp (disch := first | omega | (simp <;> omega) | fail) [wrap_i64, wrap_u64, wrap_u8', NeedT.enc_eq]
      refine HT.cond' ?_   -- if 13
      simp (disch := first | omega | (simp <;> omega) | fail) [wrap_i64, wrap_u64, wrap_u8', NeedT.enc_eq]
      refine ⟨fun h13 => ?_, fun h13 => ?_⟩
      · skip
        refine HT.seq ?_
        refine HT.region ?_   -- R7
        simp (disch := first | omega | (simp <;> omega) | fail) [wrap_i64, wrap_u64, wrap_u8', NeedT.enc_eq]
        refine stepK.mk (.call1 _ _ _ _ rfl Ty.hb69 rfl (EvalC_spec f codes n.gram hc) rfl rfl) ?_
        simp (disch := first | omega | (simp <;> omega) | fail) [wrap_i64, wrap_u64, wrap_u8', NeedT.enc_eq]
        refine HT.ret ?_
        simp (disch := first | omega | (simp <;> omega) | fail) [wrap_i64, wrap_u64, wrap_u8', NeedT.enc_eq, holdsN_eq, h13]
      · skip
        refine HT.skip ?_
        simp (disch := first | omega | (simp <;> omega) | fail) [wrap_i64, wrap_u64, wrap_u8', NeedT.enc_eq]
        refine HT.seq ?_
        refine HT.seq ?_
        refine HT.region ?_   -- R8
        simp (disch := first | omega | (simp <;> omega) | fail) [wrap_i64, wrap_u64, wrap_u8', NeedT.enc_eq]
        refine HT.block ?_
        refine HT.loopK (fun i : {i : Nat // i ≤ n.subs.length ∧ Undec (decide (n.kind = 5)) codes n.subs i} => [.s 22 (i64 i)]) [1, 2, 20, 21] [2] (fun i => n.subs.length - i) (⟨0, by omega, Undec.zero _ _ _⟩) ?_ ?_   -- block 1 turned [22]
        · simp (disch := first | omega | (simp <;> omega) | fail) [wrap_i64, wrap_u64, wrap_u8', NeedT.enc_eq]
        rintro ⟨i, hi, hg⟩
        simp (disch := first | omega | (simp <;> omega) | fail) [wrap_i64, wrap_u64, wrap_u8', NeedT.enc_eq]
        refine HT.seq ?_
        refine HT.region ?_   -- R9
        simp (disch := first | omega | (simp <;> omega) | fail) [wrap_i64, wrap_u64, wrap_u8', NeedT.enc_eq]
        refine HT.seq ?_
        refine HT.cond' ?_   -- if 23
        simp (disch := first | omega | (simp <;> omega) | fail) [wrap_i64, wrap_u64, wrap_u8', NeedT.enc_eq]
        refine ⟨fun h23 => ?_, fun h23 => ?_⟩
        · skip
          have hi' : i < n.subs.length := by omega
          refine HT.skip ?_
          simp (disch := first | omega | (simp <;> omega) | fail) [wrap_i64, wrap_u64, wrap_u8', NeedT.enc_eq]
          refine HT.seq ?_
          refine HT.block ?_
          refine HT.seq ?_
          refine HT.region ?_   -- R10
          simp (disch := first | omega | (simp <;> omega) | fail) [wrap_i64, wrap_u64, wrap_u8', NeedT.enc_eq]
          refine HT.seq ?_
          refine HT.draw [.batch [0, 1, 2, 3, 4, 5, 6]] (by kernel_rfl) ?_   -- R11
          simp (disch := first | omega | (simp <;> omega) | fail) [wrap_i64, wrap_u64, wrap_u8', NeedT.enc_eq]
          refine stepK.mk (.call1 _ _ _ rfl Ty.hb68 rfl rfl (ih n.subs[i] (List.getElem_mem hi'))) ?_
          simp (disch := first | omega | (simp <;> omega) | fail) [wrap_i64, wrap_u64, wrap_u8', NeedT.enc_eq]
          refine HT.cond' ?_   -- if 32
          simp (disch := first | omega | (simp <;> omega) | fail) [wrap_i64, wrap_u64, wrap_u8', NeedT.enc_eq]
          refine ⟨fun h32 => ?_, fun h32 => ?_⟩
          · skip
            refine HT.seq ?_
            refine HT.region ?_   -- R12
            simp (disch := first | omega | (simp <;> omega) | fail) [wrap_i64, wrap_u64, wrap_u8', NeedT.enc_eq]
            refine HT.ret ?_
            have hh := holdL_some (d := decide (n.kind = 4)) (List.getElem_mem hi') h32
            simp (disch := first | omega | (simp <;> omega) | fail) [wrap_i64, wrap_u64, wrap_u8', NeedT.enc_eq, holds_loop h9 h11 h13, hh]
          · skip
            refine HT.skip ?_
            simp (disch := first | omega | (simp <;> omega) | fail) [wrap_i64, wrap_u64, wrap_u8', NeedT.enc_eq]
            refine HT.region ?_   -- R13
            simp (disch := first | omega | (simp <;> omega) | fail) [wrap_i64, wrap_u64, wrap_u8', NeedT.enc_eq]
            refine Round.mk' (⟨i + 1, by omega, hg.succ hi' h32⟩) (by dsimp only; omega) rfl ?_
            simp (disch := first | omega | (simp <;> omega) | fail) [wrap_i64, wrap_u64, wrap_u8', NeedT.enc_eq]
        · skip
          obtain rfl : i = n.subs.length := by omega
          refine HT.exit ?_
          simp (disch := first | omega | (simp <;> omega) | fail) [wrap_i64, wrap_u64, wrap_u8', NeedT.enc_eq]
          refine HT.seq ?_
          refine HT.region ?_   -- R14
          simp (disch := first | omega | (simp <;> omega) | fail) [wrap_i64, wrap_u64, wrap_u8', NeedT.enc_eq]
          refine HT.ret ?_
          simp (disch := first | omega | (simp <;> omega) | fail) [wrap_i64, wrap_u64, wrap_u8', NeedT.enc_eq, holds_loop h9 h11 h13, undec_end hg]
theorem holds_spec (f : Bool) (codes : List Int) (hc : codes.length ≤ 140737488355328) (n : NeedT) : NeedB 140737488355328 n → Spec1 Tryz.prog 68 [.agg (needC n), .fn (.func 69) [.cptr [.sl 1 f (intsHV codes)]]] (bo (holdsN n codes)) := by
  refine needInd' (p := fun n => NeedB 140737488355328 n → Spec1 Tryz.prog 68 [.agg (needC n), .fn (.func 69) [.cptr [.sl 1 f (intsHV codes)]]] (bo (holdsN n codes))) (fun n ih hb => ?_) n
  exact holds_of n f codes hc hb.len fun x hx => ih x hx (hb.sub hx)
theorem holds10_leaf {n : NeedT} {codes : List Int} {lv : Int} (hv : validN n lv = true) (h3 : ¬ n.kind = 3) (hs : n.subs.length = 0) : holdsN n codes = (decide (n.kind = 1) || decide (n.kind = 4)) := by
  have hk := valid_kind hv
  have h0 : n.subs = [] := List.eq_nil_of_length_eq_zero hs
  rw [holdsN_eq, h0]
  by_cases h1 : n.kind = 1
  · simp [h1]
  · rw [if_neg h1]
    by_cases h2 : n.kind = 2
    · simp [h2]
    · rw [if_neg h2, if_neg h3, holdL]; simp [h1]
theorem holds10_end {n : NeedT} {codes : List Int} {lv : Int} (hv : validN n lv = true) (h3 : ¬ n.kind = 3) (hg : Undec (decide (n.kind = 5)) codes n.subs n.subs.length) : holdsN n codes = (decide (n.kind = 1) || decide (n.kind = 4)) := by
  by_cases hs : n.subs.length = 0
  · exact holds10_leaf hv h3 hs
  · have h12 : ¬ n.kind = 1 ∧ ¬ n.kind = 2 := ⟨fun h => hs (valid_empty hv (.inl h)), fun h => hs (valid_empty hv (.inr h))⟩
    rw [holds_loop h12.1 h12.2 h3, undec_end hg]
    simp [h12.1]
theorem holds10_some {n : NeedT} {codes : List Int} {lv : Int} (hv : validN n lv = true) (h3 : ¬ n.kind = 3) {i : Nat} (hi : i < n.subs.length) (h : holdsN n.subs[i] codes = decide (n.kind = 5)) : holdsN n codes = decide (n.kind = 5) := by
  have h12 : ¬ n.kind = 1 ∧ ¬ n.kind = 2 := ⟨fun h => by have := valid_empty hv (.inl h); omega, fun h => by have := valid_empty hv (.inr h); omega⟩
  rw [holds_loop h12.1 h12.2 h3, holdL_some (List.getElem_mem hi) h]
theorem notin_take {l : List Int} {c : Int} {i : Nat} (h : c ∉ l.take i) (hi : i < l.length) (hne : ¬ l[i] = c) : c ∉ l.take (i + 1) := by
  rw [List.take_succ_eq_append_getElem hi, List.mem_append, List.mem_singleton]
  rintro (h1 | h1)
  · exact h h1
  · exact hne h1.symm
set_option maxHeartbeats 4000000 in
theorem holds10_of (n : NeedT) (lv : Int) (codes : List Int) (hc : codes.length ≤ 140737488355328) (hs : n.subs.length ≤ 140737488355328) (hv : validN n lv = true) (ih : ∀ x ∈ n.subs, Spec1 Tryz.prog 104 [.agg (needC x), .sl 1 false (intsHV codes)] (bo (holdsN x codes))) : Spec1 Tryz.prog 104 [.agg (needC n), .sl 1 false (intsHV codes)] (bo (holdsN n codes)) := by
  refine Spec1.of_HT Tryz.func104 rfl (by rw [Tryz.ntmps104]; simp) rfl ?_
  rw [Tryz.ntmps104]
  refine HT.seq ?_
  refine HT.region ?_   -- R0
  simp (disch := first | omega | (simp <;> omega) | fail) [wrap_i64, wrap_u64, wrap_u8', NeedT.enc_eq]
  refine HT.seq ?_
  refine HT.seq ?_
  refine HT.region ?_   -- R1
  simp (disch := first | omega | (simp <;> omega) | fail) [wrap_i64, wrap_u64, wrap_u8', NeedT.enc_eq]
  refine HT.cond' ?_   -- if 9
  simp (disch := first | omega | (simp <;> omega) | fail) [wrap_i64, wrap_u64, wrap_u8', NeedT.enc_eq]
  refine ⟨fun h9 => ?_, fun h9 => ?_⟩
  · skip
    refine HT.seq ?_
    refine HT.seq ?_
    refine HT.region ?_   -- R2
    simp (disch := first | omega | (simp <;> omega) | fail) [wrap_i64, wrap_u64, wrap_u8', NeedT.enc_eq]
    refine HT.block ?_
    refine HT.loopK (fun k : {k : Nat // k ≤ codes.length ∧ n.gram ∉ codes.take k} => [.s 5 (i64 k)]) [1, 2] [2] (fun k => codes.length - k) (⟨0, by omega, by simp⟩) ?_ ?_   -- block 0 turned [5]
    · simp (disch := first | omega | (simp <;> omega) | fail) [wrap_i64, wrap_u64, wrap_u8', NeedT.enc_eq]
    rintro ⟨k, hk, hni⟩
    simp (disch := first | omega | (simp <;> omega) | fail) [wrap_i64, wrap_u64, wrap_u8', NeedT.enc_eq]
    refine HT.seq ?_
    refine HT.seq ?_
    refine HT.region ?_   -- R3
    simp (disch := first | omega | (simp <;> omega) | fail) [wrap_i64, wrap_u64, wrap_u8', NeedT.enc_eq]
    refine HT.cond' ?_   -- if 13
    simp (disch := first | omega | (simp <;> omega) | fail) [wrap_i64, wrap_u64, wrap_u8', NeedT.enc_eq]
    refine ⟨fun h13 => ?_, fun h13 => ?_⟩
    · skip
      have hk' : k < codes.length := by omega
      refine HT.skip ?_
      simp (disch := first | omega | (simp <;> omega) | fail) [wrap_i64, wrap_u64, wrap_u8', NeedT.enc_eq]
      refine HT.seq ?_
      refine HT.block ?_
      refine HT.seq ?_
      refine HT.draw [.batch [0, 1, 2, 3, 4, 5, 6]] (by kernel_rfl) ?_   -- R5
      simp (disch := first | omega | (simp <;> omega) | fail) [wrap_i64, wrap_u64, wrap_u8', NeedT.enc_eq]
      refine HT.cond' ?_   -- if 22
      simp (disch := first | omega | (simp <;> omega) | fail) [wrap_i64, wrap_u64, wrap_u8', NeedT.enc_eq]
      refine ⟨fun h22 => ?_, fun h22 => ?_⟩
      · skip
        refine HT.seq ?_
        refine HT.region ?_   -- R6
        simp (disch := first | omega | (simp <;> omega) | fail) [wrap_i64, wrap_u64, wrap_u8', NeedT.enc_eq]
        refine HT.ret ?_
        have hm : n.gram ∈ codes := by rw [← h22]; exact List.getElem_mem hk'
        simp (disch := first | omega | (simp <;> omega) | fail) [wrap_i64, wrap_u64, wrap_u8', NeedT.enc_eq, holdsN_eq, h9, hm]
      · skip
        refine HT.skip ?_
        simp (disch := first | omega | (simp <;> omega) | fail) [wrap_i64, wrap_u64, wrap_u8', NeedT.enc_eq]
        refine HT.region ?_   -- R4
        simp (disch := first | omega | (simp <;> omega) | fail) [wrap_i64, wrap_u64, wrap_u8', NeedT.enc_eq]
        refine Round.mk' (⟨k + 1, by omega, notin_take hni hk' h22⟩) (by dsimp only; omega) rfl ?_
        simp (disch := first | omega | (simp <;> omega) | fail) [wrap_i64, wrap_u64, wrap_u8', NeedT.enc_eq]
    · skip
      obtain rfl : k = codes.length := by omega
      rw [List.take_length] at hni
      refine HT.exit ?_
      simp (disch := first | omega | (simp <;> omega) | fail) [wrap_i64, wrap_u64, wrap_u8', NeedT.enc_eq]
      refine HT.seq ?_
      refine HT.region ?_   -- R7
      simp (disch := first | omega | (simp <;> omega) | fail) [wrap_i64, wrap_u64, wrap_u8', NeedT.enc_eq]
      refine HT.ret ?_
      simp (disch := first | omega | (simp <;> omega) | fail) [wrap_i64, wrap_u64, wrap_u8', NeedT.enc_eq, holdsN_eq, h9, hni]
  · skip
    refine HT.skip ?_
    simp (disch := first | omega | (simp <;> omega) | fail) [wrap_i64, wrap_u64, wrap_u8', NeedT.enc_eq]
    refine HT.seq ?_
    refine HT.seq ?_
    refine HT.region ?_   -- R8
    simp (disch := first | omega | (simp <;> omega) | fail) [wrap_i64, wrap_u64, wrap_u8', NeedT.enc_eq]
    refine HT.block ?_
    refine HT.loopK (fun i : {i : Nat // i ≤ n.subs.length ∧ Undec (decide (n.kind = 5)) codes n.subs i} => [.s 6 (i64 i)]) [1, 2, 48, 49, 50] [2] (fun i => n.subs.length - i) (⟨0, by omega, Undec.zero _ _ _⟩) ?_ ?_   -- block 2 turned [6]
    · simp (disch := first | omega | (simp <;> omega) | fail) [wrap_i64, wrap_u64, wrap_u8', NeedT.enc_eq]
    rintro ⟨i, hi, hg⟩
    simp (disch := first | omega | (simp <;> omega) | fail) [wrap_i64, wrap_u64, wrap_u8', NeedT.enc_eq]
    refine HT.seq ?_
    refine HT.seq ?_
    refine HT.region ?_   -- R9
    simp (disch := first | omega | (simp <;> omega) | fail) [wrap_i64, wrap_u64, wrap_u8', NeedT.enc_eq]
    refine HT.cond' ?_   -- if 27
    simp (disch := first | omega | (simp <;> omega) | fail) [wrap_i64, wrap_u64, wrap_u8', NeedT.enc_eq]
    refine ⟨fun h27 => ?_, fun h27 => ?_⟩
    · skip
      have hi' : i < n.subs.length := by omega
      refine HT.skip ?_
      simp (disch := first | omega | (simp <;> omega) | fail) [wrap_i64, wrap_u64, wrap_u8', NeedT.enc_eq]
      refine HT.seq ?_
      refine HT.block ?_
      refine HT.seq ?_
      refine HT.draw [.batch [0, 1, 2, 3, 4, 5, 6, 7, 8, 9, 10]] (by kernel_rfl) ?_   -- R11
      simp (disch := first | omega | (simp <;> omega) | fail) [wrap_i64, wrap_u64, wrap_u8', NeedT.enc_eq]
      refine stepK.mk (.call1 _ _ _ rfl Ty.hb104 rfl rfl (ih n.subs[i] (List.getElem_mem hi'))) ?_
      simp (disch := first | omega | (simp <;> omega) | fail) [wrap_i64, wrap_u64, wrap_u8', NeedT.enc_eq]
      refine HT.cond' ?_   -- if 40
      simp (disch := first | omega | (simp <;> omega) | fail) [wrap_i64, wrap_u64, wrap_u8', NeedT.enc_eq]
      refine ⟨fun h40 => ?_, fun h40 => ?_⟩
      · skip
        refine HT.seq ?_
        refine HT.region ?_   -- R12
        simp (disch := first | omega | (simp <;> omega) | fail) [wrap_i64, wrap_u64, wrap_u8', NeedT.enc_eq]
        refine HT.ret ?_
        have hh := holds10_some hv h9 hi' h40
        simp (disch := first | omega | (simp <;> omega) | fail) [wrap_i64, wrap_u64, wrap_u8', NeedT.enc_eq, hh]
      · skip
        refine HT.skip ?_
        simp (disch := first | omega | (simp <;> omega) | fail) [wrap_i64, wrap_u64, wrap_u8', NeedT.enc_eq]
        refine HT.region ?_   -- R10
        simp (disch := first | omega | (simp <;> omega) | fail) [wrap_i64, wrap_u64, wrap_u8', NeedT.enc_eq]
        refine Round.mk' (⟨i + 1, by omega, hg.succ hi' h40⟩) (by dsimp only; omega) rfl ?_
        simp (disch := first | omega | (simp <;> omega) | fail) [wrap_i64, wrap_u64, wrap_u8', NeedT.enc_eq]
    · skip
      obtain rfl : i = n.subs.length := by omega
      refine HT.exit ?_
      simp (disch := first | omega | (simp <;> omega) | fail) [wrap_i64, wrap_u64, wrap_u8', NeedT.enc_eq]
      refine HT.seq ?_
      by_cases k1 : n.kind = 1
      · skip
        refine HT.region ?_   -- R13
        simp (disch := first | omega | (simp <;> omega) | fail) [wrap_i64, wrap_u64, wrap_u8', NeedT.enc_eq, k1]
        refine HT.ret ?_
        have hh := holds10_end hv h9 hg
        simp (disch := first | omega | (simp <;> omega) | fail) [wrap_i64, wrap_u64, wrap_u8', NeedT.enc_eq, hh, k1]
      refine HT.region ?_   -- R13
      simp (disch := first | omega | (simp <;> omega) | fail) [wrap_i64, wrap_u64, wrap_u8', NeedT.enc_eq, k1]
      refine HT.ret ?_
      have hh := holds10_end hv h9 hg
      simp (disch := first | omega | (simp <;> omega) | fail) [wrap_i64, wrap_u64, wrap_u8', NeedT.enc_eq, hh, k1]
theorem holds10_spec (codes : List Int) (hc : codes.length ≤ 140737488355328) (n : NeedT) : NeedB 140737488355328 n → ∀ lv : Int, validN n lv = true → Spec1 Tryz.prog 104 [.agg (needC n), .sl 1 false (intsHV codes)] (bo (holdsN n codes)) := by
  refine needInd' (p := fun n => NeedB 140737488355328 n → ∀ lv : Int, validN n lv = true → Spec1 Tryz.prog 104 [.agg (needC n), .sl 1 false (intsHV codes)] (bo (holdsN n codes))) (fun n ih hb lv hv => ?_) n
  exact holds10_of n lv codes hc hb.len hv fun x hx => ih x hx (hb.sub hx) (lv + 1) (valid_subs hv hx)
theorem Eval10_spec (n : NeedT) (codes : List Int) (hb : NeedB 140737488355328 n) (hc : codes.length ≤ 140737488355328) : Spec1 Tryz.prog 65 [.agg (needC n), .sl 1 false (intsHV codes)] (bo (validN n 1 && holdsN n codes)) := by
  refine Spec1.of_HT Tryz.func65 rfl (by rw [Tryz.ntmps65]; simp) rfl ?_
  rw [Tryz.ntmps65]
  refine HT.seq ?_
  refine HT.region ?_   -- R0
  simp (disch := first | omega | (simp <;> omega) | fail) [wrap_i64, wrap_u64, wrap_u8']
  refine HT.seq ?_
  by_cases v : validN n 1 = false
  · skip
    refine HT.region ?_   -- R1
    simp (disch := first | omega | (simp <;> omega) | fail) [wrap_i64, wrap_u64, wrap_u8', v]
    refine stepK.mk (.call1 _ _ _ _ rfl Ty.hb64 rfl (Rright10_spec n hb) rfl rfl) ?_
    simp (disch := first | omega | (simp <;> omega) | fail) [wrap_i64, wrap_u64, wrap_u8', v]
    refine HT.ret ?_
    simp (disch := first | omega | (simp <;> omega) | fail) [wrap_i64, wrap_u64, wrap_u8', v]
  rw [Bool.not_eq_false] at v
  refine HT.region ?_   -- R1
  simp (disch := first | omega | (simp <;> omega) | fail) [wrap_i64, wrap_u64, wrap_u8', v]
  refine stepK.mk (.call1 _ _ _ _ rfl Ty.hb64 rfl (Rright10_spec n hb) rfl rfl) ?_
  simp (disch := first | omega | (simp <;> omega) | fail) [wrap_i64, wrap_u64, wrap_u8', v]
  refine stepK.mk (.call1f _ _ _ _ _ rfl Ty.hb104 rfl rfl (holds10_spec codes hc n hb 1 v) rfl) ?_
  simp (disch := first | omega | (simp <;> omega) | fail) [wrap_i64, wrap_u64, wrap_u8', v]
  refine HT.ret ?_
  simp (disch := first | omega | (simp <;> omega) | fail) [wrap_i64, wrap_u64, wrap_u8', v]
theorem Eval_spec (n : NeedT) (f : Bool) (codes : List Int) (hb : NeedB 140737488355328 n) (hc : codes.length ≤ 140737488355328) : Spec1 Tryz.prog 37 [.agg (needC n), .sl 1 f (intsHV codes)] (bo (validN n 1 && holdsN n codes)) := by
  refine Spec1.of_HT Tryz.func37 rfl (by rw [Tryz.ntmps37]; simp) rfl ?_
  rw [Tryz.ntmps37]
  refine HT.seq ?_
  refine HT.region ?_   -- R0
  simp (disch := first | omega | (simp <;> omega) | fail) [wrap_i64, wrap_u64, wrap_u8']
  refine HT.weaken (HS.le_frzbox 3 3 (by decide) rfl rfl (by simp [isIL, isI])) ?_
  refine HT.seq ?_
  by_cases v : validN n 1 = false
  · skip
    refine HT.region ?_   -- R1
    simp (disch := first | omega | (simp <;> omega) | fail) [wrap_i64, wrap_u64, wrap_u8', v]
    refine stepK.mk (.call1 _ _ _ _ rfl Ty.hb63 rfl (Rright_spec n hb) rfl rfl) ?_
    simp (disch := first | omega | (simp <;> omega) | fail) [wrap_i64, wrap_u64, wrap_u8', v]
    refine HT.ret ?_
    simp (disch := first | omega | (simp <;> omega) | fail) [wrap_i64, wrap_u64, wrap_u8', v]
  rw [Bool.not_eq_false] at v
  refine HT.region ?_   -- R1
  simp (disch := first | omega | (simp <;> omega) | fail) [wrap_i64, wrap_u64, wrap_u8', v]
  refine stepK.mk (.call1 _ _ _ _ rfl Ty.hb63 rfl (Rright_spec n hb) rfl rfl) ?_
  simp (disch := first | omega | (simp <;> omega) | fail) [wrap_i64, wrap_u64, wrap_u8', v]
  refine stepK.mk (.call1f _ _ _ _ _ rfl Ty.hb68 rfl rfl (holds_spec f codes hc n hb) rfl) ?_
  simp (disch := first | omega | (simp <;> omega) | fail) [wrap_i64, wrap_u64, wrap_u8', v]
  refine HT.ret ?_
  simp (disch := first | omega | (simp <;> omega) | fail) [wrap_i64, wrap_u64, wrap_u8', v]
end Go.Hv
set_option linter.unusedVariables false
set_option linter.unusedSimpArgs false
/- Find and Eval of a segment, walked (layer 29). -/
namespace Go.Hv
open Go Go.Hv Go.Proofs Go.RowKit
open Go.Proofs.YtlbmbnpknobjdaaGreatDoor
def glV (t : List UInt8) (d : Doc) : List Gram := (ofV t).map fun c => ⟨c, offV d.text c⟩
@[simp] theorem glV_length (t : List UInt8) (d : Doc) : (glV t d).length = (ofV t).length := by simp [glV]
theorem glV_succ (t : List UInt8) (d : Doc) {j : Nat} (hj : j < (ofV t).length) : (glV t d).take (j + 1) = (glV t d).take j ++ [⟨(ofV t)[j], offV d.text (ofV t)[j]⟩] := by
  rw [List.take_succ_eq_append_getElem (by simpa using hj)]
  simp [glV]
theorem glV_all (t : List UInt8) (d : Doc) : (glV t d).take (ofV t).length = glV t d := by rw [← glV_length t d, List.take_length]
theorem offV_len' (s : List UInt8) (c : Int) : (offV s c).length ≤ s.length := by
  unfold offV
  have := offK_length s (s.length - 2) c
  omega
theorem glV_GB {t : List UInt8} {d : Doc} (ht : t.length ≤ 900) (hd : d.text.length ≤ 900) : GB (glV t d) := by
  refine ⟨by have := ofV_length t; rw [glV_length]; omega, fun g hg => ?_⟩
  obtain ⟨c, _, rfl⟩ := List.mem_map.1 hg
  refine ⟨by have := offV_len' d.text c; show (offV d.text c).length ≤ _; omega, fun y hy => ?_⟩
  obtain ⟨i, hi, _, rfl⟩ := offK_mem (show y ∈ offK d.text (d.text.length - 2) c from hy)
  omega
theorem ofV_pos {t : List UInt8} (ht : ¬ t.length < 3) : 0 < (ofV t).length := by
  rcases Nat.eq_zero_or_pos (ofV t).length with h | h
  · have h0 : ofV t = [] := List.eq_nil_of_length_eq_zero h
    have := (ofV_mem t (codeAt t 0)).2 ⟨0, by omega, rfl⟩
    rw [h0] at this; simp at this
  · exact h
theorem have_sub (l : List Doc) (c : Int) : ∀ d ∈ haveV l c, d ∈ l := fun d hd => (List.mem_filter.1 hd).1
theorem docsV_have (l : List Doc) (c : Int) : docsV (segV l).grams c = (haveV l c).map Doc.id := docsV_seg l c
theorem find29_all (l : List Doc) (t : List UInt8) : find29 (l.take l.length) t = find29 l t := by rw [List.take_length]
set_option maxRecDepth 20000 in
set_option maxHeartbeats 8000000 in
theorem Find_seg (l : List Doc) (t : List UInt8) (hl : IncBy Doc.id l) (h64 : l.length ≤ 64) (hx : ∀ d ∈ l, d.text.length ≤ 900) (ht : t.length ≤ 900) (hT : SegT (segV l)) : Spec1 Tryz.prog 29 [.agg (segV l).enc, .str t] (.sl 2 false (gramsHV (find29 l t))) := by
  have hof := ofV_length t
  refine Spec1.of_HT Tryz.func29 rfl (by rw [Tryz.ntmps29]; simp) rfl ?_
  rw [Tryz.ntmps29]
  refine HT.seq ?_
  refine HT.region ?_   -- R0
  simp (disch := first | omega | (simp <;> omega) | fail) [wrap_i64, wrap_u64, wrap_u8']
  refine HT.seq ?_
  refine HT.region ?_   -- R1
  simp (disch := first | omega | (simp <;> omega) | fail) [wrap_i64, wrap_u64, wrap_u8']
  refine HT.weaken (HS.le_own (t := 5) 200 62 2 _ (by decide) rfl (by decide)) ?_
  refine HT.seq ?_
  refine HT.seq ?_
  refine HT.region ?_   -- R2
  simp (disch := first | omega | (simp <;> omega) | fail) [wrap_i64, wrap_u64, wrap_u8']
  refine HT.cond' ?_   -- if 19
  simp (disch := first | omega | (simp <;> omega) | fail) [wrap_i64, wrap_u64, wrap_u8']
  refine ⟨fun h19 => ?_, fun h19 => ?_⟩
  · skip
    refine HT.seq ?_
    refine HT.seq ?_
    refine HT.region ?_   -- R3
    simp (disch := first | omega | (simp <;> omega) | fail) [wrap_i64, wrap_u64, wrap_u8', show (segV l).docs = l from rfl]
    refine HT.block ?_
    refine HT.loopK (fun k : {k : Nat // k ≤ l.length} => [.s 23 (i64 k), .s 5 (.ref 200), .o 200 (.row 62 2 (gramsHV (find29 (l.take k) t)))]) [1, 21, 22] [] (fun k => l.length - k) (⟨0, by omega⟩) ?_ ?_   -- block 0 turned [5, 23]
    · simp (disch := first | omega | (simp <;> omega) | fail) [wrap_i64, wrap_u64, wrap_u8', show find29 [] t = [] from rfl]
    rintro ⟨k, hk⟩
    simp (disch := first | omega | (simp <;> omega) | fail) [wrap_i64, wrap_u64, wrap_u8']
    refine HT.seq ?_
    refine HT.region ?_   -- R4
    simp (disch := first | omega | (simp <;> omega) | fail) [wrap_i64, wrap_u64, wrap_u8']
    refine HT.seq ?_
    refine HT.cond' ?_   -- if 24
    simp (disch := first | omega | (simp <;> omega) | fail) [wrap_i64, wrap_u64, wrap_u8']
    refine ⟨fun h24 => ?_, fun h24 => ?_⟩
    · skip
      have hk' : k < l.length := by omega
      have hxk := hx _ (List.getElem_mem hk')
      have hfl := find29_len l t k
      refine HT.skip ?_
      simp (disch := first | omega | (simp <;> omega) | fail) [wrap_i64, wrap_u64, wrap_u8']
      refine HT.seq ?_
      refine HT.block ?_
      refine HT.seq ?_
      refine HT.region ?_   -- R5
      simp (disch := first | omega | (simp <;> omega) | fail) [wrap_i64, wrap_u64, wrap_u8']
      refine HT.seq ?_
      refine HT.region ?_   -- R6
      simp (disch := first | omega | (simp <;> omega) | fail) [wrap_i64, wrap_u64, wrap_u8']
      refine stepK.mk (.call1f _ _ _ _ _ rfl Ty.hb59 rfl rfl (Find_spec l[k].text t true (by omega) (by omega)) rfl) ?_
      simp (disch := first | omega | (simp <;> omega) | fail) [wrap_i64, wrap_u64, wrap_u8', fd]
      refine HT.seq ?_
      refine HT.region ?_   -- R7
      simp (disch := first | omega | (simp <;> omega) | fail) [wrap_i64, wrap_u64, wrap_u8']
      refine HT.cond' ?_   -- if 33
      simp (disch := first | omega | (simp <;> omega) | fail) [wrap_i64, wrap_u64, wrap_u8']
      refine ⟨fun h33 => ?_, fun h33 => ?_⟩
      · skip
        have hne : ¬ findV (foldS l[k].text) (foldS t) = [] := by intro e; simp [e] at h33
        refine HT.region ?_   -- R8
        simp (disch := first | omega | (simp <;> omega) | fail) [wrap_i64, wrap_u64, wrap_u8']
        refine HT.region ?_   -- R9
        simp (disch := first | omega | (simp <;> omega) | fail) [wrap_i64, wrap_u64, wrap_u8']
        refine Round.mk' (⟨k + 1, by omega⟩) (by dsimp only; omega) rfl ?_
        simp (disch := first | omega | (simp <;> omega) | fail) [wrap_i64, wrap_u64, wrap_u8', find29_snoc l t hk', fd]
        all_goals first | (rw [if_neg hne]; done) | (rw [if_neg hne]; simp; done) | (rw [if_pos he]; done) | (rw [if_pos he]; simp; done)
      · skip
        have he : findV (foldS l[k].text) (foldS t) = [] := by first | exact h33 | simpa using h33 | (apply List.eq_nil_of_length_eq_zero; omega)
        refine HT.skip ?_
        simp (disch := first | omega | (simp <;> omega) | fail) [wrap_i64, wrap_u64, wrap_u8']
        refine HT.region ?_   -- R9
        simp (disch := first | omega | (simp <;> omega) | fail) [wrap_i64, wrap_u64, wrap_u8']
        refine Round.mk' (⟨k + 1, by omega⟩) (by dsimp only; omega) rfl ?_
        simp (disch := first | omega | (simp <;> omega) | fail) [wrap_i64, wrap_u64, wrap_u8', find29_snoc l t hk', fd]
        all_goals first | (rw [if_neg hne]; done) | (rw [if_neg hne]; simp; done) | (rw [if_pos he]; done) | (rw [if_pos he]; simp; done)
    · skip
      obtain rfl : k = l.length := by omega
      refine HT.exit ?_
      simp (disch := first | omega | (simp <;> omega) | fail) [wrap_i64, wrap_u64, wrap_u8']
      refine HT.seq ?_
      refine HT.region ?_   -- R10
      simp (disch := first | omega | (simp <;> omega) | fail) [wrap_i64, wrap_u64, wrap_u8']
      refine HT.ret ?_
      simp (disch := first | omega | (simp <;> omega) | fail) [wrap_i64, wrap_u64, wrap_u8', find29_all]
  · skip
    have h3 : ¬ t.length < 3 := by omega
    have hpos := ofV_pos h3
    have hdv := docsV_have l (ofV t)[0]
    have hml : (haveV l (ofV t)[0]).length ≤ l.length := List.length_filter_le _ _
    have hfin := find29_have hx h3 (List.getElem_mem hpos)
    refine HT.skip ?_
    simp (disch := first | omega | (simp <;> omega) | fail) [wrap_i64, wrap_u64, wrap_u8']
    refine HT.seq ?_
    refine HT.region ?_   -- R11
    simp (disch := first | omega | (simp <;> omega) | fail) [wrap_i64, wrap_u64, wrap_u8']
    refine stepK.mk (.call1f _ _ _ _ _ rfl Ty.hb60 rfl rfl (Codes_spec t (by omega)) rfl) ?_
    simp (disch := first | omega | (simp <;> omega) | fail) [wrap_i64, wrap_u64, wrap_u8']
    refine HT.seq ?_
    refine HT.seq ?_
    refine HT.draw [.batch [0, 1, 2, 3, 4, 5, 6]] (by kernel_rfl) ?_   -- R12
    simp (disch := first | omega | (simp <;> omega) | fail) [wrap_i64, wrap_u64, wrap_u8', hpos]
    refine stepK.mk (.call1 _ _ _ rfl Ty.hb23 rfl rfl (Docs_spec (segV l) (ofV t)[0] hT.1)) ?_
    simp (disch := first | omega | (simp <;> omega) | fail) [wrap_i64, wrap_u64, wrap_u8', hpos, hdv]
    refine HT.block ?_
    refine HT.loopK (fun k : {k : Nat // k ≤ (haveV l (ofV t)[0]).length} => [.s 51 (i64 k), .s 5 (.ref 200), .o 200 (.row 62 2 (gramsHV (find29 ((haveV l (ofV t)[0]).take k) t)))]) [1, 2, 9, 49, 50] [2] (fun k => (haveV l (ofV t)[0]).length - k) (⟨0, by omega⟩) ?_ ?_   -- block 2 turned [5, 51, 79, 80, 81]
    · simp (disch := first | omega | (simp <;> omega) | fail) [wrap_i64, wrap_u64, wrap_u8', show find29 [] t = [] from rfl]
    rintro ⟨k, hk⟩
    simp (disch := first | omega | (simp <;> omega) | fail) [wrap_i64, wrap_u64, wrap_u8']
    refine HT.seq ?_
    refine HT.region ?_   -- R13
    simp (disch := first | omega | (simp <;> omega) | fail) [wrap_i64, wrap_u64, wrap_u8']
    refine HT.seq ?_
    refine HT.cond' ?_   -- if 52
    simp (disch := first | omega | (simp <;> omega) | fail) [wrap_i64, wrap_u64, wrap_u8']
    refine ⟨fun h52 => ?_, fun h52 => ?_⟩
    · skip
      have hk' : k < (haveV l (ofV t)[0]).length := by omega
      have hmem := have_sub l (ofV t)[0] _ (List.getElem_mem hk')
      have hxk := hx _ hmem
      have hfl := find29_len (haveV l (ofV t)[0]) t k
      have hats := fun c => atsV_seg hl c hmem
      have hcd := cand_doc (t := t) hxk h3
      have hGB := glV_GB ht hxk
      refine HT.skip ?_
      simp (disch := first | omega | (simp <;> omega) | fail) [wrap_i64, wrap_u64, wrap_u8']
      refine HT.seq ?_
      refine HT.block ?_
      refine HT.seq ?_
      refine HT.region ?_   -- R14
      simp (disch := first | omega | (simp <;> omega) | fail) [wrap_i64, wrap_u64, wrap_u8']
      refine HT.seq ?_
      refine HT.region ?_   -- R15
      simp (disch := first | omega | (simp <;> omega) | fail) [wrap_i64, wrap_u64, wrap_u8']
      refine HT.weaken (HS.le_own (t := 12) 201 67 2 _ (by decide) rfl (by decide)) ?_
      refine HT.seq ?_
      refine HT.seq ?_
      refine HT.region ?_   -- R16
      simp (disch := first | omega | (simp <;> omega) | fail) [wrap_i64, wrap_u64, wrap_u8']
      refine HT.block ?_
      refine HT.loopK (fun j : {j : Nat // j ≤ (ofV t).length} => [.s 57 (i64 j), .s 12 (.ref 201), .o 201 (.row 67 2 (gramsHV ((glV t (haveV l (ofV t)[0])[k]).take j)))]) [1, 2, 5, 9, 11, 49, 50, 51, 55, 56, 79, 80, 81] [2, 200] (fun j => (ofV t).length - j) (⟨0, by omega⟩) ?_ ?_   -- block 4 turned [12, 57]
      · simp (disch := first | omega | (simp <;> omega) | fail) [wrap_i64, wrap_u64, wrap_u8']
      rintro ⟨j, hj⟩
      simp (disch := first | omega | (simp <;> omega) | fail) [wrap_i64, wrap_u64, wrap_u8']
      refine HT.seq ?_
      refine HT.region ?_   -- R17
      simp (disch := first | omega | (simp <;> omega) | fail) [wrap_i64, wrap_u64, wrap_u8']
      refine HT.seq ?_
      refine HT.cond' ?_   -- if 58
      simp (disch := first | omega | (simp <;> omega) | fail) [wrap_i64, wrap_u64, wrap_u8']
      refine ⟨fun h58 => ?_, fun h58 => ?_⟩
      · skip
        have hj' : j < (ofV t).length := by omega
        refine HT.skip ?_
        simp (disch := first | omega | (simp <;> omega) | fail) [wrap_i64, wrap_u64, wrap_u8']
        refine HT.seq ?_
        refine HT.block ?_
        refine HT.seq ?_
        refine HT.region ?_   -- R18
        simp (disch := first | omega | (simp <;> omega) | fail) [wrap_i64, wrap_u64, wrap_u8']
        refine HT.region ?_   -- R19
        simp (disch := first | omega | (simp <;> omega) | fail) [wrap_i64, wrap_u64, wrap_u8']
        refine stepK.mk (.call1f _ _ _ _ _ rfl Ty.hb25 rfl rfl (At_seg (segV l) (ofV t)[j] (haveV l (ofV t)[0])[k].id hT) rfl) ?_
        simp (disch := first | omega | (simp <;> omega) | fail) [wrap_i64, wrap_u64, wrap_u8', show (segV l).grams = gramsOf l from rfl, hats]
        refine HT.region ?_   -- R20
        simp (disch := first | omega | (simp <;> omega) | fail) [wrap_i64, wrap_u64, wrap_u8']
        refine Round.mk' (⟨j + 1, by omega⟩) (by dsimp only; omega) rfl ?_
        simp (disch := first | omega | (simp <;> omega) | fail) [wrap_i64, wrap_u64, wrap_u8', glV_succ t _ hj', show (segV l).grams = gramsOf l from rfl]
      · skip
        obtain rfl : j = (ofV t).length := by omega
        refine HT.exit ?_
        simp (disch := first | omega | (simp <;> omega) | fail) [wrap_i64, wrap_u64, wrap_u8']
        refine HT.weaken (HS.le_frzref (id := 201) (xr := .sl 2 false (gramsHV (glV t (haveV l (ofV t)[0])[k]))) (xm := .any) (by simp [glV_all])) ?_
        refine HT.seq ?_
        refine HT.region ?_   -- R21
        simp (disch := first | omega | (simp <;> omega) | fail) [wrap_i64, wrap_u64, wrap_u8']
        refine stepK.mk (.callTf _ _ _ _ _ rfl Ty.hb61 rfl rfl (Cand_spec false (glV t (haveV l (ofV t)[0])[k]) t hGB (by omega)) rfl) ?_
        simp (disch := first | omega | (simp <;> omega) | fail) [wrap_i64, wrap_u64, wrap_u8', show candV (glV t (haveV l (ofV t)[0])[k]) t = findV (foldS (haveV l (ofV t)[0])[k].text) (foldS t) from hcd, h3]
        refine HT.seq ?_
        refine HT.region ?_   -- R22
        simp (disch := first | omega | (simp <;> omega) | fail) [wrap_i64, wrap_u64, wrap_u8']
        refine HT.cond' ?_   -- if 82
        simp (disch := first | omega | (simp <;> omega) | fail) [wrap_i64, wrap_u64, wrap_u8']
        refine ⟨fun h82 => ?_, fun h82 => ?_⟩
        · skip
          have hne : ¬ findV (foldS (haveV l (ofV t)[0])[k].text) (foldS t) = [] := by intro e; simp [e] at h82
          refine HT.region ?_   -- R23
          simp (disch := first | omega | (simp <;> omega) | fail) [wrap_i64, wrap_u64, wrap_u8']
          refine HT.region ?_   -- R24
          simp (disch := first | omega | (simp <;> omega) | fail) [wrap_i64, wrap_u64, wrap_u8']
          refine Round.mk' (⟨k + 1, by omega⟩) (by dsimp only; omega) rfl ?_
          simp (disch := first | omega | (simp <;> omega) | fail) [wrap_i64, wrap_u64, wrap_u8', find29_snoc (haveV l (ofV t)[0]) t hk']
          all_goals first | (rw [if_neg hne]; done) | (rw [if_neg hne]; simp; done) | (rw [if_pos he]; done) | (rw [if_pos he]; simp; done)
        · skip
          have he : findV (foldS (haveV l (ofV t)[0])[k].text) (foldS t) = [] := by first | exact h82 | simpa using h82 | (apply List.eq_nil_of_length_eq_zero; omega)
          refine HT.skip ?_
          simp (disch := first | omega | (simp <;> omega) | fail) [wrap_i64, wrap_u64, wrap_u8']
          refine HT.region ?_   -- R24
          simp (disch := first | omega | (simp <;> omega) | fail) [wrap_i64, wrap_u64, wrap_u8']
          refine Round.mk' (⟨k + 1, by omega⟩) (by dsimp only; omega) rfl ?_
          simp (disch := first | omega | (simp <;> omega) | fail) [wrap_i64, wrap_u64, wrap_u8', find29_snoc (haveV l (ofV t)[0]) t hk']
          all_goals first | (rw [if_neg hne]; done) | (rw [if_neg hne]; simp; done) | (rw [if_pos he]; done) | (rw [if_pos he]; simp; done)
    · skip
      obtain rfl : k = (haveV l (ofV t)[0]).length := by omega
      refine HT.exit ?_
      simp (disch := first | omega | (simp <;> omega) | fail) [wrap_i64, wrap_u64, wrap_u8']
      refine HT.seq ?_
      refine HT.region ?_   -- R25
      simp (disch := first | omega | (simp <;> omega) | fail) [wrap_i64, wrap_u64, wrap_u8']
      refine HT.ret ?_
      simp (disch := first | omega | (simp <;> omega) | fail) [wrap_i64, wrap_u64, wrap_u8', find29_all, hfin]
set_option maxRecDepth 20000 in
set_option maxHeartbeats 4000000 in
theorem refFind_seg (l : List Doc) (t : List UInt8) (h64 : l.length ≤ 64) (hx : ∀ d ∈ l, d.text.length ≤ 900) (ht : t.length ≤ 900) : Spec1 Tryz.prog 30 [.agg (segV l).enc, .str t] (.sl 2 false (gramsHV (find29 l t))) := by
  refine Spec1.of_HT Tryz.func30 rfl (by rw [Tryz.ntmps30]; simp) rfl ?_
  rw [Tryz.ntmps30]
  refine HT.seq ?_
  refine HT.region ?_   -- R0
  simp (disch := first | omega | (simp <;> omega) | fail) [wrap_i64, wrap_u64, wrap_u8', show (segV l).docs = l from rfl]
  refine HT.seq ?_
  refine HT.region ?_   -- R1
  simp (disch := first | omega | (simp <;> omega) | fail) [wrap_i64, wrap_u64, wrap_u8', show (segV l).docs = l from rfl]
  refine HT.weaken (HS.le_own (t := 5) 200 62 2 _ (by decide) rfl (by decide)) ?_
  refine HT.seq ?_
  refine HT.seq ?_
  refine HT.region ?_   -- R2
  simp (disch := first | omega | (simp <;> omega) | fail) [wrap_i64, wrap_u64, wrap_u8', show (segV l).docs = l from rfl]
  refine HT.block ?_
  refine HT.loopK (fun k : {k : Nat // k ≤ l.length} => [.s 6 (i64 k), .s 5 (.ref 200), .o 200 (.row 62 2 (gramsHV (find29 (l.take k) t)))]) [1, 2] [2] (fun k => l.length - k) (⟨0, by omega⟩) ?_ ?_   -- block 0 turned [5, 6]
  · simp (disch := first | omega | (simp <;> omega) | fail) [wrap_i64, wrap_u64, wrap_u8', show (segV l).docs = l from rfl, show find29 [] t = [] from rfl]
  rintro ⟨k, hk⟩
  simp (disch := first | omega | (simp <;> omega) | fail) [wrap_i64, wrap_u64, wrap_u8', show (segV l).docs = l from rfl]
  refine HT.seq ?_
  refine HT.seq ?_
  refine HT.region ?_   -- R3
  simp (disch := first | omega | (simp <;> omega) | fail) [wrap_i64, wrap_u64, wrap_u8', show (segV l).docs = l from rfl]
  refine HT.cond' ?_   -- if 13
  simp (disch := first | omega | (simp <;> omega) | fail) [wrap_i64, wrap_u64, wrap_u8', show (segV l).docs = l from rfl]
  refine ⟨fun h13 => ?_, fun h13 => ?_⟩
  · skip
    have hk' : k < l.length := by omega
    have hxk := hx _ (List.getElem_mem hk')
    have hfl := find29_len l t k
    refine HT.skip ?_
    simp (disch := first | omega | (simp <;> omega) | fail) [wrap_i64, wrap_u64, wrap_u8', show (segV l).docs = l from rfl]
    refine HT.seq ?_
    refine HT.block ?_
    refine HT.seq ?_
    refine HT.region ?_   -- R5
    simp (disch := first | omega | (simp <;> omega) | fail) [wrap_i64, wrap_u64, wrap_u8', show (segV l).docs = l from rfl]
    refine stepK.mk (.call1f _ _ _ _ _ rfl Ty.hb62 rfl rfl (refFind_spec l[k].text t true (by omega) (by omega)) rfl) ?_
    simp (disch := first | omega | (simp <;> omega) | fail) [wrap_i64, wrap_u64, wrap_u8', show (segV l).docs = l from rfl, fd]
    refine HT.seq ?_
    refine HT.region ?_   -- R6
    simp (disch := first | omega | (simp <;> omega) | fail) [wrap_i64, wrap_u64, wrap_u8', show (segV l).docs = l from rfl]
    refine HT.cond' ?_   -- if 26
    simp (disch := first | omega | (simp <;> omega) | fail) [wrap_i64, wrap_u64, wrap_u8', show (segV l).docs = l from rfl]
    refine ⟨fun h26 => ?_, fun h26 => ?_⟩
    · skip
      have hne : ¬ findV (foldS l[k].text) (foldS t) = [] := by intro e; simp [e] at h26
      refine HT.region ?_   -- R7
      simp (disch := first | omega | (simp <;> omega) | fail) [wrap_i64, wrap_u64, wrap_u8', show (segV l).docs = l from rfl]
      refine HT.region ?_   -- R4
      simp (disch := first | omega | (simp <;> omega) | fail) [wrap_i64, wrap_u64, wrap_u8', show (segV l).docs = l from rfl]
      refine Round.mk' (⟨k + 1, by omega⟩) (by dsimp only; omega) rfl ?_
      simp (disch := first | omega | (simp <;> omega) | fail) [wrap_i64, wrap_u64, wrap_u8', show (segV l).docs = l from rfl, find29_snoc l t hk', fd]
      all_goals first | (rw [if_neg hne]; done) | (rw [if_neg hne]; simp; done) | (rw [if_pos he]; done) | (rw [if_pos he]; simp; done)
    · skip
      have he : findV (foldS l[k].text) (foldS t) = [] := by first | exact h26 | simpa using h26 | (apply List.eq_nil_of_length_eq_zero; omega)
      refine HT.skip ?_
      simp (disch := first | omega | (simp <;> omega) | fail) [wrap_i64, wrap_u64, wrap_u8', show (segV l).docs = l from rfl]
      refine HT.region ?_   -- R4
      simp (disch := first | omega | (simp <;> omega) | fail) [wrap_i64, wrap_u64, wrap_u8', show (segV l).docs = l from rfl]
      refine Round.mk' (⟨k + 1, by omega⟩) (by dsimp only; omega) rfl ?_
      simp (disch := first | omega | (simp <;> omega) | fail) [wrap_i64, wrap_u64, wrap_u8', show (segV l).docs = l from rfl, find29_snoc l t hk', fd]
      all_goals first | (rw [if_neg hne]; done) | (rw [if_neg hne]; simp; done) | (rw [if_pos he]; done) | (rw [if_pos he]; simp; done)
  · skip
    obtain rfl : k = l.length := by omega
    refine HT.exit ?_
    simp (disch := first | omega | (simp <;> omega) | fail) [wrap_i64, wrap_u64, wrap_u8', show (segV l).docs = l from rfl]
    refine HT.seq ?_
    refine HT.region ?_   -- R8
    simp (disch := first | omega | (simp <;> omega) | fail) [wrap_i64, wrap_u64, wrap_u8', show (segV l).docs = l from rfl]
    refine HT.ret ?_
    simp (disch := first | omega | (simp <;> omega) | fail) [wrap_i64, wrap_u64, wrap_u8', show (segV l).docs = l from rfl, find29_all]
def evalR (l : List Doc) (n : NeedT) : List Int := if validN n 1 = true then eval29 l n else []
theorem eval29_snoc (n : NeedT) {l : List Doc} {k : Nat} (hk : k < l.length) : eval29 (l.take (k + 1)) n = eval29 (l.take k) n ++ if holdsN n (ofV l[k].text) = true then [l[k].id] else [] := by
  unfold eval29
  rw [List.take_succ_eq_append_getElem hk, List.filter_append, List.map_append]
  congr 1
  by_cases h : holdsN n (ofV l[k].text) = true <;> simp [h]
theorem eval29_len (n : NeedT) (l : List Doc) (k : Nat) : (eval29 (l.take k) n).length ≤ l.length := by
  unfold eval29
  have h1 := List.length_filter_le (fun d : Doc => holdsN n (ofV d.text)) (l.take k)
  rw [List.length_take] at h1; rw [List.length_map]; omega
theorem eval29_all (n : NeedT) (l : List Doc) : eval29 (l.take l.length) n = eval29 l n := by rw [List.take_length]
set_option maxRecDepth 20000 in
set_option maxHeartbeats 4000000 in
theorem refEval_seg (l : List Doc) (n : NeedT) (h64 : l.length ≤ 64) (hx : ∀ d ∈ l, d.text.length ≤ 900) (hb : NeedB 140737488355328 n) : Spec1 Tryz.prog 32 [.agg (segV l).enc, .agg (needC n)] (.sl 1 false (intsHV (evalR l n))) := by
  refine Spec1.of_HT Tryz.func32 rfl (by rw [Tryz.ntmps32]; simp) rfl ?_
  rw [Tryz.ntmps32]
  refine HT.seq ?_
  refine HT.region ?_   -- R0
  simp (disch := first | omega | (simp <;> omega) | fail) [wrap_i64, wrap_u64, wrap_u8', show (segV l).docs = l from rfl]
  refine HT.seq ?_
  refine HT.region ?_   -- R1
  simp (disch := first | omega | (simp <;> omega) | fail) [wrap_i64, wrap_u64, wrap_u8', show (segV l).docs = l from rfl]
  refine HT.weaken (HS.le_own (t := 5) 200 3 1 _ (by decide) rfl (by decide)) ?_
  refine HT.seq ?_
  refine HT.seq ?_
  by_cases hv : validN n 1 = false
  · skip
    refine HT.region ?_   -- R2
    simp (disch := first | omega | (simp <;> omega) | fail) [wrap_i64, wrap_u64, wrap_u8', show (segV l).docs = l from rfl, hv]
    refine stepK.mk (.call1f _ _ _ _ _ rfl Ty.hb64 rfl rfl (Rright10_spec n hb) rfl) ?_
    simp (disch := first | omega | (simp <;> omega) | fail) [wrap_i64, wrap_u64, wrap_u8', show (segV l).docs = l from rfl, hv]
    refine HT.cond' ?_   -- if 10
    simp (disch := first | omega | (simp <;> omega) | fail) [wrap_i64, wrap_u64, wrap_u8', show (segV l).docs = l from rfl]
    refine HT.seq ?_
    refine HT.region ?_   -- R3
    simp (disch := first | omega | (simp <;> omega) | fail) [wrap_i64, wrap_u64, wrap_u8', show (segV l).docs = l from rfl]
    refine HT.ret ?_
    simp (disch := first | omega | (simp <;> omega) | fail) [wrap_i64, wrap_u64, wrap_u8', show (segV l).docs = l from rfl, evalR, hv]
  rw [Bool.not_eq_false] at hv
  refine HT.region ?_   -- R2
  simp (disch := first | omega | (simp <;> omega) | fail) [wrap_i64, wrap_u64, wrap_u8', show (segV l).docs = l from rfl, hv]
  refine stepK.mk (.call1f _ _ _ _ _ rfl Ty.hb64 rfl rfl (Rright10_spec n hb) rfl) ?_
  simp (disch := first | omega | (simp <;> omega) | fail) [wrap_i64, wrap_u64, wrap_u8', show (segV l).docs = l from rfl, hv]
  refine HT.cond' ?_   -- if 10
  simp (disch := first | omega | (simp <;> omega) | fail) [wrap_i64, wrap_u64, wrap_u8', show (segV l).docs = l from rfl]
  refine HT.skip ?_
  simp (disch := first | omega | (simp <;> omega) | fail) [wrap_i64, wrap_u64, wrap_u8', show (segV l).docs = l from rfl]
  refine HT.seq ?_
  refine HT.seq ?_
  refine HT.region ?_   -- R4
  simp (disch := first | omega | (simp <;> omega) | fail) [wrap_i64, wrap_u64, wrap_u8', show (segV l).docs = l from rfl]
  refine HT.block ?_
  refine HT.loopK (fun k : {k : Nat // k ≤ l.length} => [.s 6 (i64 k), .s 5 (.ref 200), .o 200 (.row 3 1 (intsHV (eval29 (l.take k) n)))]) [2, 3] [2, 3] (fun k => l.length - k) (⟨0, by omega⟩) ?_ ?_   -- block 0 turned [5, 6]
  · simp (disch := first | omega | (simp <;> omega) | fail) [wrap_i64, wrap_u64, wrap_u8', show (segV l).docs = l from rfl, show eval29 [] n = [] from rfl]
  rintro ⟨k, hk⟩
  simp (disch := first | omega | (simp <;> omega) | fail) [wrap_i64, wrap_u64, wrap_u8', show (segV l).docs = l from rfl]
  refine HT.seq ?_
  refine HT.seq ?_
  refine HT.region ?_   -- R5
  simp (disch := first | omega | (simp <;> omega) | fail) [wrap_i64, wrap_u64, wrap_u8', show (segV l).docs = l from rfl]
  refine HT.cond' ?_   -- if 16
  simp (disch := first | omega | (simp <;> omega) | fail) [wrap_i64, wrap_u64, wrap_u8', show (segV l).docs = l from rfl]
  refine ⟨fun h16 => ?_, fun h16 => ?_⟩
  · skip
    have hk' : k < l.length := by omega
    have hxk := hx _ (List.getElem_mem hk')
    have hfl := eval29_len n l k
    have hof := ofV_length l[k].text
    refine HT.skip ?_
    simp (disch := first | omega | (simp <;> omega) | fail) [wrap_i64, wrap_u64, wrap_u8', show (segV l).docs = l from rfl]
    refine HT.seq ?_
    refine HT.block ?_
    refine HT.seq ?_
    refine HT.draw [.batch [0, 1, 2, 3, 4, 5, 6, 7, 8]] (by kernel_rfl) ?_   -- R7
    simp (disch := first | omega | (simp <;> omega) | fail) [wrap_i64, wrap_u64, wrap_u8', show (segV l).docs = l from rfl]
    refine stepK.mk (.call1 _ _ _ rfl Ty.hb38 rfl rfl (refOf_spec l[k].text (by omega))) ?_
    refine stepK.mk (.call1 _ _ _ rfl Ty.hb65 rfl rfl (Eval10_spec n (ofV l[k].text) hb (by omega))) ?_
    simp (disch := first | omega | (simp <;> omega) | fail) [wrap_i64, wrap_u64, wrap_u8', show (segV l).docs = l from rfl, hv]
    refine HT.cond' ?_   -- if 27
    simp (disch := first | omega | (simp <;> omega) | fail) [wrap_i64, wrap_u64, wrap_u8', show (segV l).docs = l from rfl]
    refine ⟨fun h27 => ?_, fun h27 => ?_⟩
    · skip
      refine HT.region ?_   -- R8
      simp (disch := first | omega | (simp <;> omega) | fail) [wrap_i64, wrap_u64, wrap_u8', show (segV l).docs = l from rfl]
      refine HT.region ?_   -- R6
      simp (disch := first | omega | (simp <;> omega) | fail) [wrap_i64, wrap_u64, wrap_u8', show (segV l).docs = l from rfl]
      refine Round.mk' (⟨k + 1, by omega⟩) (by dsimp only; omega) rfl ?_
      simp (disch := first | omega | (simp <;> omega) | fail) [wrap_i64, wrap_u64, wrap_u8', show (segV l).docs = l from rfl, eval29_snoc n hk', h27]
    · skip
      refine HT.skip ?_
      simp (disch := first | omega | (simp <;> omega) | fail) [wrap_i64, wrap_u64, wrap_u8', show (segV l).docs = l from rfl]
      refine HT.region ?_   -- R6
      simp (disch := first | omega | (simp <;> omega) | fail) [wrap_i64, wrap_u64, wrap_u8', show (segV l).docs = l from rfl]
      refine Round.mk' (⟨k + 1, by omega⟩) (by dsimp only; omega) rfl ?_
      simp (disch := first | omega | (simp <;> omega) | fail) [wrap_i64, wrap_u64, wrap_u8', show (segV l).docs = l from rfl, eval29_snoc n hk', h27]
  · skip
    obtain rfl : k = l.length := by omega
    refine HT.exit ?_
    simp (disch := first | omega | (simp <;> omega) | fail) [wrap_i64, wrap_u64, wrap_u8', show (segV l).docs = l from rfl]
    refine HT.seq ?_
    refine HT.region ?_   -- R9
    simp (disch := first | omega | (simp <;> omega) | fail) [wrap_i64, wrap_u64, wrap_u8', show (segV l).docs = l from rfl]
    refine HT.ret ?_
    simp (disch := first | omega | (simp <;> omega) | fail) [wrap_i64, wrap_u64, wrap_u8', show (segV l).docs = l from rfl, evalR, hv, eval29_all]
end Go.Hv
set_option linter.unusedVariables false
set_option linter.unusedSimpArgs false
/- The law SegmentSizes, given alive (layer 29). -/
namespace Go.Hv
open Go Go.Hv Go.Proofs Go.RowKit
open Go.Proofs.YtlbmbnpknobjdaaGreatDoor
end Go.Hv
set_option linter.unusedVariables false
set_option linter.unusedSimpArgs false
/- Eval of a segment, walked (layer 29). -/
namespace Go.Hv
open Go Go.Hv Go.Proofs Go.RowKit
open Go.Proofs.YtlbmbnpknobjdaaGreatDoor
def rowQ (p : List (Int × Int)) (i : Nat) : HObj := .row 3 1 (intsHV (gatI p ((fI p).getD i 0)))
theorem fI_snoc_get (p : List (Int × Int)) (c g : Int) {i : Nat} (hi : i < (fI p).length) : (fI (p ++ [(c, g)]))[i]? = (fI p)[i]? := by
  rw [fI_snoc]; unfold adK
  split
  · rfl
  · rw [List.getElem?_append_left hi]
theorem rowQ_same {p : List (Int × Int)} {c g : Int} {i : Nat} (hi : i < (fI p).length) (hne : (fI p)[i]? ≠ some c) : rowQ (p ++ [(c, g)]) i = rowQ p i := by
  unfold rowQ
  rw [List.getD_eq_getElem?_getD, List.getD_eq_getElem?_getD, fI_snoc_get p c g hi, List.getElem?_eq_getElem hi, gatI_snoc, if_neg, List.append_nil]
  rw [List.getElem?_eq_getElem hi] at hne
  intro h
  exact hne (by rw [h]; rfl)
theorem rowQ_hit {p : List (Int × Int)} {c g : Int} {i : Nat} (he : (fI (p ++ [(c, g)]))[i]? = some c) : rowQ (p ++ [(c, g)]) i = .row 3 1 (intsHV (gatI p c ++ [g])) := by
  unfold rowQ
  rw [List.getD_eq_getElem?_getD, he, gatI_snoc]
  simp
theorem isIM_fentsQ (p : List (Int × Int)) (ks : List Int) : isIM (fents eI (fun k => HV.sl 1 false (intsHV (gatI p k))) ks) = true := isIM_fents _ _ _ (fun _ => rfl)
theorem fents_keys {K : Type} (enc g : K → HV) (ks : List K) : (fents enc g ks).map (·.1) = ks.map enc := by simp [fents]
theorem find_fents (p : List (Int × Int)) (c : Int) (ks : List Int) : findHV Tryz.prog 3 (.lit (.int .i64 c)) (fents eI (fun k => HV.sl 1 false (intsHV (gatI p k))) ks) 0 = some (if c ∈ ks then some (ks.idxOf c, .sl 1 false (intsHV (gatI p c))) else none) := by
  have h := findHV_of (P := Tryz.prog) eI_eq c (fents eI (fun k => HV.sl 1 false (intsHV (gatI p k))) ks) ks 0 (fents_keys _ _ _)
  rw [show HV.lit (.int .i64 c) = eI c from rfl, h]
  split
  · next hc =>
    have hlt := List.idxOf_lt_length_iff.2 hc
    rw [List.getD_eq_getElem?_getD, fents_get, List.getElem?_eq_getElem hlt]
    simp [List.getElem_idxOf hlt]
  · rfl
theorem pJ_le {g : List Post} {P : Post} (h : ∀ p ∈ g, p.docs.length ≤ 64) (hg : g.length ≤ 128000) (hP : P.docs.length ≤ 64) (k j : Nat) : (pJ g P k j).length ≤ 9000000 := by
  unfold pJ
  rw [List.length_append]
  have h1 := evQ_length (g := g.take k) (m := 64) fun p hp => h p (List.mem_of_mem_take hp)
  have h2 : ((evP P).take j).length ≤ P.docs.length := by rw [List.length_take]; simp [evP]; omega
  have h3 : (g.take k).length ≤ g.length := by rw [List.length_take]; omega
  omega
set_option maxRecDepth 20000 in
set_option maxHeartbeats 8000000 in
theorem Eval_seg (l : List Doc) (n : NeedT) (hl : IncBy Doc.id l) (h64 : l.length ≤ 64) (hx : ∀ d ∈ l, d.text.length ≤ 900) (hb : NeedB 140737488355328 n) (hg1 : (gramsOf l).length ≤ 128000) (hg2 : ∀ p ∈ gramsOf l, p.docs.length ≤ 64) : Spec1 Tryz.prog 31 [.agg (segV l).enc, .agg (needC n)] (.sl 1 false (intsHV (evalR l n))) := by
  have hEl := evQ_length hg2
  have hEl2 : (evQ (gramsOf l)).length ≤ 8192000 := by omega
  refine Spec1.of_HT Tryz.func31 rfl (by rw [Tryz.ntmps31]; simp) rfl ?_
  rw [Tryz.ntmps31]
  refine HT.seq ?_
  refine HT.region ?_   -- R0
  simp (disch := first | omega | (simp <;> omega) | fail) [wrap_i64, wrap_u64, wrap_u8', eI, subM_kents_lo, eq_lo, eq_lo', show (segV l).docs = l from rfl, show (segV l).grams = gramsOf l from rfl]
  refine HT.seq ?_
  refine HT.seq ?_
  by_cases hv : validN n 1 = false
  · skip
    refine HT.region ?_   -- R1
    simp (disch := first | omega | (simp <;> omega) | fail) [wrap_i64, wrap_u64, wrap_u8', eI, subM_kents_lo, eq_lo, eq_lo', show (segV l).docs = l from rfl, show (segV l).grams = gramsOf l from rfl, hv]
    refine stepK.mk (.call1f _ _ _ _ _ rfl Ty.hb63 rfl rfl (Rright_spec n hb) rfl) ?_
    simp (disch := first | omega | (simp <;> omega) | fail) [wrap_i64, wrap_u64, wrap_u8', eI, subM_kents_lo, eq_lo, eq_lo', show (segV l).docs = l from rfl, show (segV l).grams = gramsOf l from rfl, hv]
    refine HT.cond' ?_   -- if 15
    simp (disch := first | omega | (simp <;> omega) | fail) [wrap_i64, wrap_u64, wrap_u8', eI, subM_kents_lo, eq_lo, eq_lo', show (segV l).docs = l from rfl, show (segV l).grams = gramsOf l from rfl]
    refine HT.seq ?_
    refine HT.region ?_   -- R2
    simp (disch := first | omega | (simp <;> omega) | fail) [wrap_i64, wrap_u64, wrap_u8', eI, subM_kents_lo, eq_lo, eq_lo', show (segV l).docs = l from rfl, show (segV l).grams = gramsOf l from rfl]
    refine HT.weaken (HS.le_wk 4 (.sl 1 false []) (by decide) rfl rfl (HLe.nilf 0 1 true)) ?_
    refine HT.ret ?_
    simp (disch := first | omega | (simp <;> omega) | fail) [wrap_i64, wrap_u64, wrap_u8', eI, subM_kents_lo, eq_lo, eq_lo', show (segV l).docs = l from rfl, show (segV l).grams = gramsOf l from rfl, evalR, hv]
  rw [Bool.not_eq_false] at hv
  refine HT.region ?_   -- R1
  simp (disch := first | omega | (simp <;> omega) | fail) [wrap_i64, wrap_u64, wrap_u8', eI, subM_kents_lo, eq_lo, eq_lo', show (segV l).docs = l from rfl, show (segV l).grams = gramsOf l from rfl, hv]
  refine stepK.mk (.call1f _ _ _ _ _ rfl Ty.hb63 rfl rfl (Rright_spec n hb) rfl) ?_
  simp (disch := first | omega | (simp <;> omega) | fail) [wrap_i64, wrap_u64, wrap_u8', eI, subM_kents_lo, eq_lo, eq_lo', show (segV l).docs = l from rfl, show (segV l).grams = gramsOf l from rfl, hv]
  refine HT.cond' ?_   -- if 15
  simp (disch := first | omega | (simp <;> omega) | fail) [wrap_i64, wrap_u64, wrap_u8', eI, subM_kents_lo, eq_lo, eq_lo', show (segV l).docs = l from rfl, show (segV l).grams = gramsOf l from rfl]
  refine HT.skip ?_
  simp (disch := first | omega | (simp <;> omega) | fail) [wrap_i64, wrap_u64, wrap_u8', eI, subM_kents_lo, eq_lo, eq_lo', show (segV l).docs = l from rfl, show (segV l).grams = gramsOf l from rfl]
  refine HT.seq ?_
  refine HT.region ?_   -- R3
  simp (disch := first | omega | (simp <;> omega) | fail) [wrap_i64, wrap_u64, wrap_u8', eI, subM_kents_lo, eq_lo, eq_lo', show (segV l).docs = l from rfl, show (segV l).grams = gramsOf l from rfl]
  refine HT.seq ?_
  refine HT.seq ?_
  refine HT.region ?_   -- R4
  simp (disch := first | omega | (simp <;> omega) | fail) [wrap_i64, wrap_u64, wrap_u8', eI, subM_kents_lo, eq_lo, eq_lo', show (segV l).docs = l from rfl, show (segV l).grams = gramsOf l from rfl]
  refine HT.block ?_
  refine HT.loopK (fun k : {k : Nat // k ≤ (gramsOf l).length} => [.s 20 (i64 k), .o 16 (.map (kents eI 1000 (fI (evQ ((gramsOf l).take k))))), .os (fam 1000 (fI (evQ ((gramsOf l).take k))).length (rowQ (evQ ((gramsOf l).take k))))]) [2, 3, 5, 18, 19] [2, 3] (fun k => (gramsOf l).length - k) (⟨0, by omega⟩) ?_ ?_   -- block 0 turned [20]
  · skip
    simp (disch := first | omega | (simp <;> omega) | fail) [wrap_i64, wrap_u64, wrap_u8', eI, subM_kents_lo, eq_lo, eq_lo', show (segV l).docs = l from rfl, show (segV l).grams = gramsOf l from rfl, show fI (evQ []) = [] from rfl]
    intro id o h
    obtain ⟨i, hi, _⟩ := fam_some h
    exact absurd hi (Nat.not_lt_zero _)
  rintro ⟨k, hk⟩
  simp (disch := first | omega | (simp <;> omega) | fail) [wrap_i64, wrap_u64, wrap_u8', eI, subM_kents_lo, eq_lo, eq_lo', show (segV l).docs = l from rfl, show (segV l).grams = gramsOf l from rfl]
  refine HT.seq ?_
  refine HT.region ?_   -- R5
  simp (disch := first | omega | (simp <;> omega) | fail) [wrap_i64, wrap_u64, wrap_u8', eI, subM_kents_lo, eq_lo, eq_lo', show (segV l).docs = l from rfl, show (segV l).grams = gramsOf l from rfl]
  refine HT.seq ?_
  refine HT.cond' ?_   -- if 21
  simp (disch := first | omega | (simp <;> omega) | fail) [wrap_i64, wrap_u64, wrap_u8', eI, subM_kents_lo, eq_lo, eq_lo', show (segV l).docs = l from rfl, show (segV l).grams = gramsOf l from rfl]
  refine ⟨fun h21 => ?_, fun h21 => ?_⟩
  · skip
    have hk' : k < (gramsOf l).length := by omega
    have hpd := hg2 _ (List.getElem_mem hk')
    refine HT.skip ?_
    simp (disch := first | omega | (simp <;> omega) | fail) [wrap_i64, wrap_u64, wrap_u8', eI, subM_kents_lo, eq_lo, eq_lo', show (segV l).docs = l from rfl, show (segV l).grams = gramsOf l from rfl]
    refine HT.seq ?_
    refine HT.block ?_
    refine HT.seq ?_
    refine HT.region ?_   -- R6
    simp (disch := first | omega | (simp <;> omega) | fail) [wrap_i64, wrap_u64, wrap_u8', eI, subM_kents_lo, eq_lo, eq_lo', show (segV l).docs = l from rfl, show (segV l).grams = gramsOf l from rfl]
    refine HT.seq ?_
    refine HT.region ?_   -- R7
    simp (disch := first | omega | (simp <;> omega) | fail) [wrap_i64, wrap_u64, wrap_u8', eI, subM_kents_lo, eq_lo, eq_lo', show (segV l).docs = l from rfl, show (segV l).grams = gramsOf l from rfl]
    refine HT.block ?_
    refine HT.loopK (fun j : {j : Nat // j ≤ (gramsOf l)[k].docs.length} => [.s 27 (i64 j), .o 16 (.map (kents eI 1000 (fI (pJ (gramsOf l) (gramsOf l)[k] k j)))), .os (fam 1000 (fI (pJ (gramsOf l) (gramsOf l)[k] k j)).length (rowQ (pJ (gramsOf l) (gramsOf l)[k] k j)))]) [2, 3, 5, 7, 18, 19, 20, 25, 26] [2, 3, 7] (fun j => (gramsOf l)[k].docs.length - j) (⟨0, by omega⟩) ?_ ?_   -- block 2 turned [27]
    · skip
      simp (disch := first | omega | (simp <;> omega) | fail) [wrap_i64, wrap_u64, wrap_u8', eI, subM_kents_lo, eq_lo, eq_lo', show (segV l).docs = l from rfl, show (segV l).grams = gramsOf l from rfl, pJ_zero]
      intro id o h
      obtain ⟨i, hi, rfl, rfl⟩ := fam_some h
      simp (disch := first | omega | (simp <;> omega) | fail) [wrap_i64, wrap_u64, wrap_u8', eI, subM_kents_lo, eq_lo, eq_lo', show (segV l).docs = l from rfl, show (segV l).grams = gramsOf l from rfl, fam_at hi, rowQ]
    rintro ⟨j, hj⟩
    simp (disch := first | omega | (simp <;> omega) | fail) [wrap_i64, wrap_u64, wrap_u8', eI, subM_kents_lo, eq_lo, eq_lo', show (segV l).docs = l from rfl, show (segV l).grams = gramsOf l from rfl]
    refine HT.seq ?_
    refine HT.region ?_   -- R8
    simp (disch := first | omega | (simp <;> omega) | fail) [wrap_i64, wrap_u64, wrap_u8', eI, subM_kents_lo, eq_lo, eq_lo', show (segV l).docs = l from rfl, show (segV l).grams = gramsOf l from rfl]
    refine HT.seq ?_
    refine HT.cond' ?_   -- if 28
    simp (disch := first | omega | (simp <;> omega) | fail) [wrap_i64, wrap_u64, wrap_u8', eI, subM_kents_lo, eq_lo, eq_lo', show (segV l).docs = l from rfl, show (segV l).grams = gramsOf l from rfl]
    refine ⟨fun h28 => ?_, fun h28 => ?_⟩
    · skip
      have hj' : j < (gramsOf l)[k].docs.length := by omega
      refine HT.skip ?_
      simp (disch := first | omega | (simp <;> omega) | fail) [wrap_i64, wrap_u64, wrap_u8', eI, subM_kents_lo, eq_lo, eq_lo', show (segV l).docs = l from rfl, show (segV l).grams = gramsOf l from rfl]
      refine HT.seq ?_
      refine HT.block ?_
      refine HT.seq ?_
      refine HT.region ?_   -- R9
      simp (disch := first | omega | (simp <;> omega) | fail) [wrap_i64, wrap_u64, wrap_u8', eI, subM_kents_lo, eq_lo, eq_lo', show (segV l).docs = l from rfl, show (segV l).grams = gramsOf l from rfl]
      have hp1 := pJ_succ (gramsOf l) (gramsOf l)[k] k hj'
      have hpl : (pJ (gramsOf l) (gramsOf l)[k] k j).length ≤ 9000000 := pJ_le hg2 hg1 hpd k j
      have hfl := fI_length (pJ (gramsOf l) (gramsOf l)[k] k j)
      generalize (gramsOf l)[k].docs[j] = g at *
      generalize pJ (gramsOf l) (gramsOf l)[k] k j = p at *
      by_cases cf : g.code ∈ fI p
      · skip
        have hlt := List.idxOf_lt_length_iff.2 cf
        have e1 : fI (p ++ [(g.code, (gramsOf l)[k].code)]) = fI p := by rw [fI_snoc, adK, if_pos cf]
        have hb1 := gatI_length p g.code
        have hgd : rowQ p ((fI p).idxOf g.code) = .row 3 1 (intsHV (gatI p g.code)) := by
          unfold rowQ; rw [List.getD_eq_getElem?_getD, List.getElem?_eq_getElem hlt, List.getElem_idxOf hlt]; rfl
        have hf1 : findHV Tryz.prog 3 (.lit (.int .i64 g.code)) (kents eI 1000 (fI p)) 0 = some (some ((fI p).idxOf g.code, .ref (1000 + (fI p).idxOf g.code))) := by
          have := find_kents (P := Tryz.prog) eI_eq 1000 g.code (fI p); rw [if_pos cf] at this; exact this
        have hs1 : subM (1000 + (fI p).idxOf g.code) .any .any (kents eI 1000 (fI p)) = (kents eI 1000 (fI p)).set ((fI p).idxOf g.code) (.lit (.int .i64 g.code), .any) := subM_kents_at cf
        have hf2 : findHV Tryz.prog 3 (.lit (.int .i64 g.code)) ((kents eI 1000 (fI p)).set ((fI p).idxOf g.code) (.lit (.int .i64 g.code), .any)) 0 = some (some ((fI p).idxOf g.code, .any)) := find_kents_set eI_eq 1000 (fI p) cf .any
        have hgg1 : ((kents eI 1000 (fI p)).set ((fI p).idxOf g.code) (.lit (.int .i64 g.code), .any))[(fI p).idxOf g.code]? = some (.lit (.int .i64 g.code), .any) := kents_set_get (enc := eI) 1000 cf .any
        have hb2 : (kents eI 1000 (fI p)).set ((fI p).idxOf g.code) (.lit (.int .i64 g.code), .ref (1000 + (fI p).idxOf g.code)) = kents eI 1000 (fI p) := kents_back (enc := eI) 1000 cf
        generalize hvv : (gramsOf l)[k].code = v at *
        refine HT.drawT (.pre (.take 0) (.pre (.take 3) (.till [4, 5, 6, 7, 8, 9] [1, 2] (fun r => match r with | 0 => .alt [1, 10] (fun i => match i with | 1 => .alt [2, 10] (fun i => match i with | 2 => .lin [.one 10, .one 11] | _ => .lin [.one 2, .one 11]) | _ => .lin [.batch [1, 2], .one 11]) | 1 => .alt [2, 10] (fun i => match i with | 2 => .lin [.one 10, .one 11] | _ => .lin [.one 2, .one 11]) | _ => .lin [.one 10, .one 11])))) (by kernel_rfl) ?_   -- R10
        simp (disch := first | omega | (simp <;> omega) | fail) [wrap_i64, wrap_u64, wrap_u8', eI, subM_kents_lo, eq_lo, eq_lo', show (segV l).docs = l from rfl, show (segV l).grams = gramsOf l from rfl, hf1, hs1, hf2, hgg1, hb2, hgd, fam_at hlt, hvv]
        repeat' refine And.intro ?_ ?_
        all_goals
          skip
          refine HT.region ?_   -- R11
          simp (disch := first | omega | (simp <;> omega) | fail) [wrap_i64, wrap_u64, wrap_u8', eI, subM_kents_lo, eq_lo, eq_lo', show (segV l).docs = l from rfl, show (segV l).grams = gramsOf l from rfl]
          refine Round.mk' (⟨j + 1, by omega⟩) (by dsimp only; omega) rfl ?_
          simp (disch := first | omega | (simp <;> omega) | fail) [wrap_i64, wrap_u64, wrap_u8', eI, subM_kents_lo, eq_lo, eq_lo', show (segV l).docs = l from rfl, show (segV l).grams = gramsOf l from rfl, hp1]
          first
          | (have e2 : (fI (p ++ [(g.code, v)]))[(fI p).idxOf g.code]? = some g.code := by rw [e1, List.getElem?_eq_getElem hlt, List.getElem_idxOf]
             refine ⟨by rw [e1], fun id o h => ?_⟩
             rw [e1] at h
             obtain ⟨i, hi, rfl, rfl⟩ := fam_some h
             by_cases e : (fI p).idxOf g.code = i
             · subst e
               simp (disch := first | omega | (simp <;> omega) | fail) [wrap_i64, wrap_u64, wrap_u8', eI, subM_kents_lo, eq_lo, eq_lo', show (segV l).docs = l from rfl, show (segV l).grams = gramsOf l from rfl, rowQ_hit e2]
             · have hne : (fI p)[i]? ≠ some g.code := fun h' => e (by
                 have hi2 := List.getElem?_eq_getElem hi
                 rw [hi2] at h'
                 have := (fI_nodup p).idxOf_getElem i hi
                 rw [Option.some.inj h'] at this
                 exact this)
               rw [rowQ_same hi hne]
               simp (disch := first | omega | (simp <;> omega) | fail) [wrap_i64, wrap_u64, wrap_u8', eI, subM_kents_lo, eq_lo, eq_lo', show (segV l).docs = l from rfl, show (segV l).grams = gramsOf l from rfl, fam_at hi, rowQ, e])
          | (have hs2 : subM (1000 + (fI p).length) .any .any (kents eI 1000 (fI p)) = kents eI 1000 (fI p) := subM_kents_out (.inr (Nat.le_refl _))
             have hs3 : subM 41 (.ref (1000 + (fI p).length)) (.mref (1000 + (fI p).length)) (kents eI 1000 (fI p)) = kents eI 1000 (fI p) := subM_kents_out (.inl (by decide))
             refine ⟨?_, fun id o h => ?_⟩
             · rw [e1, kents_snoc]
               have ha : ∀ (a b : List (HV × HV)) i x y, subM i x y (a ++ b) = subM i x y a ++ subM i x y b := fun a b i x y => by simp [subM]
               rw [ha, ha, hs2, hs3]
               simp [subM, eI, show ¬ 41 = 1000 + (fI p).length by omega]
             · obtain ⟨i, hi, rfl, rfl⟩ := fam_some h
               rw [e1, List.length_append, List.length_singleton] at hi
               by_cases e : (fI p).length = i
               · subst e
                 rw [rowQ_hit (by rw [e1, List.getElem?_append_right (Nat.le_refl _), Nat.sub_self]; rfl), gatI_none cf]
                 simp (disch := first | omega | (simp <;> omega) | fail) [wrap_i64, wrap_u64, wrap_u8', eI, subM_kents_lo, eq_lo, eq_lo', show (segV l).docs = l from rfl, show (segV l).grams = gramsOf l from rfl]
               · have hi' : i < (fI p).length := by omega
                 have hne : (fI p)[i]? ≠ some g.code := fun h' => cf (List.mem_of_getElem? h')
                 rw [rowQ_same hi' hne]
                 simp (disch := first | omega | (simp <;> omega) | fail) [wrap_i64, wrap_u64, wrap_u8', eI, subM_kents_lo, eq_lo, eq_lo', show (segV l).docs = l from rfl, show (segV l).grams = gramsOf l from rfl, e, fam_at hi', rowQ])
      have e1 : fI (p ++ [(g.code, (gramsOf l)[k].code)]) = fI p ++ [g.code] := by rw [fI_snoc, adK, if_neg cf]
      have hf1 : findHV Tryz.prog 3 (.lit (.int .i64 g.code)) (kents eI 1000 (fI p)) 0 = some none := by
        have := find_kents (P := Tryz.prog) eI_eq 1000 g.code (fI p); rw [if_neg cf] at this; exact this
      have hs1 : subM 41 .any .any (kents eI 1000 (fI p)) = kents eI 1000 (fI p) := subM_kents_out (.inl (by decide))
      generalize hvv : (gramsOf l)[k].code = v at *
      refine HT.drawT (.pre (.take 0) (.pre (.take 3) (.till [4, 5, 6, 7, 8, 9] [1, 2] (fun r => match r with | 0 => .alt [1, 10] (fun i => match i with | 1 => .alt [2, 10] (fun i => match i with | 2 => .lin [.one 10, .one 11] | _ => .lin [.one 2, .one 11]) | _ => .lin [.batch [1, 2], .one 11]) | 1 => .alt [2, 10] (fun i => match i with | 2 => .lin [.one 10, .one 11] | _ => .lin [.one 2, .one 11]) | _ => .lin [.one 10, .one 11])))) (by kernel_rfl) ?_   -- R10
      simp (disch := first | omega | (simp <;> omega) | fail) [wrap_i64, wrap_u64, wrap_u8', eI, subM_kents_lo, eq_lo, eq_lo', show (segV l).docs = l from rfl, show (segV l).grams = gramsOf l from rfl, hf1, hs1, hvv]
      repeat' refine And.intro ?_ ?_
      all_goals
        skip
        refine HT.weaken (HS.le_fits (M := [.s 27 (i64 j), .o 16 (.map (kents eI 1000 (fI p) ++ [(i64 g.code, .ref 41)])), .o 41 (.row 3 1 (intsHV [v])), .os (fam 1000 (fI p).length (rowQ p)), .s 2 (.ptr 2 0), .s 3 (.ptr 3 0), .s 5 (.mref 16), .s 7 (.ptr 7 0), .s 18 (.sl 2 false (postsHV (gramsOf l))), .s 19 (i64 (gramsOf l).length), .s 20 (i64 k), .s 25 (.sl 2 false (gramsHV (gramsOf l)[k].docs)), .s 26 (i64 (gramsOf l)[k].docs.length), .o 2 (.box [.sl 5 false (docsHV l), .sl 2 false (postsHV (gramsOf l))]), .o 3 (.box (needC n)), .o 7 (.box [i64 v, .sl 2 false (gramsHV (gramsOf l)[k].docs)])]) ?_) ?_
        · simp (disch := first | omega | (simp <;> omega) | fail) [wrap_i64, wrap_u64, wrap_u8', eI, subM_kents_lo, eq_lo, eq_lo', show (segV l).docs = l from rfl, show (segV l).grams = gramsOf l from rfl, fam_not, intsHV]
          intro id o h
          obtain ⟨i, hi, rfl, rfl⟩ := fam_some h
          simp (disch := first | omega | (simp <;> omega) | fail) [wrap_i64, wrap_u64, wrap_u8', eI, subM_kents_lo, eq_lo, eq_lo', show (segV l).docs = l from rfl, show (segV l).grams = gramsOf l from rfl, fam_at hi, rowQ]
        refine HT.weaken (HS.le_ren 41 (1000 + (fI p).length) rfl ?_) ?_
        · simp (disch := first | omega | (simp <;> omega) | fail) [wrap_i64, wrap_u64, wrap_u8', eI, subM_kents_lo, eq_lo, eq_lo', show (segV l).docs = l from rfl, show (segV l).grams = gramsOf l from rfl, fam_not]
        simp only [HObj.sub]
        refine HT.region ?_   -- R11
        simp (disch := first | omega | (simp <;> omega) | fail) [wrap_i64, wrap_u64, wrap_u8', eI, subM_kents_lo, eq_lo, eq_lo', show (segV l).docs = l from rfl, show (segV l).grams = gramsOf l from rfl]
        refine Round.mk' (⟨j + 1, by omega⟩) (by dsimp only; omega) rfl ?_
        simp (disch := first | omega | (simp <;> omega) | fail) [wrap_i64, wrap_u64, wrap_u8', eI, subM_kents_lo, eq_lo, eq_lo', show (segV l).docs = l from rfl, show (segV l).grams = gramsOf l from rfl, hp1]
        first
        | (have e2 : (fI (p ++ [(g.code, v)]))[(fI p).idxOf g.code]? = some g.code := by rw [e1, List.getElem?_eq_getElem hlt, List.getElem_idxOf]
           refine ⟨by rw [e1], fun id o h => ?_⟩
           rw [e1] at h
           obtain ⟨i, hi, rfl, rfl⟩ := fam_some h
           by_cases e : (fI p).idxOf g.code = i
           · subst e
             simp (disch := first | omega | (simp <;> omega) | fail) [wrap_i64, wrap_u64, wrap_u8', eI, subM_kents_lo, eq_lo, eq_lo', show (segV l).docs = l from rfl, show (segV l).grams = gramsOf l from rfl, rowQ_hit e2]
           · have hne : (fI p)[i]? ≠ some g.code := fun h' => e (by
               have hi2 := List.getElem?_eq_getElem hi
               rw [hi2] at h'
               have := (fI_nodup p).idxOf_getElem i hi
               rw [Option.some.inj h'] at this
               exact this)
             rw [rowQ_same hi hne]
             simp (disch := first | omega | (simp <;> omega) | fail) [wrap_i64, wrap_u64, wrap_u8', eI, subM_kents_lo, eq_lo, eq_lo', show (segV l).docs = l from rfl, show (segV l).grams = gramsOf l from rfl, fam_at hi, rowQ, e])
        | (have hs2 : subM (1000 + (fI p).length) .any .any (kents eI 1000 (fI p)) = kents eI 1000 (fI p) := subM_kents_out (.inr (Nat.le_refl _))
           have hs3 : subM 41 (.ref (1000 + (fI p).length)) (.mref (1000 + (fI p).length)) (kents eI 1000 (fI p)) = kents eI 1000 (fI p) := subM_kents_out (.inl (by decide))
           refine ⟨?_, fun id o h => ?_⟩
           · rw [e1, kents_snoc]
             have ha : ∀ (a b : List (HV × HV)) i x y, subM i x y (a ++ b) = subM i x y a ++ subM i x y b := fun a b i x y => by simp [subM]
             rw [ha, ha, hs2, hs3]
             simp [subM, eI, show ¬ 41 = 1000 + (fI p).length by omega]
           · obtain ⟨i, hi, rfl, rfl⟩ := fam_some h
             rw [e1, List.length_append, List.length_singleton] at hi
             by_cases e : (fI p).length = i
             · subst e
               rw [rowQ_hit (by rw [e1, List.getElem?_append_right (Nat.le_refl _), Nat.sub_self]; rfl), gatI_none cf]
               simp (disch := first | omega | (simp <;> omega) | fail) [wrap_i64, wrap_u64, wrap_u8', eI, subM_kents_lo, eq_lo, eq_lo', show (segV l).docs = l from rfl, show (segV l).grams = gramsOf l from rfl]
             · have hi' : i < (fI p).length := by omega
               have hne : (fI p)[i]? ≠ some g.code := fun h' => cf (List.mem_of_getElem? h')
               rw [rowQ_same hi' hne]
               simp (disch := first | omega | (simp <;> omega) | fail) [wrap_i64, wrap_u64, wrap_u8', eI, subM_kents_lo, eq_lo, eq_lo', show (segV l).docs = l from rfl, show (segV l).grams = gramsOf l from rfl, e, fam_at hi', rowQ])
    · skip
      obtain rfl : j = (gramsOf l)[k].docs.length := by omega
      refine HT.exit ?_
      simp (disch := first | omega | (simp <;> omega) | fail) [wrap_i64, wrap_u64, wrap_u8', eI, subM_kents_lo, eq_lo, eq_lo', show (segV l).docs = l from rfl, show (segV l).grams = gramsOf l from rfl]
      refine HT.region ?_   -- R12
      simp (disch := first | omega | (simp <;> omega) | fail) [wrap_i64, wrap_u64, wrap_u8', eI, subM_kents_lo, eq_lo, eq_lo', show (segV l).docs = l from rfl, show (segV l).grams = gramsOf l from rfl]
      refine Round.mk' (⟨k + 1, by omega⟩) (by dsimp only; omega) rfl ?_
      simp (disch := first | omega | (simp <;> omega) | fail) [wrap_i64, wrap_u64, wrap_u8', eI, subM_kents_lo, eq_lo, eq_lo', show (segV l).docs = l from rfl, show (segV l).grams = gramsOf l from rfl, pJ_end (gramsOf l) hk']
      intro id o h
      obtain ⟨i, hi, rfl, rfl⟩ := fam_some h
      simp (disch := first | omega | (simp <;> omega) | fail) [wrap_i64, wrap_u64, wrap_u8', eI, subM_kents_lo, eq_lo, eq_lo', show (segV l).docs = l from rfl, show (segV l).grams = gramsOf l from rfl, fam_at hi, rowQ]
  · skip
    obtain rfl : k = (gramsOf l).length := by omega
    refine HT.exit ?_
    simp (disch := first | omega | (simp <;> omega) | fail) [wrap_i64, wrap_u64, wrap_u8', eI, subM_kents_lo, eq_lo, eq_lo', show (segV l).docs = l from rfl, show (segV l).grams = gramsOf l from rfl]
    have hfl2 := fI_length (evQ (gramsOf l))
    refine HT.weaken (HS.le_frzK (m := 16) (sz := 1) 1000 eI 3 (fun c => intsHV (gatI (evQ (gramsOf l)) c)) (fI (evQ (gramsOf l))) (by decide) ?_ (fun _ => by simp) ?_) ?_
    · simp (disch := first | omega | (simp <;> omega) | fail) [wrap_i64, wrap_u64, wrap_u8', eI, subM_kents_lo, eq_lo, eq_lo', show (segV l).docs = l from rfl, show (segV l).grams = gramsOf l from rfl]
    · intro i c hc
      have hi := getElem?_lt hc
      obtain rfl : (fI (evQ (gramsOf l)))[i] = c := by rw [List.getElem?_eq_getElem hi] at hc; exact Option.some.inj hc
      simp (disch := first | omega | (simp <;> omega) | fail) [wrap_i64, wrap_u64, wrap_u8', eI, subM_kents_lo, eq_lo, eq_lo', show (segV l).docs = l from rfl, show (segV l).grams = gramsOf l from rfl, fam_at hi, rowQ]
    refine HT.weaken (HS.le_frzref (id := 16) (xr := .any) (xm := .mp (fents eI (fun c => .sl 1 false (intsHV (gatI (evQ (gramsOf l)) c))) (fI (evQ (gramsOf l))))) (by simp [frz1, isIM_fentsQ])) ?_
    refine HT.seq ?_
    refine HT.region ?_   -- R13
    simp (disch := first | omega | (simp <;> omega) | fail) [wrap_i64, wrap_u64, wrap_u8', eI, subM_kents_lo, eq_lo, eq_lo', show (segV l).docs = l from rfl, show (segV l).grams = gramsOf l from rfl]
    refine HT.weaken (HS.le_own (t := 10) 200 3 1 _ (by decide) rfl (by decide)) ?_
    refine HT.seq ?_
    refine HT.seq ?_
    refine HT.region ?_   -- R14
    simp (disch := first | omega | (simp <;> omega) | fail) [wrap_i64, wrap_u64, wrap_u8', eI, subM_kents_lo, eq_lo, eq_lo', show (segV l).docs = l from rfl, show (segV l).grams = gramsOf l from rfl]
    refine HT.block ?_
    refine HT.loopK (fun k : {k : Nat // k ≤ l.length} => [.s 47 (i64 k), .s 10 (.ref 200), .o 200 (.row 3 1 (intsHV (eval29 (l.take k) n)))]) [3, 5, 45, 46] [3] (fun k => l.length - k) (⟨0, by omega⟩) ?_ ?_   -- block 4 turned [10, 47]
    · simp (disch := first | omega | (simp <;> omega) | fail) [wrap_i64, wrap_u64, wrap_u8', eI, subM_kents_lo, eq_lo, eq_lo', show (segV l).docs = l from rfl, show (segV l).grams = gramsOf l from rfl, show eval29 [] n = [] from rfl]
    rintro ⟨k, hk⟩
    simp (disch := first | omega | (simp <;> omega) | fail) [wrap_i64, wrap_u64, wrap_u8', eI, subM_kents_lo, eq_lo, eq_lo', show (segV l).docs = l from rfl, show (segV l).grams = gramsOf l from rfl]
    refine HT.seq ?_
    refine HT.region ?_   -- R15
    simp (disch := first | omega | (simp <;> omega) | fail) [wrap_i64, wrap_u64, wrap_u8', eI, subM_kents_lo, eq_lo, eq_lo', show (segV l).docs = l from rfl, show (segV l).grams = gramsOf l from rfl]
    refine HT.seq ?_
    refine HT.cond' ?_   -- if 48
    simp (disch := first | omega | (simp <;> omega) | fail) [wrap_i64, wrap_u64, wrap_u8', eI, subM_kents_lo, eq_lo, eq_lo', show (segV l).docs = l from rfl, show (segV l).grams = gramsOf l from rfl]
    refine ⟨fun h48 => ?_, fun h48 => ?_⟩
    · skip
      have hk' : k < l.length := by omega
      have hxk := hx _ (List.getElem_mem hk')
      have hfl := eval29_len n l k
      have hof := ofV_length l[k].text
      have hgq := gatI_evQ hl (List.getElem_mem hk')
      refine HT.skip ?_
      simp (disch := first | omega | (simp <;> omega) | fail) [wrap_i64, wrap_u64, wrap_u8', eI, subM_kents_lo, eq_lo, eq_lo', show (segV l).docs = l from rfl, show (segV l).grams = gramsOf l from rfl]
      refine HT.seq ?_
      refine HT.block ?_
      refine HT.seq ?_
      refine HT.region ?_   -- R16
      simp (disch := first | omega | (simp <;> omega) | fail) [wrap_i64, wrap_u64, wrap_u8', eI, subM_kents_lo, eq_lo, eq_lo', show (segV l).docs = l from rfl, show (segV l).grams = gramsOf l from rfl]
      refine HT.seq ?_
      by_cases cm : l[k].id ∈ fI (evQ (gramsOf l))
      · skip
        have hf := find_fents (evQ (gramsOf l)) l[k].id (fI (evQ (gramsOf l)))
        rw [if_pos cm, hgq] at hf
        have hE : Spec1 Tryz.prog 37 [.agg (needC n), .sl 1 false (intsHV (ofV l[k].text))] (bo (validN n 1 && holdsN n (ofV l[k].text))) := Eval_spec n false _ hb (by omega)
        refine HT.region ?_   -- R17
        simp (disch := first | omega | (simp <;> omega) | fail) [wrap_i64, wrap_u64, wrap_u8', eI, subM_kents_lo, eq_lo, eq_lo', show (segV l).docs = l from rfl, show (segV l).grams = gramsOf l from rfl, hf]
        refine stepK.mk (.call1f _ _ _ _ _ rfl Ty.hb37 rfl rfl (hE) rfl) ?_
        simp (disch := first | omega | (simp <;> omega) | fail) [wrap_i64, wrap_u64, wrap_u8', eI, subM_kents_lo, eq_lo, eq_lo', show (segV l).docs = l from rfl, show (segV l).grams = gramsOf l from rfl, hf, hv]
        refine HT.cond' ?_   -- if 56
        simp (disch := first | omega | (simp <;> omega) | fail) [wrap_i64, wrap_u64, wrap_u8', eI, subM_kents_lo, eq_lo, eq_lo', show (segV l).docs = l from rfl, show (segV l).grams = gramsOf l from rfl]
        refine ⟨fun h56 => ?_, fun h56 => ?_⟩
        · skip
          refine HT.region ?_   -- R18
          simp (disch := first | omega | (simp <;> omega) | fail) [wrap_i64, wrap_u64, wrap_u8', eI, subM_kents_lo, eq_lo, eq_lo', show (segV l).docs = l from rfl, show (segV l).grams = gramsOf l from rfl]
          refine HT.region ?_   -- R19
          simp (disch := first | omega | (simp <;> omega) | fail) [wrap_i64, wrap_u64, wrap_u8', eI, subM_kents_lo, eq_lo, eq_lo', show (segV l).docs = l from rfl, show (segV l).grams = gramsOf l from rfl]
          refine Round.mk' (⟨k + 1, by omega⟩) (by dsimp only; omega) rfl ?_
          simp (disch := first | omega | (simp <;> omega) | fail) [wrap_i64, wrap_u64, wrap_u8', eI, subM_kents_lo, eq_lo, eq_lo', show (segV l).docs = l from rfl, show (segV l).grams = gramsOf l from rfl, eval29_snoc n hk', h56]
        · skip
          refine HT.skip ?_
          simp (disch := first | omega | (simp <;> omega) | fail) [wrap_i64, wrap_u64, wrap_u8', eI, subM_kents_lo, eq_lo, eq_lo', show (segV l).docs = l from rfl, show (segV l).grams = gramsOf l from rfl]
          refine HT.region ?_   -- R19
          simp (disch := first | omega | (simp <;> omega) | fail) [wrap_i64, wrap_u64, wrap_u8', eI, subM_kents_lo, eq_lo, eq_lo', show (segV l).docs = l from rfl, show (segV l).grams = gramsOf l from rfl]
          refine Round.mk' (⟨k + 1, by omega⟩) (by dsimp only; omega) rfl ?_
          simp (disch := first | omega | (simp <;> omega) | fail) [wrap_i64, wrap_u64, wrap_u8', eI, subM_kents_lo, eq_lo, eq_lo', show (segV l).docs = l from rfl, show (segV l).grams = gramsOf l from rfl, eval29_snoc n hk', h56]
      have hf := find_fents (evQ (gramsOf l)) l[k].id (fI (evQ (gramsOf l)))
      rw [if_neg cm] at hf
      have h0 : ofV l[k].text = [] := by rw [← hgq]; exact gatI_none cm
      have hE : Spec1 Tryz.prog 37 [.agg (needC n), .sl 0 true []] (bo (validN n 1 && holdsN n (ofV l[k].text))) := by
        rw [h0]; exact (Eval_spec n true [] hb (by simp)).args (l := [.agg (needC n), .sl 0 true []]) (HLeL.cons (HLe.refl _) (HLeL.cons (HLe.nil 0 1 true) HLeL.nil))
      refine HT.region ?_   -- R17
      simp (disch := first | omega | (simp <;> omega) | fail) [wrap_i64, wrap_u64, wrap_u8', eI, subM_kents_lo, eq_lo, eq_lo', show (segV l).docs = l from rfl, show (segV l).grams = gramsOf l from rfl, hf]
      refine stepK.mk (.call1f _ _ _ _ _ rfl Ty.hb37 rfl rfl (hE) rfl) ?_
      simp (disch := first | omega | (simp <;> omega) | fail) [wrap_i64, wrap_u64, wrap_u8', eI, subM_kents_lo, eq_lo, eq_lo', show (segV l).docs = l from rfl, show (segV l).grams = gramsOf l from rfl, hf, hv]
      refine HT.cond' ?_   -- if 56
      simp (disch := first | omega | (simp <;> omega) | fail) [wrap_i64, wrap_u64, wrap_u8', eI, subM_kents_lo, eq_lo, eq_lo', show (segV l).docs = l from rfl, show (segV l).grams = gramsOf l from rfl]
      refine ⟨fun h56 => ?_, fun h56 => ?_⟩
      · skip
        refine HT.region ?_   -- R18
        simp (disch := first | omega | (simp <;> omega) | fail) [wrap_i64, wrap_u64, wrap_u8', eI, subM_kents_lo, eq_lo, eq_lo', show (segV l).docs = l from rfl, show (segV l).grams = gramsOf l from rfl]
        refine HT.region ?_   -- R19
        simp (disch := first | omega | (simp <;> omega) | fail) [wrap_i64, wrap_u64, wrap_u8', eI, subM_kents_lo, eq_lo, eq_lo', show (segV l).docs = l from rfl, show (segV l).grams = gramsOf l from rfl]
        refine Round.mk' (⟨k + 1, by omega⟩) (by dsimp only; omega) rfl ?_
        simp (disch := first | omega | (simp <;> omega) | fail) [wrap_i64, wrap_u64, wrap_u8', eI, subM_kents_lo, eq_lo, eq_lo', show (segV l).docs = l from rfl, show (segV l).grams = gramsOf l from rfl, eval29_snoc n hk', h56]
      · skip
        refine HT.skip ?_
        simp (disch := first | omega | (simp <;> omega) | fail) [wrap_i64, wrap_u64, wrap_u8', eI, subM_kents_lo, eq_lo, eq_lo', show (segV l).docs = l from rfl, show (segV l).grams = gramsOf l from rfl]
        refine HT.region ?_   -- R19
        simp (disch := first | omega | (simp <;> omega) | fail) [wrap_i64, wrap_u64, wrap_u8', eI, subM_kents_lo, eq_lo, eq_lo', show (segV l).docs = l from rfl, show (segV l).grams = gramsOf l from rfl]
        refine Round.mk' (⟨k + 1, by omega⟩) (by dsimp only; omega) rfl ?_
        simp (disch := first | omega | (simp <;> omega) | fail) [wrap_i64, wrap_u64, wrap_u8', eI, subM_kents_lo, eq_lo, eq_lo', show (segV l).docs = l from rfl, show (segV l).grams = gramsOf l from rfl, eval29_snoc n hk', h56]
    · skip
      obtain rfl : k = l.length := by omega
      refine HT.exit ?_
      simp (disch := first | omega | (simp <;> omega) | fail) [wrap_i64, wrap_u64, wrap_u8', eI, subM_kents_lo, eq_lo, eq_lo', show (segV l).docs = l from rfl, show (segV l).grams = gramsOf l from rfl]
      refine HT.seq ?_
      refine HT.region ?_   -- R20
      simp (disch := first | omega | (simp <;> omega) | fail) [wrap_i64, wrap_u64, wrap_u8', eI, subM_kents_lo, eq_lo, eq_lo', show (segV l).docs = l from rfl, show (segV l).grams = gramsOf l from rfl]
      refine HT.ret ?_
      simp (disch := first | omega | (simp <;> omega) | fail) [wrap_i64, wrap_u64, wrap_u8', eI, subM_kents_lo, eq_lo, eq_lo', show (segV l).docs = l from rfl, show (segV l).grams = gramsOf l from rfl, evalR, hv, eval29_all]
end Go.Hv
set_option linter.unusedVariables false
set_option linter.unusedSimpArgs false
/- The examples of layer 29. -/
namespace Go.Hv
open Go Go.Hv Go.Proofs Go.RowKit
open Go.Proofs.YtlbmbnpknobjdaaGreatDoor
def exOn : List (List UInt8) := [[109, 97, 105, 110]]
def exA9 : Doc := ⟨3, [114], [97], [97, 98, 99, 97, 98], exOn⟩
def exB9 : Doc := ⟨5, [114], [98], [120, 65, 66, 67], exOn⟩
def exL : List Doc := [exA9, exB9]
theorem exL_right : rightV exL = 0 := by decide +kernel
theorem exL_build : buildV exL = (segV exL, 0) := build_yes exL_right
theorem exL_B : DocsB 140737488355328 exL := by simp [DocsB, DocB, exL, exA9, exB9, exOn]
theorem exL_grams : (gramsOf exL).length = 4 := by decide +kernel
theorem exL_size : sizeV (gramsOf exL) = 5 := by decide +kernel
theorem exL_docs : docsV (gramsOf exL) 6382179 = [3, 5] := by decide +kernel
theorem exL_at : atsV (gramsOf exL) 6382179 5 = [1] := by decide +kernel
def exN : NeedT := .mk 3 6382179 []
theorem exL_eval : evalR exL exN = [3, 5] := by decide +kernel
theorem exL_f1 : find29 exL [66, 99] = [⟨3, [1]⟩, ⟨5, [2]⟩] := by decide +kernel
theorem exL_f2 : find29 exL [97, 98, 99, 97] = [⟨3, [0]⟩] := by decide +kernel
theorem exL_f3 : (find29 exL []).length = 2 := by decide +kernel
theorem exL_text : ∀ d ∈ exL, d.text.length ≤ 900 := by simp [exL, exA9, exB9]
theorem exL_dec : decide ((buildV (segV exL).docs).2 = 0 ∧ segV exL = (buildV (segV exL).docs).1) = true := by
  show decide ((buildV exL).2 = 0 ∧ segV exL = (buildV exL).1) = true
  rw [exL_build]; simp
theorem exL_Q : SegQ (segV exL) := seg_Q exL_right exL_B
theorem same_full (a b : List Int) (ha : a.length ≤ 1000) : Spec1 Tryz.prog 22 [.sl 1 false (intsHV a), .sl 1 true (intsHV b)] (bo (decide (a = b))) :=
  (Same5_spec a b (by omega)).args (l := [.sl 1 false (intsHV a), .sl 1 true (intsHV b)]) (HLeL.cons (HLe.refl _) (HLeL.cons (HLe.full _ _) HLeL.nil))
theorem need_ex : HLeL [i64 3, i64 6382179, .sl 0 true []] (needC exN) := HLeL.cons (HLe.refl _) (HLeL.cons (HLe.refl _) (HLeL.cons (HLe.nilf 0 3 true) HLeL.nil))
theorem evalEx_spec : Spec1 Tryz.prog 31 [.agg (segV exL).enc, .agg [i64 3, i64 6382179, .sl 0 true []]] (.sl 1 false (intsHV [3, 5])) := by
  have h := (Eval_seg exL exN (right_inc exL_right) (by decide) exL_text (.mk _ _ _ (by simp) (by simp)) (by rw [exL_grams]; decide) (fun p hp => by
    obtain ⟨c, _, rfl⟩ := List.mem_map.1 hp
    have := postV_length exL c
    have h2 : exL.length = 2 := rfl
    show (postV exL c).length ≤ 64
    omega)).args (l := [.agg (segV exL).enc, .agg [i64 3, i64 6382179, .sl 0 true []]]) (HLeL.cons (HLe.refl _) (HLeL.cons (HLe.agg need_ex) HLeL.nil))
  rw [exL_eval] at h
  exact h
theorem at_le {l l' : List (List HV)} (hl : l'.length = l.length) (h : ∀ (i : Nat) (x x' : List HV), l[i]? = some x → l'[i]? = some x' → HLeL x x') : HLe (.sl 2 true l) (.sl 2 false l') := HLe.trans (HLe.sl (f := true) hl h) (HLe.full _ _)
theorem ex2_le (a b : Int) (x y : List Int) : HLe (.sl 2 true [[i64 a, .sl 1 true (intsHV x)], [i64 b, .sl 1 true (intsHV y)]]) (.sl 2 false (gramsHV [⟨a, x⟩, ⟨b, y⟩])) :=
  at_le (l' := gramsHV [⟨a, x⟩, ⟨b, y⟩]) rfl fun i u u' h h' => by
    match i with
    | 0 =>
      obtain rfl := Option.some.inj h
      obtain rfl := Option.some.inj h'
      exact HLeL.cons (HLe.refl _) (HLeL.cons (HLe.full _ _) HLeL.nil)
    | 1 =>
      obtain rfl := Option.some.inj h
      obtain rfl := Option.some.inj h'
      exact HLeL.cons (HLe.refl _) (HLeL.cons (HLe.full _ _) HLeL.nil)
    | i + 2 => simp at h
theorem ex1_le (a : Int) (x : List Int) : HLe (.sl 2 true [[i64 a, .sl 1 true (intsHV x)]]) (.sl 2 false (gramsHV [⟨a, x⟩])) :=
  at_le (l' := gramsHV [⟨a, x⟩]) rfl fun i u u' h h' => by
    match i with
    | 0 =>
      obtain rfl := Option.some.inj h
      obtain rfl := Option.some.inj h'
      exact HLeL.cons (HLe.refl _) (HLeL.cons (HLe.full _ _) HLeL.nil)
    | i + 1 => simp at h
theorem sameAt2_spec : Spec1 Tryz.prog 28 [.sl 2 false (gramsHV [⟨3, [1]⟩, ⟨5, [2]⟩]), .sl 2 true [[i64 3, .sl 1 true (intsHV [1])], [i64 5, .sl 1 true (intsHV [2])]]] (bo true) :=
  (SameAt_spec [⟨3, [1]⟩, ⟨5, [2]⟩] [⟨3, [1]⟩, ⟨5, [2]⟩] (by simp) (by simp)).args (l := [.sl 2 false (gramsHV [⟨3, [1]⟩, ⟨5, [2]⟩]), .sl 2 true [[i64 3, .sl 1 true (intsHV [1])], [i64 5, .sl 1 true (intsHV [2])]]]) (HLeL.cons (HLe.refl _) (HLeL.cons (ex2_le 3 5 [1] [2]) HLeL.nil))
theorem sameAt1_spec : Spec1 Tryz.prog 28 [.sl 2 false (gramsHV [⟨3, [0]⟩]), .sl 2 true [[i64 3, .sl 1 true (intsHV [0])]]] (bo true) :=
  (SameAt_spec [⟨3, [0]⟩] [⟨3, [0]⟩] (by simp) (by simp)).args (l := [.sl 2 false (gramsHV [⟨3, [0]⟩]), .sl 2 true [[i64 3, .sl 1 true (intsHV [0])]]]) (HLeL.cons (HLe.refl _) (HLeL.cons (ex1_le 3 [0]) HLeL.nil))
theorem findEx_spec (t : List UInt8) (ht : t.length ≤ 900) : Spec1 Tryz.prog 29 [.agg (segV exL).enc, .str t] (.sl 2 false (gramsHV (find29 exL t))) := Find_seg exL t (right_inc exL_right) (by decide) exL_text ht (seg_T exL_right)
theorem example0_spec  : Spec1 Tryz.prog 39 [] (.sl 5 true [[i64 3, .str [114], .str [97], .str [97, 98, 99, 97, 98], .sl 1 true (strsHV exOn)], [i64 5, .str [114], .str [98], .str [120, 65, 66, 67], .sl 1 true (strsHV exOn)]]) := by
  refine Spec1.of_HT Tryz.func39 rfl (by rw [Tryz.ntmps39]; simp) rfl ?_
  rw [Tryz.ntmps39]
  refine HT.seq ?_
  refine HT.region ?_   -- R0
  simp (disch := first | omega | (simp <;> omega) | fail) [wrap_i64, wrap_u64, wrap_u8']
  refine HT.seq ?_
  refine HT.region ?_   -- R1
  simp (disch := first | omega | (simp <;> omega) | fail) [wrap_i64, wrap_u64, wrap_u8']
  refine HT.seq ?_
  refine HT.region ?_   -- R2
  simp (disch := first | omega | (simp <;> omega) | fail) [wrap_i64, wrap_u64, wrap_u8']
  refine HT.ret ?_
  simp (disch := first | omega | (simp <;> omega) | fail) [wrap_i64, wrap_u64, wrap_u8', strsHV, exOn]
theorem example_spec : Spec1 Tryz.prog 39 [] (.sl 5 false (docsHV exL)) :=
  example0_spec.tell (HLe.trans (HLe.sl (f := true) (es' := docsHV exL) rfl fun i u u' h h' => by
    match i with
    | 0 =>
      obtain rfl := Option.some.inj h
      obtain rfl := Option.some.inj h'
      exact HLeL.cons (HLe.refl _) (HLeL.cons (HLe.refl _) (HLeL.cons (HLe.refl _) (HLeL.cons (HLe.refl _) (HLeL.cons (HLe.full _ _) HLeL.nil))))
    | 1 =>
      obtain rfl := Option.some.inj h
      obtain rfl := Option.some.inj h'
      exact HLeL.cons (HLe.refl _) (HLeL.cons (HLe.refl _) (HLeL.cons (HLe.refl _) (HLeL.cons (HLe.refl _) (HLeL.cons (HLe.full _ _) HLeL.nil))))
    | i + 2 => simp at h) (HLe.full _ _))
theorem exS_docs : (segV exL).docs.length = 2 := rfl
theorem exS_grams : (segV exL).grams.length = 4 := exL_grams
set_option maxRecDepth 20000 in
set_option maxHeartbeats 4000000 in
theorem alive_spec  : Spec1 Tryz.prog 10 [] (bo true) := by
  refine Spec1.of_HT Tryz.func10 rfl (by rw [Tryz.ntmps10]; simp) rfl ?_
  rw [Tryz.ntmps10]
  refine HT.seq ?_
  refine HT.region ?_   -- R0
  simp (disch := first | omega | (simp <;> omega) | fail) [wrap_i64, wrap_u64, wrap_u8']
  refine HT.seq ?_
  refine HT.region ?_   -- R1
  simp (disch := first | omega | (simp <;> omega) | fail) [wrap_i64, wrap_u64, wrap_u8']
  refine stepK.mk (.call1f _ _ _ _ _ rfl Ty.hb39 rfl rfl (example_spec) rfl) ?_
  simp (disch := first | omega | (simp <;> omega) | fail) [wrap_i64, wrap_u64, wrap_u8']
  refine stepK.mk (.callTf _ _ _ _ _ rfl Ty.hb12 rfl rfl (Build_spec exL exL_B) rfl) ?_
  simp (disch := first | omega | (simp <;> omega) | fail) [wrap_i64, wrap_u64, wrap_u8', exL_build]
  refine HT.seq ?_
  refine HT.seq ?_
  refine HT.region ?_   -- R2
  simp (disch := first | omega | (simp <;> omega) | fail) [wrap_i64, wrap_u64, wrap_u8', exS_docs, exS_grams]
  refine stepK.mk (.call1f _ _ _ _ _ rfl Ty.hb16 rfl rfl (Size_spec (segV exL) (seg_S exL_right).1 (seg_S exL_right).2.2 (seg_size exL_right)) rfl) ?_
  simp (disch := first | omega | (simp <;> omega) | fail) [wrap_i64, wrap_u64, wrap_u8', exS_docs, exS_grams, show sizeV (segV exL).grams = 5 from exL_size]
  refine stepK.mk (.call1f _ _ _ _ _ rfl Ty.hb15 rfl rfl (SRight_of (segV exL) exL_Q (build_Q exL_B) Build_spec) rfl) ?_
  simp (disch := first | omega | (simp <;> omega) | fail) [wrap_i64, wrap_u64, wrap_u8', exS_docs, exS_grams, exL_dec]
  refine stepK.mk (.call1f _ _ _ _ _ rfl Ty.hb20 rfl rfl (sSame_spec (segV exL) (segV exL) exL_Q exL_Q) rfl) ?_
  simp (disch := first | omega | (simp <;> omega) | fail) [wrap_i64, wrap_u64, wrap_u8', exS_docs, exS_grams]
  refine HT.cond' ?_   -- if 38
  simp (disch := first | omega | (simp <;> omega) | fail) [wrap_i64, wrap_u64, wrap_u8']
  refine HT.skip ?_
  simp (disch := first | omega | (simp <;> omega) | fail) [wrap_i64, wrap_u64, wrap_u8']
  refine HT.seq ?_
  refine HT.region ?_   -- R4
  simp (disch := first | omega | (simp <;> omega) | fail) [wrap_i64, wrap_u64, wrap_u8']
  refine HT.seq ?_
  refine HT.seq ?_
  refine HT.region ?_   -- R5
  simp (disch := first | omega | (simp <;> omega) | fail) [wrap_i64, wrap_u64, wrap_u8']
  refine stepK.mk (.call1f _ _ _ _ _ rfl Ty.hb23 rfl rfl (Docs_spec (segV exL) 6382179 (seg_S exL_right)) rfl) ?_
  simp (disch := first | omega | (simp <;> omega) | fail) [wrap_i64, wrap_u64, wrap_u8', show docsV (segV exL).grams 6382179 = [3, 5] from exL_docs]
  refine stepK.mk (.call1f _ _ _ _ _ rfl Ty.hb22 rfl rfl (same_full [3, 5] [3, 5] (by decide)) rfl) ?_
  simp (disch := first | omega | (simp <;> omega) | fail) [wrap_i64, wrap_u64, wrap_u8']
  refine stepK.mk (.call1f _ _ _ _ _ rfl Ty.hb25 rfl rfl (At_seg (segV exL) 6382179 5 (seg_T exL_right)) rfl) ?_
  simp (disch := first | omega | (simp <;> omega) | fail) [wrap_i64, wrap_u64, wrap_u8', show atsV (segV exL).grams 6382179 5 = [1] from exL_at]
  refine stepK.mk (.call1f _ _ _ _ _ rfl Ty.hb22 rfl rfl (same_full [1] [1] (by decide)) rfl) ?_
  simp (disch := first | omega | (simp <;> omega) | fail) [wrap_i64, wrap_u64, wrap_u8']
  refine stepK.mk (.call1f _ _ _ _ _ rfl Ty.hb31 rfl rfl (evalEx_spec) rfl) ?_
  simp (disch := first | omega | (simp <;> omega) | fail) [wrap_i64, wrap_u64, wrap_u8']
  refine stepK.mk (.call1f _ _ _ _ _ rfl Ty.hb22 rfl rfl (same_full [3, 5] [3, 5] (by decide)) rfl) ?_
  simp (disch := first | omega | (simp <;> omega) | fail) [wrap_i64, wrap_u64, wrap_u8']
  refine HT.cond' ?_   -- if 61
  simp (disch := first | omega | (simp <;> omega) | fail) [wrap_i64, wrap_u64, wrap_u8']
  refine HT.skip ?_
  simp (disch := first | omega | (simp <;> omega) | fail) [wrap_i64, wrap_u64, wrap_u8']
  refine HT.seq ?_
  refine HT.region ?_   -- R7
  simp (disch := first | omega | (simp <;> omega) | fail) [wrap_i64, wrap_u64, wrap_u8']
  refine stepK.mk (.call1f _ _ _ _ _ rfl Ty.hb29 rfl rfl (findEx_spec [66, 99] (by decide)) rfl) ?_
  simp (disch := first | omega | (simp <;> omega) | fail) [wrap_i64, wrap_u64, wrap_u8', exL_f1]
  refine stepK.mk (.call1f _ _ _ _ _ rfl Ty.hb28 rfl rfl (sameAt2_spec) rfl) ?_
  simp (disch := first | omega | (simp <;> omega) | fail) [wrap_i64, wrap_u64, wrap_u8']
  refine stepK.mk (.call1f _ _ _ _ _ rfl Ty.hb29 rfl rfl (findEx_spec [97, 98, 99, 97] (by decide)) rfl) ?_
  simp (disch := first | omega | (simp <;> omega) | fail) [wrap_i64, wrap_u64, wrap_u8', exL_f2]
  refine stepK.mk (.call1f _ _ _ _ _ rfl Ty.hb28 rfl rfl (sameAt1_spec) rfl) ?_
  simp (disch := first | omega | (simp <;> omega) | fail) [wrap_i64, wrap_u64, wrap_u8']
  refine stepK.mk (.call1f _ _ _ _ _ rfl Ty.hb29 rfl rfl (findEx_spec [] (by decide)) rfl) ?_
  simp (disch := first | omega | (simp <;> omega) | fail) [wrap_i64, wrap_u64, wrap_u8', exL_f3]
  refine HT.ret ?_
  simp (disch := first | omega | (simp <;> omega) | fail) [wrap_i64, wrap_u64, wrap_u8']
end Go.Hv
