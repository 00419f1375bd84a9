import Derived.Test.YtlbmbnpknobjdaaGreatDoorWX2
import Derived.Lib.RowBridge
set_option linter.unusedVariables false
set_option linter.unusedSimpArgs false
/- The postings of documents, gathered code by code in the order in which they come. -/
namespace Go.Hv
def adK (l : List Int) (c : Int) : List Int := if c ∈ l then l else l ++ [c]
def fK (p : List (Int × Gram)) : List Int := p.foldl (fun a x => adK a x.1) []
def gat (p : List (Int × Gram)) (c : Int) : List Gram := (p.filter fun x => decide (x.1 = c)).map Prod.snd
theorem fK_snoc (p : List (Int × Gram)) (c : Int) (g : Gram) : fK (p ++ [(c, g)]) = adK (fK p) c := by simp [fK]
theorem gat_snoc (p : List (Int × Gram)) (c : Int) (g : Gram) (c' : Int) : gat (p ++ [(c, g)]) c' = gat p c' ++ (if c = c' then [g] else []) := by
  unfold gat
  rw [List.filter_append, List.map_append]
  congr 1
  by_cases h : c = c' <;> simp [h]
theorem adK_mem (l : List Int) (c x : Int) : x ∈ adK l c ↔ x ∈ l ∨ x = c := by
  unfold adK
  split
  · next h => exact ⟨.inl, fun h' => by rcases h' with h' | rfl; exact h'; exact h⟩
  · simp
theorem fK_mem (p : List (Int × Gram)) (c : Int) : c ∈ fK p ↔ ∃ x ∈ p, x.1 = c := by
  have : ∀ (p : List (Int × Gram)) (a : List Int), c ∈ p.foldl (fun a x => adK a x.1) a ↔ c ∈ a ∨ ∃ x ∈ p, x.1 = c := by
    intro p
    induction p with
    | nil => simp
    | cons x p ih =>
      intro a
      rw [List.foldl_cons, ih, adK_mem]
      simp [or_assoc, eq_comm]
  unfold fK; rw [this]; simp
theorem adK_nodup {l : List Int} (h : l.Nodup) (c : Int) : (adK l c).Nodup := by
  unfold adK
  split
  · exact h
  · next hc => rw [List.nodup_append]; exact ⟨h, by simp, fun a ha b hb => by simp at hb; subst hb; rintro rfl; exact hc ha⟩
theorem fK_nodup (p : List (Int × Gram)) : (fK p).Nodup := by
  have : ∀ (p : List (Int × Gram)) (a : List Int), a.Nodup → (p.foldl (fun a x => adK a x.1) a).Nodup := by
    intro p
    induction p with
    | nil => exact fun a h => h
    | cons x p ih => exact fun a h => ih _ (adK_nodup h _)
  exact this p [] (by simp)
theorem fK_length (p : List (Int × Gram)) : (fK p).length ≤ p.length := by
  have : ∀ (p : List (Int × Gram)) (a : List Int), (p.foldl (fun a x => adK a x.1) a).length ≤ a.length + p.length := by
    intro p
    induction p with
    | nil => exact fun a => Nat.le_refl _
    | cons x p ih =>
      intro a
      rw [List.foldl_cons]
      refine Nat.le_trans (ih _) ?_
      have : (adK a x.1).length ≤ a.length + 1 := by unfold adK; split <;> simp
      simp; omega
  have := this p []
  simpa [fK] using this
theorem gat_length (p : List (Int × Gram)) (c : Int) : (gat p c).length ≤ p.length := by
  unfold gat; rw [List.length_map]; exact List.length_filter_le _ _
theorem gat_none {p : List (Int × Gram)} {c : Int} (h : c ∉ fK p) : gat p c = [] := by
  unfold gat
  rw [List.filter_eq_nil_iff.2 (fun x hx => by
    intro h2
    exact h ((fK_mem p c).2 ⟨x, hx, of_decide_eq_true h2⟩))]
  rfl
def evsD (d : Doc) : List (Int × Gram) := (gramsV d.text).map fun g => (g.code, ⟨d.id, g.off⟩)
def evsL (l : List Doc) : List (Int × Gram) := l.flatMap evsD
theorem ofVlen (s : List UInt8) : (ofV s).length ≤ s.length := by have := ofK_length s (s.length - 2); unfold ofV; omega
theorem ofVnodup (s : List UInt8) : (ofV s).Nodup := (ofK_inc s _).imp fun h => by intro e; subst e; omega
theorem gat_append (a b : List (Int × Gram)) (c : Int) : gat (a ++ b) c = gat a c ++ gat b c := by simp [gat]
theorem filter_one {l : List Int} (hn : l.Nodup) (c : Int) : l.filter (fun x => decide (x = c)) = if c ∈ l then [c] else [] := by
  induction l with
  | nil => simp
  | cons x l ih =>
    rw [List.nodup_cons] at hn
    by_cases h : x = c
    · subst h
      rw [List.filter_cons_of_pos (by simp), ih hn.2, if_neg hn.1, if_pos (by simp)]
    · rw [List.filter_cons_of_neg (by simpa using h), ih hn.2]
      by_cases h2 : c ∈ l
      · rw [if_pos h2, if_pos (by simp [h2])]
      · rw [if_neg h2, if_neg (by simp [h2]; exact fun e => h e.symm)]
theorem gat_evsD (d : Doc) (c : Int) : gat (evsD d) c = if offV d.text c ≠ [] then [⟨d.id, offV d.text c⟩] else [] := by
  have e : evsD d = (ofV d.text).map fun c => (c, (⟨d.id, offV d.text c⟩ : Gram)) := by
    unfold evsD gramsV offV; rw [List.map_map]; rfl
  unfold gat
  rw [e, List.filter_map]
  have : ((fun x : Int × Gram => decide (x.1 = c)) ∘ fun c => (c, (⟨d.id, offV d.text c⟩ : Gram))) = fun x => decide (x = c) := rfl
  rw [this, filter_one (ofVnodup _), List.map_map]
  by_cases h : c ∈ ofV d.text
  · rw [if_pos h, if_pos ((offV_ne _ _).2 h)]; rfl
  · rw [if_neg h, if_neg (fun h' => h ((offV_ne _ _).1 h'))]; rfl
theorem gat_evsL (l : List Doc) (c : Int) : gat (evsL l) c = postV l c := by
  induction l with
  | nil => rfl
  | cons d l ih =>
    unfold evsL at ih ⊢
    rw [List.flatMap_cons, gat_append, ih, gat_evsD]
    unfold postV
    rw [List.map_cons]
    by_cases h : offV d.text c = []
    · rw [if_neg (by simpa using h), List.filter_cons_of_neg (by simpa using h)]; rfl
    · rw [if_pos h, List.filter_cons_of_pos (by simpa using h)]; rfl
theorem fK_codes (l : List Doc) : (fK (evsL l)).Perm (codesV l) := by
  refine (List.perm_ext_iff_of_nodup (fK_nodup _) ((codesV_inc l).imp fun h => by intro e; subst e; omega)).2 fun c => ?_
  rw [fK_mem, codesV_mem]
  constructor
  · rintro ⟨x, hx, rfl⟩
    obtain ⟨d, hd, hx⟩ := List.mem_flatMap.1 hx
    obtain ⟨g, hg, rfl⟩ := List.mem_map.1 hx
    obtain ⟨c, hc, rfl⟩ := List.mem_map.1 hg
    exact ⟨d, hd, hc⟩
  · rintro ⟨d, hd, hc⟩
    refine ⟨(c, ⟨d.id, offV d.text c⟩), List.mem_flatMap.2 ⟨d, hd, List.mem_map.2 ⟨⟨c, offV d.text c⟩, List.mem_map.2 ⟨c, hc, rfl⟩, rfl⟩⟩, rfl⟩
def pI (l : List Doc) (d : Doc) (k j : Nat) : List (Int × Gram) := evsL (l.take k) ++ (evsD d).take j
theorem pI_zero (l : List Doc) (d : Doc) (k : Nat) : pI l d k 0 = evsL (l.take k) := by simp [pI]
theorem evsD_length (d : Doc) : (evsD d).length = (gramsV d.text).length := by simp [evsD]
theorem pI_succ (l : List Doc) (d : Doc) (k : Nat) {j : Nat} (h : j < (gramsV d.text).length) : pI l d k (j + 1) = pI l d k j ++ [((gramsV d.text)[j].code, ⟨d.id, (gramsV d.text)[j].off⟩)] := by
  have h' : j < (evsD d).length := by rw [evsD_length]; exact h
  unfold pI
  rw [List.append_assoc, List.take_succ_eq_append_getElem h']
  simp [evsD]
theorem pI_end (l : List Doc) {k : Nat} (h : k < l.length) : pI l l[k] k (gramsV l[k].text).length = evsL (l.take (k + 1)) := by
  unfold pI
  rw [List.take_of_length_le (l := evsD l[k]) (by rw [evsD_length]; omega)]
  rw [List.take_succ_eq_append_getElem (i := k) h]
  unfold evsL
  rw [List.flatMap_append, List.flatMap_cons, List.flatMap_nil, List.append_nil]
theorem evsL_length {l : List Doc} (h : ∀ d ∈ l, d.text.length ≤ 2000) : (evsL l).length ≤ l.length * 2000 := by
  induction l with
  | nil => simp [evsL]
  | cons d l ih =>
    have := ih fun x hx => h x (by simp [hx])
    unfold evsL at this ⊢
    rw [List.flatMap_cons, List.length_append, evsD_length]
    have h1 := h d (by simp)
    have h2 : (gramsV d.text).length ≤ d.text.length := by unfold gramsV; rw [List.length_map]; exact Nat.le_trans (ofVlen _) (by omega)
    simp only [List.length_cons]; omega
theorem pI_length {l : List Doc} {d : Doc} (hd : d ∈ l) (h : ∀ d ∈ l, d.text.length ≤ 2000) (k j : Nat) : (pI l d k j).length ≤ l.length * 2000 + 2000 := by
  unfold pI
  rw [List.length_append]
  have h1 := evsL_length (l := l.take k) fun x hx => h x (List.mem_of_mem_take hx)
  have h2 : (gramsV d.text).length ≤ d.text.length := by unfold gramsV; rw [List.length_map]; exact Nat.le_trans (ofVlen _) (by omega)
  have h3 : ((evsD d).take j).length ≤ (gramsV d.text).length := by rw [List.length_take, evsD_length]; omega
  have h4 := h d hd
  have : (l.take k).length ≤ l.length := by rw [List.length_take]; omega
  have := Nat.mul_le_mul_right 2000 this
  omega
end Go.Hv
set_option linter.unusedVariables false
set_option linter.unusedSimpArgs false
namespace Go.Hv
open Go Go.Hv Go.Proofs Go.RowKit
open Go.Proofs.YtlbmbnpknobjdaaGreatDoor
def rowP (p : List (Int × Gram)) (i : Nat) : HObj := .row 62 2 (gramsHV (gat p ((fK p).getD i 0)))
theorem fK_snoc_get (p : List (Int × Gram)) (c : Int) (g : Gram) {i : Nat} (hi : i < (fK p).length) : (fK (p ++ [(c, g)]))[i]? = (fK p)[i]? := by
  rw [fK_snoc]; unfold adK
  split
  · rfl
  · rw [List.getElem?_append_left hi]
theorem rowP_same {p : List (Int × Gram)} {c : Int} {g : Gram} {i : Nat} (hi : i < (fK p).length) (hne : (fK p)[i]? ≠ some c) : rowP (p ++ [(c, g)]) i = rowP p i := by
  unfold rowP
  rw [List.getD_eq_getElem?_getD, List.getD_eq_getElem?_getD, fK_snoc_get p c g hi, List.getElem?_eq_getElem hi, gat_snoc, if_neg, List.append_nil]
  rw [List.getElem?_eq_getElem hi] at hne
  intro h
  exact hne (by rw [h]; rfl)
theorem rowP_hit {p : List (Int × Gram)} {c : Int} {g : Gram} {i : Nat} (he : (fK (p ++ [(c, g)]))[i]? = some c) : rowP (p ++ [(c, g)]) i = .row 62 2 (gramsHV (gat p c ++ [g])) := by
  unfold rowP
  rw [List.getD_eq_getElem?_getD, he, gat_snoc]
  simp
theorem isIM_fentsP (p : List (Int × Gram)) (ks : List Int) : isIM (fents eI (fun k => HV.sl 2 false (gramsHV (gat p k))) ks) = true := isIM_fents _ _ _ (fun _ => rfl)
theorem subM_kents_lo {i : Nat} {x y : HV} {ks : List Int} (h : i < 1000) : subM i x y (kents eI 1000 ks) = kents eI 1000 ks := subM_kents_out (.inl h)
theorem eq_lo {m i : Nat} (h : m < 1000) : (m = 1000 + i) = False := eq_false (by omega)
theorem eq_lo' {m i : Nat} (h : m < 1000) : (1000 + i = m) = False := eq_false (by omega)
/-! ### The postings in order -/
def pst (l : List Doc) (c : Int) : Post := ⟨c, gat (evsL l) c⟩
def leP (a b : Post) : Bool := decide (a.code ≤ b.code)
def pp (p : Post) : Int × HV := (p.code, .sl 2 false (gramsHV p.docs))
theorem posts_pairs (l : List Post) : postsHV l = pairsHV (l.map pp) := by simp [postsHV, pairsHV, pp]
theorem SortPosts_spec (l : List Post) (hr : ∀ p ∈ l, 0 ≤ p.code ∧ p.code < 16777216) (hnd : (l.map (·.code)).Nodup) (hlen : l.length < 4611686018427387904) : SpecS Tryz.prog 43 70 2 (postsHV l) [.fn (.func 44) []] (postsHV (l.mergeSort leP)) := by
  rw [posts_pairs, posts_pairs, List.map_mergeSort (r := leP) (s := leC) (f := pp) (l := l) (fun _ _ _ _ => rfl)]
  refine SortFuncP_spec _ (fun p hp => ?_) ?_ (fun p hp => ?_) (by simpa using hlen)
  · obtain ⟨g, hg, rfl⟩ := List.mem_map.1 hp; exact hr g hg
  · rw [List.map_map]; exact hnd
  · obtain ⟨g, hg, rfl⟩ := List.mem_map.1 hp; simp [pp, isI]
theorem gramsOf_pst (l : List Doc) : gramsOf l = (codesV l).map (pst l) := by
  unfold gramsOf pst
  exact List.map_congr_left fun c _ => by rw [gat_evsL]
theorem posts_perm (l : List Doc) {d : List Nat} (h : (d ++ []).Perm (List.range (fK (evsL l)).length)) : (d.map fun i => (fK (evsL l))[i]?.getD 0).Perm (codesV l) := by
  have := perm_taken 0 h
  simp only [List.getD_eq_getElem?_getD] at this
  exact this.trans (fK_codes l)
theorem posts_sorted (l : List Doc) {d : List Nat} (h : (d ++ []).Perm (List.range (fK (evsL l)).length)) : (d.map fun i => pst l ((fK (evsL l))[i]?.getD 0)).mergeSort leP = gramsOf l := by
  rw [gramsOf_pst, ← mergeSort_of_inc (codesV_inc l) (posts_perm l h)]
  have := List.map_mergeSort (r := leI) (s := leP) (f := pst l) (l := d.map fun i => (fK (evsL l))[i]?.getD 0) (fun _ _ _ _ => rfl)
  rw [List.map_map] at this
  exact this.symm
theorem posts_ok (l : List Doc) {d : List Nat} (h : (d ++ []).Perm (List.range (fK (evsL l)).length)) :
    (∀ p ∈ d.map (fun i => pst l ((fK (evsL l))[i]?.getD 0)), 0 ≤ p.code ∧ p.code < 16777216) ∧ ((d.map (fun i => pst l ((fK (evsL l))[i]?.getD 0))).map (·.code)).Nodup := by
  have hp := posts_perm l h
  refine ⟨fun p hm => ?_, ?_⟩
  · obtain ⟨i, hi, rfl⟩ := List.mem_map.1 hm
    have : (fK (evsL l))[i]?.getD 0 ∈ codesV l := (hp.mem_iff).1 (List.mem_map.2 ⟨i, hi, rfl⟩)
    obtain ⟨d, _, hc⟩ := (codesV_mem l _).1 this
    obtain ⟨j, _, hj⟩ := (ofK_mem _ _ _).1 hc
    simp only [pst]
    rw [← hj]
    exact code3_lt _ _ _
  · rw [List.map_map]
    exact hp.symm.nodup ((codesV_inc l).imp fun h => by intro e; subst e; omega)
set_option maxRecDepth 20000 in
set_option maxHeartbeats 8000000 in
theorem Build_spec (l : List Doc) (hl : DocsB 140737488355328 l) : SpecT Tryz.prog 12 [.sl 5 false (docsHV l)] [.agg (buildV l).1.enc, i64 (buildV l).2] := by
  refine SpecT.of_HT Tryz.func12 rfl (by rw [Tryz.ntmps12]; simp) (rs := [.cell 2 27, .tmp 3]) rfl (by decide) ?_
  rw [Tryz.ntmps12]
  refine HT.seq ?_
  refine HT.region ?_   -- R0
  simp (disch := first | omega | (simp <;> omega) | fail) [wrap_i64, wrap_u64, wrap_u8', eI, subM_kents_lo, eq_lo, eq_lo']
  refine HT.seq ?_
  refine HT.seq ?_
  refine HT.region ?_   -- R1
  simp (disch := first | omega | (simp <;> omega) | fail) [wrap_i64, wrap_u64, wrap_u8', eI, subM_kents_lo, eq_lo, eq_lo']
  refine stepK.mk (.call1f _ _ _ _ _ rfl Ty.hb40 rfl rfl (Right_spec l hl) rfl) ?_
  simp (disch := first | omega | (simp <;> omega) | fail) [wrap_i64, wrap_u64, wrap_u8', eI, subM_kents_lo, eq_lo, eq_lo']
  refine HT.cond' ?_   -- if 14
  simp (disch := first | omega | (simp <;> omega) | fail) [wrap_i64, wrap_u64, wrap_u8', eI, subM_kents_lo, eq_lo, eq_lo']
  refine ⟨fun h14 => ?_, fun h14 => ?_⟩
  · skip
    have hb := build_no h14
    refine HT.seq ?_
    refine HT.region ?_   -- R2
    simp (disch := first | omega | (simp <;> omega) | fail) [wrap_i64, wrap_u64, wrap_u8', eI, subM_kents_lo, eq_lo, eq_lo']
    refine HT.weaken (HS.le_boxown 2 0 200 52 5 0 rfl rfl (by decide) (by decide)) ?_
    simp
    refine HT.weaken (HS.le_boxown 2 1 201 70 2 0 (by rfl) (by rfl) (by decide) (by decide)) ?_
    refine HT.ret ?_
    simp (disch := first | omega | (simp <;> omega) | fail) [wrap_i64, wrap_u64, wrap_u8', eI, subM_kents_lo, eq_lo, eq_lo', hb, emptySeg]
  · skip
    have hb := build_yes h14
    have htx := right_txt h14
    have hl64 := htx.1
    have hcl := codesV_len htx l.length (Nat.le_refl _)
    rw [List.take_length] at hcl
    have hgl := gramsOf_length l
    refine HT.skip ?_
    simp (disch := first | omega | (simp <;> omega) | fail) [wrap_i64, wrap_u64, wrap_u8', eI, subM_kents_lo, eq_lo, eq_lo']
    refine HT.seq ?_
    refine HT.region ?_   -- R3
    simp (disch := first | omega | (simp <;> omega) | fail) [wrap_i64, wrap_u64, wrap_u8', eI, subM_kents_lo, eq_lo, eq_lo']
    refine HT.seq ?_
    refine HT.seq ?_
    refine HT.region ?_   -- R4
    simp (disch := first | omega | (simp <;> omega) | fail) [wrap_i64, wrap_u64, wrap_u8', eI, subM_kents_lo, eq_lo, eq_lo']
    refine HT.block ?_
    refine HT.loopK (fun k : {k : Nat // k ≤ l.length} => [.s 19 (i64 k), .o 16 (.map (kents eI 1000 (fK (evsL (l.take k))))), .os (fam 1000 (fK (evsL (l.take k))).length (rowP (evsL (l.take k))))]) [0, 2, 4, 17, 18] [2] (fun k => l.length - k) (⟨0, by omega⟩) ?_ ?_   -- block 0 turned [19]
    · skip
      simp (disch := first | omega | (simp <;> omega) | fail) [wrap_i64, wrap_u64, wrap_u8', eI, subM_kents_lo, eq_lo, eq_lo', show fK (evsL []) = [] from rfl]
      intro id o h
      obtain ⟨i, hi, _⟩ := fam_some h
      exact absurd hi (Nat.not_lt_zero _)
    rintro ⟨k, hk⟩
    simp (disch := first | omega | (simp <;> omega) | fail) [wrap_i64, wrap_u64, wrap_u8', eI, subM_kents_lo, eq_lo, eq_lo']
    refine HT.seq ?_
    refine HT.region ?_   -- R5
    simp (disch := first | omega | (simp <;> omega) | fail) [wrap_i64, wrap_u64, wrap_u8', eI, subM_kents_lo, eq_lo, eq_lo']
    refine HT.seq ?_
    refine HT.cond' ?_   -- if 20
    simp (disch := first | omega | (simp <;> omega) | fail) [wrap_i64, wrap_u64, wrap_u8', eI, subM_kents_lo, eq_lo, eq_lo']
    refine ⟨fun h20 => ?_, fun h20 => ?_⟩
    · skip
      have hk' : k < l.length := by omega
      have hd := htx.2 _ (List.getElem_mem hk')
      refine HT.skip ?_
      simp (disch := first | omega | (simp <;> omega) | fail) [wrap_i64, wrap_u64, wrap_u8', eI, subM_kents_lo, eq_lo, eq_lo']
      refine HT.seq ?_
      refine HT.block ?_
      refine HT.seq ?_
      refine HT.region ?_   -- R6
      simp (disch := first | omega | (simp <;> omega) | fail) [wrap_i64, wrap_u64, wrap_u8', eI, subM_kents_lo, eq_lo, eq_lo']
      refine HT.seq ?_
      refine HT.region ?_   -- R7
      simp (disch := first | omega | (simp <;> omega) | fail) [wrap_i64, wrap_u64, wrap_u8', eI, subM_kents_lo, eq_lo, eq_lo']
      refine stepK.mk (.call1f _ _ _ _ _ rfl Ty.hb41 rfl rfl (Grams_spec l[k].text (by omega)) rfl) ?_
      simp (disch := first | omega | (simp <;> omega) | fail) [wrap_i64, wrap_u64, wrap_u8', eI, subM_kents_lo, eq_lo, eq_lo']
      refine HT.block ?_
      refine HT.loopK (fun j : {j : Nat // j ≤ (gramsV l[k].text).length} => [.s 27 (i64 j), .o 16 (.map (kents eI 1000 (fK (pI l l[k] k j)))), .os (fam 1000 (fK (pI l l[k] k j)).length (rowP (pI l l[k] k j)))]) [0, 2, 4, 6, 17, 18, 19, 25, 26] [2, 6] (fun j => (gramsV l[k].text).length - j) (⟨0, by omega⟩) ?_ ?_   -- block 2 turned [27]
      · skip
        simp (disch := first | omega | (simp <;> omega) | fail) [wrap_i64, wrap_u64, wrap_u8', eI, subM_kents_lo, eq_lo, eq_lo', pI_zero]
        intro id o h
        obtain ⟨i, hi, rfl, rfl⟩ := fam_some h
        simp (disch := first | omega | (simp <;> omega) | fail) [wrap_i64, wrap_u64, wrap_u8', eI, subM_kents_lo, eq_lo, eq_lo', fam_at hi, rowP]
      rintro ⟨j, hj⟩
      simp (disch := first | omega | (simp <;> omega) | fail) [wrap_i64, wrap_u64, wrap_u8', eI, subM_kents_lo, eq_lo, eq_lo']
      refine HT.seq ?_
      refine HT.region ?_   -- R8
      simp (disch := first | omega | (simp <;> omega) | fail) [wrap_i64, wrap_u64, wrap_u8', eI, subM_kents_lo, eq_lo, eq_lo']
      refine HT.seq ?_
      refine HT.cond' ?_   -- if 28
      simp (disch := first | omega | (simp <;> omega) | fail) [wrap_i64, wrap_u64, wrap_u8', eI, subM_kents_lo, eq_lo, eq_lo']
      refine ⟨fun h28 => ?_, fun h28 => ?_⟩
      · skip
        have hj' : j < (gramsV l[k].text).length := by omega
        have hgl2 := gramsV_le l[k].text
        refine HT.skip ?_
        simp (disch := first | omega | (simp <;> omega) | fail) [wrap_i64, wrap_u64, wrap_u8', eI, subM_kents_lo, eq_lo, eq_lo']
        refine HT.seq ?_
        refine HT.block ?_
        refine HT.seq ?_
        refine HT.region ?_   -- R9
        simp (disch := first | omega | (simp <;> omega) | fail) [wrap_i64, wrap_u64, wrap_u8', eI, subM_kents_lo, eq_lo, eq_lo']
        have hp1 := pI_succ l l[k] k hj'
        have hpl := pI_length (List.getElem_mem hk') htx.2 k j
        have hfl := fK_length (pI l l[k] k j)
        generalize (gramsV l[k].text)[j] = g at *
        generalize pI l l[k] k j = p at *
        by_cases cf : g.code ∈ fK p
        · skip
          have hlt := List.idxOf_lt_length_iff.2 cf
          have e1 : fK (p ++ [(g.code, ⟨l[k].id, g.off⟩)]) = fK p := by rw [fK_snoc, adK, if_pos cf]
          have hb1 := gat_length p g.code
          have hgd : rowP p ((fK p).idxOf g.code) = .row 62 2 (gramsHV (gat p g.code)) := by
            unfold rowP; rw [List.getD_eq_getElem?_getD, List.getElem?_eq_getElem hlt, List.getElem_idxOf hlt]; rfl
          have hf1 : findHV Tryz.prog 3 (.lit (.int .i64 g.code)) (kents eI 1000 (fK p)) 0 = some (some ((fK p).idxOf g.code, .ref (1000 + (fK p).idxOf g.code))) := by
            have := find_kents (P := Tryz.prog) eI_eq 1000 g.code (fK p); rw [if_pos cf] at this; exact this
          have hs1 : subM (1000 + (fK p).idxOf g.code) .any .any (kents eI 1000 (fK p)) = (kents eI 1000 (fK p)).set ((fK p).idxOf g.code) (.lit (.int .i64 g.code), .any) := subM_kents_at cf
          have hf2 : findHV Tryz.prog 3 (.lit (.int .i64 g.code)) ((kents eI 1000 (fK p)).set ((fK p).idxOf g.code) (.lit (.int .i64 g.code), .any)) 0 = some (some ((fK p).idxOf g.code, .any)) := find_kents_set eI_eq 1000 (fK p) cf .any
          have hg1 : ((kents eI 1000 (fK p)).set ((fK p).idxOf g.code) (.lit (.int .i64 g.code), .any))[(fK p).idxOf g.code]? = some (.lit (.int .i64 g.code), .any) := kents_set_get (enc := eI) 1000 cf .any
          have hb2 : (kents eI 1000 (fK p)).set ((fK p).idxOf g.code) (.lit (.int .i64 g.code), .ref (1000 + (fK p).idxOf g.code)) = kents eI 1000 (fK p) := kents_back (enc := eI) 1000 cf
          refine HT.drawT (.pre (.take 0) (.pre (.take 3) (.till [4, 5, 6, 7, 8, 9, 10, 11, 12] [1, 2] (fun r => match r with | 0 => .alt [1, 13] (fun i => match i with | 1 => .alt [2, 13] (fun i => match i with | 2 => .lin [.one 13, .one 14] | _ => .lin [.one 2, .one 14]) | _ => .lin [.batch [1, 2], .one 14]) | 1 => .alt [2, 13] (fun i => match i with | 2 => .lin [.one 13, .one 14] | _ => .lin [.one 2, .one 14]) | _ => .lin [.one 13, .one 14])))) (by kernel_rfl) ?_   -- R10
          simp (disch := first | omega | (simp <;> omega) | fail) [wrap_i64, wrap_u64, wrap_u8', eI, subM_kents_lo, eq_lo, eq_lo', hf1, hs1, hf2, hg1, hb2, hgd, fam_at hlt]
          repeat' refine And.intro ?_ ?_
          all_goals
            skip
            refine HT.region ?_   -- R11
            simp (disch := first | omega | (simp <;> omega) | fail) [wrap_i64, wrap_u64, wrap_u8', eI, subM_kents_lo, eq_lo, eq_lo']
            refine Round.mk' (⟨j + 1, by omega⟩) (by dsimp only; omega) rfl ?_
            simp (disch := first | omega | (simp <;> omega) | fail) [wrap_i64, wrap_u64, wrap_u8', eI, subM_kents_lo, eq_lo, eq_lo', hp1]
            first
            | (have e2 : (fK (p ++ [(g.code, (⟨l[k].id, g.off⟩ : Gram))]))[(fK p).idxOf g.code]? = some g.code := by rw [e1, List.getElem?_eq_getElem hlt, List.getElem_idxOf]
               refine ⟨by rw [e1], fun id o h => ?_⟩
               rw [e1] at h
               obtain ⟨i, hi, rfl, rfl⟩ := fam_some h
               by_cases e : (fK p).idxOf g.code = i
               · subst e
                 simp (disch := first | omega | (simp <;> omega) | fail) [wrap_i64, wrap_u64, wrap_u8', eI, subM_kents_lo, eq_lo, eq_lo', rowP_hit e2]
               · have hne : (fK p)[i]? ≠ some g.code := fun h' => e (by
                   have hi2 := List.getElem?_eq_getElem hi
                   rw [hi2] at h'
                   have := (fK_nodup p).idxOf_getElem i hi
                   rw [Option.some.inj h'] at this
                   exact this)
                 rw [rowP_same hi hne]
                 simp (disch := first | omega | (simp <;> omega) | fail) [wrap_i64, wrap_u64, wrap_u8', eI, subM_kents_lo, eq_lo, eq_lo', fam_at hi, rowP, e])
            | (have hs2 : subM (1000 + (fK p).length) .any .any (kents eI 1000 (fK p)) = kents eI 1000 (fK p) := subM_kents_out (.inr (Nat.le_refl _))
               have hs3 : subM 44 (.ref (1000 + (fK p).length)) (.mref (1000 + (fK p).length)) (kents eI 1000 (fK p)) = kents eI 1000 (fK p) := subM_kents_out (.inl (by decide))
               refine ⟨?_, fun id o h => ?_⟩
               · rw [e1, kents_snoc]
                 have ha : ∀ (a b : List (HV × HV)) i x y, subM i x y (a ++ b) = subM i x y a ++ subM i x y b := fun a b i x y => by simp [subM]
                 rw [ha, ha, hs2, hs3]
                 simp [subM, eI, show ¬ 44 = 1000 + (fK p).length by omega]
               · obtain ⟨i, hi, rfl, rfl⟩ := fam_some h
                 rw [e1, List.length_append, List.length_singleton] at hi
                 by_cases e : (fK p).length = i
                 · subst e
                   rw [rowP_hit (by rw [e1, List.getElem?_append_right (Nat.le_refl _), Nat.sub_self]; rfl), gat_none cf]
                   simp (disch := first | omega | (simp <;> omega) | fail) [wrap_i64, wrap_u64, wrap_u8', eI, subM_kents_lo, eq_lo, eq_lo']
                 · have hi' : i < (fK p).length := by omega
                   have hne : (fK p)[i]? ≠ some g.code := fun h' => cf (List.mem_of_getElem? h')
                   rw [rowP_same hi' hne]
                   simp (disch := first | omega | (simp <;> omega) | fail) [wrap_i64, wrap_u64, wrap_u8', eI, subM_kents_lo, eq_lo, eq_lo', e, fam_at hi', rowP])
        have e1 : fK (p ++ [(g.code, ⟨l[k].id, g.off⟩)]) = fK p ++ [g.code] := by rw [fK_snoc, adK, if_neg cf]
        have hf1 : findHV Tryz.prog 3 (.lit (.int .i64 g.code)) (kents eI 1000 (fK p)) 0 = some none := by
          have := find_kents (P := Tryz.prog) eI_eq 1000 g.code (fK p); rw [if_neg cf] at this; exact this
        have hs1 : subM 44 .any .any (kents eI 1000 (fK p)) = kents eI 1000 (fK p) := subM_kents_out (.inl (by decide))
        refine HT.drawT (.pre (.take 0) (.pre (.take 3) (.till [4, 5, 6, 7, 8, 9, 10, 11, 12] [1, 2] (fun r => match r with | 0 => .alt [1, 13] (fun i => match i with | 1 => .alt [2, 13] (fun i => match i with | 2 => .lin [.one 13, .one 14] | _ => .lin [.one 2, .one 14]) | _ => .lin [.batch [1, 2], .one 14]) | 1 => .alt [2, 13] (fun i => match i with | 2 => .lin [.one 13, .one 14] | _ => .lin [.one 2, .one 14]) | _ => .lin [.one 13, .one 14])))) (by kernel_rfl) ?_   -- R10
        simp (disch := first | omega | (simp <;> omega) | fail) [wrap_i64, wrap_u64, wrap_u8', eI, subM_kents_lo, eq_lo, eq_lo', hf1, hs1]
        repeat' refine And.intro ?_ ?_
        all_goals
          skip
          refine HT.weaken (HS.le_fits (M := [.s 27 (i64 j), .o 16 (.map (kents eI 1000 (fK p) ++ [(i64 g.code, .ref 44)])), .o 44 (.row 62 2 (gramsHV [⟨l[k].id, g.off⟩])), .os (fam 1000 (fK p).length (rowP p)), .s 0 (.sl 5 false (docsHV l)), .s 2 (.ptr 2 0), .s 4 (.mref 16), .s 17 (.sl 5 false (docsHV l)), .s 18 (i64 l.length), .s 19 (i64 k), .s 25 (.sl 2 false (gramsHV (gramsV l[k].text))), .s 26 (i64 (gramsV l[k].text).length), .s 6 (.ptr 6 0), .o 2 (.box [.sl 0 true [], .sl 0 true []]), .o 6 (.box [i64 l[k].id, .str l[k].repo, .str l[k].path, .str l[k].text, .sl 1 false (strsHV l[k].on)])]) ?_) ?_
          · simp (disch := first | omega | (simp <;> omega) | fail) [wrap_i64, wrap_u64, wrap_u8', eI, subM_kents_lo, eq_lo, eq_lo', fam_not, gramsHV]
            intro id o h
            obtain ⟨i, hi, rfl, rfl⟩ := fam_some h
            simp (disch := first | omega | (simp <;> omega) | fail) [wrap_i64, wrap_u64, wrap_u8', eI, subM_kents_lo, eq_lo, eq_lo', fam_at hi, rowP]
          refine HT.weaken (HS.le_ren 44 (1000 + (fK p).length) rfl ?_) ?_
          · simp (disch := first | omega | (simp <;> omega) | fail) [wrap_i64, wrap_u64, wrap_u8', eI, subM_kents_lo, eq_lo, eq_lo', fam_not]
          simp only [HObj.sub]
          refine HT.region ?_   -- R11
          simp (disch := first | omega | (simp <;> omega) | fail) [wrap_i64, wrap_u64, wrap_u8', eI, subM_kents_lo, eq_lo, eq_lo']
          refine Round.mk' (⟨j + 1, by omega⟩) (by dsimp only; omega) rfl ?_
          simp (disch := first | omega | (simp <;> omega) | fail) [wrap_i64, wrap_u64, wrap_u8', eI, subM_kents_lo, eq_lo, eq_lo', hp1]
          first
          | (have e2 : (fK (p ++ [(g.code, (⟨l[k].id, g.off⟩ : Gram))]))[(fK p).idxOf g.code]? = some g.code := by rw [e1, List.getElem?_eq_getElem hlt, List.getElem_idxOf]
             refine ⟨by rw [e1], fun id o h => ?_⟩
             rw [e1] at h
             obtain ⟨i, hi, rfl, rfl⟩ := fam_some h
             by_cases e : (fK p).idxOf g.code = i
             · subst e
               simp (disch := first | omega | (simp <;> omega) | fail) [wrap_i64, wrap_u64, wrap_u8', eI, subM_kents_lo, eq_lo, eq_lo', rowP_hit e2]
             · have hne : (fK p)[i]? ≠ some g.code := fun h' => e (by
                 have hi2 := List.getElem?_eq_getElem hi
                 rw [hi2] at h'
                 have := (fK_nodup p).idxOf_getElem i hi
                 rw [Option.some.inj h'] at this
                 exact this)
               rw [rowP_same hi hne]
               simp (disch := first | omega | (simp <;> omega) | fail) [wrap_i64, wrap_u64, wrap_u8', eI, subM_kents_lo, eq_lo, eq_lo', fam_at hi, rowP, e])
          | (have hs2 : subM (1000 + (fK p).length) .any .any (kents eI 1000 (fK p)) = kents eI 1000 (fK p) := subM_kents_out (.inr (Nat.le_refl _))
             have hs3 : subM 44 (.ref (1000 + (fK p).length)) (.mref (1000 + (fK p).length)) (kents eI 1000 (fK p)) = kents eI 1000 (fK p) := subM_kents_out (.inl (by decide))
             refine ⟨?_, fun id o h => ?_⟩
             · rw [e1, kents_snoc]
               have ha : ∀ (a b : List (HV × HV)) i x y, subM i x y (a ++ b) = subM i x y a ++ subM i x y b := fun a b i x y => by simp [subM]
               rw [ha, ha, hs2, hs3]
               simp [subM, eI, show ¬ 44 = 1000 + (fK p).length by omega]
             · obtain ⟨i, hi, rfl, rfl⟩ := fam_some h
               rw [e1, List.length_append, List.length_singleton] at hi
               by_cases e : (fK p).length = i
               · subst e
                 rw [rowP_hit (by rw [e1, List.getElem?_append_right (Nat.le_refl _), Nat.sub_self]; rfl), gat_none cf]
                 simp (disch := first | omega | (simp <;> omega) | fail) [wrap_i64, wrap_u64, wrap_u8', eI, subM_kents_lo, eq_lo, eq_lo']
               · have hi' : i < (fK p).length := by omega
                 have hne : (fK p)[i]? ≠ some g.code := fun h' => cf (List.mem_of_getElem? h')
                 rw [rowP_same hi' hne]
                 simp (disch := first | omega | (simp <;> omega) | fail) [wrap_i64, wrap_u64, wrap_u8', eI, subM_kents_lo, eq_lo, eq_lo', e, fam_at hi', rowP])
      · skip
        obtain rfl : j = (gramsV l[k].text).length := by omega
        refine HT.exit ?_
        simp (disch := first | omega | (simp <;> omega) | fail) [wrap_i64, wrap_u64, wrap_u8', eI, subM_kents_lo, eq_lo, eq_lo']
        refine HT.region ?_   -- R12
        simp (disch := first | omega | (simp <;> omega) | fail) [wrap_i64, wrap_u64, wrap_u8', eI, subM_kents_lo, eq_lo, eq_lo']
        refine Round.mk' (⟨k + 1, by omega⟩) (by dsimp only; omega) rfl ?_
        simp (disch := first | omega | (simp <;> omega) | fail) [wrap_i64, wrap_u64, wrap_u8', eI, subM_kents_lo, eq_lo, eq_lo', pI_end l hk']
        intro id o h
        obtain ⟨i, hi, rfl, rfl⟩ := fam_some h
        simp (disch := first | omega | (simp <;> omega) | fail) [wrap_i64, wrap_u64, wrap_u8', eI, subM_kents_lo, eq_lo, eq_lo', fam_at hi, rowP]
    · skip
      obtain rfl : k = l.length := by omega
      refine HT.exit ?_
      simp (disch := first | omega | (simp <;> omega) | fail) [wrap_i64, wrap_u64, wrap_u8', eI, subM_kents_lo, eq_lo, eq_lo']
      have hEl := evsL_length htx.2
      have hfl := fK_length (evsL l)
      refine HT.weaken (HS.le_frzK (m := 16) (sz := 2) 1000 eI 62 (fun c => gramsHV (gat (evsL l) c)) (fK (evsL l)) (by decide) ?_ (fun _ => by simp) ?_) ?_
      · simp (disch := first | omega | (simp <;> omega) | fail) [wrap_i64, wrap_u64, wrap_u8', eI, subM_kents_lo, eq_lo, eq_lo']
      · intro i c hc
        have hi := getElem?_lt hc
        obtain rfl : (fK (evsL l))[i] = c := by rw [List.getElem?_eq_getElem hi] at hc; exact Option.some.inj hc
        simp (disch := first | omega | (simp <;> omega) | fail) [wrap_i64, wrap_u64, wrap_u8', eI, subM_kents_lo, eq_lo, eq_lo', fam_at hi, rowP]
      refine HT.weaken (HS.le_frzref (id := 16) (xr := .any) (xm := .mp (fents eI (fun c => .sl 2 false (gramsHV (gat (evsL l) c))) (fK (evsL l)))) (by simp [frz1, isIM_fentsP])) ?_
      refine HT.seq ?_
      refine HT.region ?_   -- R13
      simp (disch := first | omega | (simp <;> omega) | fail) [wrap_i64, wrap_u64, wrap_u8', eI, subM_kents_lo, eq_lo, eq_lo']
      refine stepK.mk (.callO _ _ _ _ _ _ _ _ rfl Ty.hb42 rfl rfl (CloneD_spec false l (by omega)) rfl rfl) ?_
      simp (disch := first | omega | (simp <;> omega) | fail) [wrap_i64, wrap_u64, wrap_u8', eI, subM_kents_lo, eq_lo, eq_lo']
      refine HT.weaken (HS.le_frzref (id := 48) (xr := .sl 5 false (docsHV l)) (xm := .any) (by simp)) ?_
      refine HT.weaken (HS.le_boxown 9 1 200 70 2 0 (by rfl) (by rfl) (by decide) (by decide)) ?_
      refine HT.seq ?_
      refine HT.seq ?_
      refine HT.region ?_   -- R14
      simp (disch := first | omega | (simp <;> omega) | fail) [wrap_i64, wrap_u64, wrap_u8', eI, subM_kents_lo, eq_lo, eq_lo']
      refine HT.block ?_
      refine HT.loopK (fun k : {k : List Nat × List Nat × Option (HV × HV) // (k.1 ++ k.2.1).Perm (List.range (fK (evsL l)).length)} => [.o 9 (.box [.sl 5 false (docsHV l), .ref 200]), .o 200 (.row 70 2 (postsHV (k.1.1.map fun i => pst l ((fK (evsL l)).getD i 0)))), .o 51 (.iter (fents eI (fun c => .sl 2 false (gramsHV (gat (evsL l) c))) (fK (evsL l))) k.1.2.1 k.1.2.2)]) [2, 9, 51] [2] (fun k => k.1.2.1.length) (⟨⟨[], List.range (fK (evsL l)).length, none⟩, by simp⟩) ?_ ?_   -- block 4 turned []
      · simp (disch := first | omega | (simp <;> omega) | fail) [wrap_i64, wrap_u64, wrap_u8', eI, subM_kents_lo, eq_lo, eq_lo']
      rintro ⟨⟨dn, lf, la⟩, hp⟩
      simp (disch := first | omega | (simp <;> omega) | fail) [wrap_i64, wrap_u64, wrap_u8', eI, subM_kents_lo, eq_lo, eq_lo']
      refine HT.seq ?_
      refine HT.region ?_   -- R15
      simp (disch := first | omega | (simp <;> omega) | fail) [wrap_i64, wrap_u64, wrap_u8', eI, subM_kents_lo, eq_lo, eq_lo']
      refine ⟨fun hnil => ?_, fun i kk vv hi hkv => ?_⟩
      · skip
        obtain rfl := hnil
        obtain ⟨g1, g2⟩ := posts_ok l hp
        refine HT.seq ?_
        refine HT.cond' ?_   -- if 53
        simp (disch := first | omega | (simp <;> omega) | fail) [wrap_i64, wrap_u64, wrap_u8', eI, subM_kents_lo, eq_lo, eq_lo']
        refine HT.exit ?_
        simp (disch := first | omega | (simp <;> omega) | fail) [wrap_i64, wrap_u64, wrap_u8', eI, subM_kents_lo, eq_lo, eq_lo']
        refine HT.seq ?_
        refine HT.region ?_   -- R18
        simp (disch := first | omega | (simp <;> omega) | fail) [wrap_i64, wrap_u64, wrap_u8', eI, subM_kents_lo, eq_lo, eq_lo']
        refine stepK.mk (.callS _ _ _ _ _ _ _ rfl Ty.hb43 (by first | rfl | simp) (by simp) (by first | rfl | simp) (SortPosts_spec _ g1 g2 (by have := hp.length_eq; simp at this ⊢; omega)) rfl) ?_
        simp (disch := first | omega | (simp <;> omega) | fail) [wrap_i64, wrap_u64, wrap_u8', eI, subM_kents_lo, eq_lo, eq_lo']
        refine HT.weaken (HS.le_frzref (id := 200) (xr := .sl 2 false (postsHV (gramsOf l))) (xm := .any) (by simp [posts_sorted l hp])) ?_
        refine HT.seq ?_
        refine HT.region ?_   -- R19
        simp (disch := first | omega | (simp <;> omega) | fail) [wrap_i64, wrap_u64, wrap_u8', eI, subM_kents_lo, eq_lo, eq_lo']
        refine HT.ret ?_
        simp (disch := first | omega | (simp <;> omega) | fail) [wrap_i64, wrap_u64, wrap_u8', eI, subM_kents_lo, eq_lo, eq_lo', hb, segV]
      · skip
        have hst := perm_step hp hi
        have hil : (dn ++ lf).length = _ := hp.length_eq
        have hil2 : i < (fK (evsL l)).length := by have := (hp.mem_iff (a := i)).1 (List.mem_append_right _ hi); simpa using this
        rw [fents_get, List.getElem?_eq_getElem hil2] at hkv
        simp only [Option.map_some, Option.some.injEq, Prod.mk.injEq] at hkv
        obtain ⟨rfl, rfl⟩ := hkv
        have hb : dn.length + lf.length = (fK (evsL l)).length := by simpa using hil
        refine HT.seq ?_
        refine HT.cond' ?_   -- if 53
        simp (disch := first | omega | (simp <;> omega) | fail) [wrap_i64, wrap_u64, wrap_u8', eI, subM_kents_lo, eq_lo, eq_lo']
        refine HT.skip ?_
        simp (disch := first | omega | (simp <;> omega) | fail) [wrap_i64, wrap_u64, wrap_u8', eI, subM_kents_lo, eq_lo, eq_lo']
        refine HT.block ?_
        refine HT.seq ?_
        refine HT.region ?_   -- R16
        simp (disch := first | omega | (simp <;> omega) | fail) [wrap_i64, wrap_u64, wrap_u8', eI, subM_kents_lo, eq_lo, eq_lo']
        refine HT.region ?_   -- R17
        simp (disch := first | omega | (simp <;> omega) | fail) [wrap_i64, wrap_u64, wrap_u8', eI, subM_kents_lo, eq_lo, eq_lo']
        refine Round.mk' (⟨⟨dn ++ [i], lf.filter (· != i), some (eI (fK (evsL l))[i], .sl 2 false (gramsHV (gat (evsL l) (fK (evsL l))[i])))⟩, hst.1⟩) hst.2 rfl ?_
        simp (disch := first | omega | (simp <;> omega) | fail) [wrap_i64, wrap_u64, wrap_u8', eI, subM_kents_lo, eq_lo, eq_lo', hil2, pst]
end Go.Hv
set_option linter.unusedVariables false
set_option linter.unusedSimpArgs false
/- Library functions over slices of numbers: sorted, without neighbours that are equal, looked through (layer 29). -/
namespace Go.Hv
open Go Go.Hv Go.Proofs Go.RowKit
open Go.Sort (putRow putCells Holds grow mapBlock onCells)
open Go.Proofs.YtlbmbnpknobjdaaGreatDoor
theorem isLit_intsHV_at {l : List Int} {i j : Nat} {x : List HV} {c : HV} (hx : (intsHV l)[i]? = some x) (hc : x[j]? = some c) : j = 0 ∧ ∃ a, l[i]? = some a ∧ c = .lit (.int .i64 a) := by
  unfold intsHV at hx
  rw [List.getElem?_map] at hx
  cases h : l[i]? with
  | none => rw [h] at hx; cases hx
  | some a =>
    rw [h] at hx
    obtain rfl := (Option.some.inj hx).symm
    match j with
    | 0 => exact ⟨rfl, a, rfl, (Option.some.inj hc).symm⟩
    | j + 1 => simp at hc
theorem Sort_spec (l : List Int) (hlen : l.length < 4611686018427387904) : SpecS Tryz.prog 92 3 1 (intsHV l) [] (intsHV (l.mergeSort leI)) := by
  have hl2 : (l.mergeSort leI).length = l.length := List.length_mergeSort _
  refine SpecS.of_cells (by simp [hl2]) (fun x hx => by obtain ⟨p, _, rfl⟩ := List.mem_map.1 hx; rfl) (by simp) (fun w blk cap us V dead hVs hcell hblk hcap hmax hone hdead hrep hus hargs => ?_) (fun A w us dead hus hargs hes => ?_)
  · have hu : us = #[] := Array.eq_empty_of_size_eq_zero hus
    subst hu
    have hV : V = (l.map (Value.int .i64)).toArray := by
      apply Array.ext_getElem?
      intro i
      rcases Nat.lt_or_ge i l.length with hi | hi
      · have hg := List.getElem?_eq_getElem hi
        obtain ⟨u, h1, h2⟩ := hrep i 0 [.lit (.int .i64 l[i])] _ (by simp [intsHV, hg, i64]) rfl
        rw [irep_lit h2] at h1
        simpa [hg] using h1
      · rw [Array.getElem?_eq_none (by rw [hVs]; simp; omega), Array.getElem?_eq_none (by simp; omega)]
    subst hV
    have hH : Holds (Value.int .i64) w blk 0 l.toArray := by
      intro i hi
      have := hcell i (by simpa using hi)
      have hi' : i < l.length := by simpa using hi
      rw [Nat.zero_add]
      refine ⟨?_, this.2⟩
      rw [this.1]
      simp [List.getElem?_eq_getElem hi', getElem!_pos l i hi']
    have := Tryz.slices_Sort_int blk 0 cap l w hH hblk hlen
    rw [show (intsHV l).length = l.length by simp]
    refine this.mono ?_
    rintro x w' ⟨rfl, n, os, rfl⟩
    refine ⟨rfl, n, os, ((l.mergeSort leI).map (Value.int .i64)).toArray, by simp [hl2], fun v hv => by simp at hv; obtain ⟨a, _, rfl⟩ := hv; rfl, ?_, fun i j x c hx hc => ?_⟩
    · rw [putRow_map]; simp [leI]; rfl
    · obtain ⟨rfl, a, ha, rfl⟩ := isLit_intsHV_at hx hc
      exact ⟨.int .i64 a, by simp [ha], .lit _⟩
  · have hu : us = #[] := Array.eq_empty_of_size_eq_zero hus
    subst hu
    exact Any.slices_Sort_int_none Tryz.lays189 A 0 w

theorem grow_nil (w : World) : Go.Sort.grow w #[] = w := by cases w; simp [Go.Sort.grow]
open Go.Sort (putRow putCells Holds grow mapBlock onCells) in
theorem Compact_spec (l : List Int) (hlen : l.length ≤ 1000000) (hc : (Lib.compact l).length ≤ l.length) : SpecR Tryz.prog 93 3 1 (intsHV l) [] (intsHV (Lib.compact l)) := by
  refine SpecR.of_cells (by simpa using hc) (fun x hx => by obtain ⟨p, _, rfl⟩ := List.mem_map.1 hx; rfl) (by simp) (fun w blk cap us V dead hVs hcell hblk hcap hmax hone hdead hrep hus hargs => ?_) (fun A w us dead hus hargs hes => ?_)
  · have hu : us = #[] := Array.eq_empty_of_size_eq_zero hus
    subst hu
    have hV : V = (l.map (Value.int .i64)).toArray := by
      apply Array.ext_getElem?
      intro i
      rcases Nat.lt_or_ge i l.length with hi | hi
      · have hg := List.getElem?_eq_getElem hi
        obtain ⟨u, h1, h2⟩ := hrep i 0 [.lit (.int .i64 l[i])] _ (by simp [intsHV, hg, i64]) rfl
        rw [irep_lit h2] at h1
        simpa [hg] using h1
      · rw [Array.getElem?_eq_none (by rw [hVs]; simp; omega), Array.getElem?_eq_none (by simp; omega)]
    subst hV
    have hH : Holds (Value.int .i64) w blk 0 l.toArray := by
      intro i hi
      have := hcell i (by simpa using hi)
      have hi' : i < l.length := by simpa using hi
      rw [Nat.zero_add]
      refine ⟨?_, this.2⟩
      rw [this.1]
      simp [List.getElem?_eq_getElem hi', getElem!_pos l i hi']
    have := Tryz.slices_Compact_int blk 0 cap l w hH (by omega) (by simpa using hcap)
    rw [show (intsHV l).length = l.length by simp, show (intsHV (Lib.compact l)).length = (Lib.compact l).length by simp]
    refine this.mono ?_
    rintro x w' ⟨rfl, n, rfl⟩
    refine ⟨rfl, n, #[], ((Lib.compact l ++ List.replicate (l.length - (Lib.compact l).length) 0).map (Value.int .i64)).toArray, by simp; omega, fun v hv => by simp at hv; rcases hv with ⟨a, _, rfl⟩ | ⟨_, rfl⟩ <;> rfl, ?_, fun i j x c hx hc => ?_⟩
    · rw [putRow_map, grow_nil]; simp
    · obtain ⟨rfl, a, ha, rfl⟩ := isLit_intsHV_at hx hc
      have hi := getElem?_lt ha
      exact ⟨.int .i64 a, by simp only [Nat.mul_one, Nat.add_zero, List.getElem?_toArray, List.map_append]; rw [List.getElem?_append_left (by simpa using hi), List.getElem?_map, ha]; rfl, .lit _⟩
  · have hu : us = #[] := Array.eq_empty_of_size_eq_zero hus
    subst hu
    exact Tryz.slices_Compact_int_empty A 0 w
end Go.Hv
set_option linter.unusedVariables false
set_option linter.unusedSimpArgs false
namespace Go.Hv
open Go Go.Hv Go.Proofs
open Go.Proofs.YtlbmbnpknobjdaaGreatDoor
theorem upTo_succ {α : Type} {Q : α → Prop} {a : List α} {k : Nat} (hg : ∀ i x, i < k → a[i]? = some x → Q x) (hk : k < a.length) (h : Q a[k]) : ∀ i x, i < k + 1 → a[i]? = some x → Q x := fun i x hi hx => by
  by_cases e : i = k
  · subst e; rw [List.getElem?_eq_getElem hk] at hx; cases hx; exact h
  · exact hg i x (by omega) hx
theorem cIsNaN_spec (x : Int) : Spec1 Tryz.prog 156 [i64 x] (bo false) := by
  refine Spec1.of_HT Tryz.func156 rfl (by rw [Tryz.ntmps156]; simp) rfl ?_
  rw [Tryz.ntmps156]
  refine HT.seq ?_
  refine HT.region ?_   -- R0
  simp (disch := first | omega | (simp <;> omega) | fail) [wrap_i64, wrap_u64, wrap_u8']
  refine HT.seq ?_
  refine HT.region ?_   -- R1
  simp (disch := first | omega | (simp <;> omega) | fail) [wrap_i64, wrap_u64, wrap_u8']
  refine HT.ret ?_
  simp (disch := first | omega | (simp <;> omega) | fail) [wrap_i64, wrap_u64, wrap_u8']
theorem sIsNaN_spec (x : Int) : Spec1 Tryz.prog 127 [i64 x] (bo false) := by
  refine Spec1.of_HT Tryz.func127 rfl (by rw [Tryz.ntmps127]; simp) rfl ?_
  rw [Tryz.ntmps127]
  refine HT.seq ?_
  refine HT.region ?_   -- R0
  simp (disch := first | omega | (simp <;> omega) | fail) [wrap_i64, wrap_u64, wrap_u8']
  refine HT.seq ?_
  refine HT.region ?_   -- R1
  simp (disch := first | omega | (simp <;> omega) | fail) [wrap_i64, wrap_u64, wrap_u8']
  refine HT.ret ?_
  simp (disch := first | omega | (simp <;> omega) | fail) [wrap_i64, wrap_u64, wrap_u8']
theorem Less_spec (x y : Int) : Spec1 Tryz.prog 126 [i64 x, i64 y] (bo (decide (x < y))) := by
  refine Spec1.of_HT Tryz.func126 rfl (by rw [Tryz.ntmps126]; simp) rfl ?_
  rw [Tryz.ntmps126]
  refine HT.seq ?_
  refine HT.region ?_   -- R0
  simp (disch := first | omega | (simp <;> omega) | fail) [wrap_i64, wrap_u64, wrap_u8']
  refine HT.seq ?_
  refine HT.region ?_   -- R1
  simp (disch := first | omega | (simp <;> omega) | fail) [wrap_i64, wrap_u64, wrap_u8']
  refine stepK.mk (.call1 _ _ _ _ rfl Ty.hb156 rfl (cIsNaN_spec x) rfl rfl) ?_
  simp (disch := first | omega | (simp <;> omega) | fail) [wrap_i64, wrap_u64, wrap_u8']
  -- CALL slot 9 fn cmp.isNaN[int]
  refine HT.ret ?_
  simp (disch := first | omega | (simp <;> omega) | fail) [wrap_i64, wrap_u64, wrap_u8']
theorem Clone_spec (f : Bool) (l : List Int) (hl : l.length ≤ 1000000) : SpecO Tryz.prog 58 [.sl 1 f (intsHV l)] 3 1 (intsHV l) := by
  refine SpecO.of_HT Tryz.func58 rfl (by rw [Tryz.ntmps58]; simp) rfl ?_
  rw [Tryz.ntmps58]
  refine HT.seq ?_
  refine HT.region ?_   -- R0
  simp (disch := first | omega | (simp <;> omega) | fail) [wrap_i64, wrap_u64, wrap_u8']
  refine HT.seq ?_
  refine HT.seq ?_
  refine HT.region ?_   -- R1
  simp (disch := first | omega | (simp <;> omega) | fail) [wrap_i64, wrap_u64, wrap_u8']
  refine ⟨fun hnil => ?_, ?_⟩
  · skip
    refine HT.cond' ?_   -- if 4
    simp (disch := first | omega | (simp <;> omega) | fail) [wrap_i64, wrap_u64, wrap_u8']
    refine HT.seq ?_
    refine HT.region ?_   -- R2
    simp (disch := first | omega | (simp <;> omega) | fail) [wrap_i64, wrap_u64, wrap_u8']
    refine HT.weaken (HS.le_own (t := 2) 200 3 1 _ (by decide) rfl (by decide)) ?_
    refine HT.ret ?_
    simp (disch := first | omega | (simp <;> omega) | fail) [wrap_i64, wrap_u64, wrap_u8', hnil]
  · skip
    refine HT.cond' ?_   -- if 4
    simp (disch := first | omega | (simp <;> omega) | fail) [wrap_i64, wrap_u64, wrap_u8']
    refine HT.skip ?_
    simp (disch := first | omega | (simp <;> omega) | fail) [wrap_i64, wrap_u64, wrap_u8']
    refine HT.seq ?_
    refine HT.region ?_   -- R3
    simp (disch := first | omega | (simp <;> omega) | fail) [wrap_i64, wrap_u64, wrap_u8']
    refine HT.ret ?_
    simp (disch := first | omega | (simp <;> omega) | fail) [wrap_i64, wrap_u64, wrap_u8']
def idxF (p : Int → Bool) (l : List Int) : Int := match l.findIdx? p with | some i => (i : Int) | none => -1
theorem idxF_of {p : Int → Bool} {l : List Int} {k : Nat} (hk : k < l.length) (hp : p l[k] = true) (hb : ∀ i x, i < k → l[i]? = some x → p x = false) : idxF p l = k := by
  unfold idxF
  have : l.findIdx? p = some k := by
    rw [List.findIdx?_eq_some_iff_getElem]
    exact ⟨hk, hp, fun j hj => by simp [hb j l[j] hj (List.getElem?_eq_getElem (by omega))]⟩
  rw [this]
theorem idxF_none {p : Int → Bool} {l : List Int} (hb : ∀ i x, i < l.length → l[i]? = some x → p x = false) : idxF p l = -1 := by
  unfold idxF
  have : l.findIdx? p = none := by
    rw [List.findIdx?_eq_none_iff]
    intro x hx
    obtain ⟨i, hi⟩ := List.mem_iff_getElem?.1 hx
    exact hb i x (getElem?_lt hi) hi
  rw [this]
theorem idxF_cases (p : Int → Bool) (l : List Int) : (idxF p l = -1 ∧ l.filter (fun x => !p x) = l) ∨ ∃ k : Nat, ∃ hk : k < l.length, idxF p l = k ∧ p l[k] = true ∧ ∀ i x, i < k → l[i]? = some x → p x = false := by
  unfold idxF
  cases h : l.findIdx? p with
  | none =>
    left
    refine ⟨rfl, ?_⟩
    rw [List.findIdx?_eq_none_iff] at h
    rw [List.filter_eq_self]
    intro x hx; simp [h x hx]
  | some k =>
    right
    rw [List.findIdx?_eq_some_iff_getElem] at h
    obtain ⟨hk, hp, hb⟩ := h
    refine ⟨k, hk, rfl, hp, fun i x hi hx => ?_⟩
    have hl := getElem?_lt hx
    have := hb i hi
    rw [List.getElem?_eq_getElem hl] at hx
    cases hx
    simpa using this
theorem IndexFunc_spec (g : Nat) (hg : hasBody Tryz.prog g = true) (cap : List HV) (hcap : isIL cap = true) (p : Int → Bool) (full : Bool) (l : List Int) (hl : l.length ≤ 1000000) (hp : ∀ x ∈ l, Spec1 Tryz.prog g (i64 x :: cap) (bo (p x))) : Spec1 Tryz.prog 128 [.sl 1 full (intsHV l), .fn (.func g) cap] (i64 (idxF p l)) := by
  refine Spec1.of_HT Tryz.func128 rfl (by rw [Tryz.ntmps128]; simp) rfl ?_
  rw [Tryz.ntmps128]
  refine HT.seq ?_
  refine HT.region ?_   -- R0
  simp (disch := first | omega | (simp <;> omega) | fail) [wrap_i64, wrap_u64, wrap_u8']
  refine HT.seq ?_
  refine HT.seq ?_
  refine HT.region ?_   -- R1
  simp (disch := first | omega | (simp <;> omega) | fail) [wrap_i64, wrap_u64, wrap_u8']
  refine HT.block ?_
  refine HT.loopK (fun k : {k : Nat // k ≤ l.length ∧ ∀ i x, i < k → l[i]? = some x → p x = false} => [.s 8 (i64 k)]) [0, 1, 7] [] (fun k => l.length - k) (⟨0, by simp⟩) ?_ ?_   -- block 0 turned [8]
  · simp (disch := first | omega | (simp <;> omega) | fail) [wrap_i64, wrap_u64, wrap_u8']
  rintro ⟨k, hk, hb⟩
  simp (disch := first | omega | (simp <;> omega) | fail) [wrap_i64, wrap_u64, wrap_u8']
  refine HT.seq ?_
  refine HT.region ?_   -- R2
  simp (disch := first | omega | (simp <;> omega) | fail) [wrap_i64, wrap_u64, wrap_u8']
  refine HT.seq ?_
  refine HT.cond' ?_   -- if 9
  simp (disch := first | omega | (simp <;> omega) | fail) [wrap_i64, wrap_u64, wrap_u8']
  refine ⟨fun h9 => ?_, fun h9 => ?_⟩
  · skip
    have hk' : k < l.length := by omega
    refine HT.skip ?_
    simp (disch := first | omega | (simp <;> omega) | fail) [wrap_i64, wrap_u64, wrap_u8']
    refine HT.seq ?_
    refine HT.block ?_
    refine HT.seq ?_
    refine HT.region ?_   -- R3
    simp (disch := first | omega | (simp <;> omega) | fail) [wrap_i64, wrap_u64, wrap_u8']
    refine HT.seq ?_
    refine HT.region ?_   -- R4
    simp (disch := first | omega | (simp <;> omega) | fail) [wrap_i64, wrap_u64, wrap_u8']
    refine stepK.mk (.call1 _ _ _ _ rfl hg (by simp [rdL, rd, rdL_isI, hcap]) (hp l[k] (List.getElem_mem hk')) rfl rfl) ?_
    simp (disch := first | omega | (simp <;> omega) | fail) [wrap_i64, wrap_u64, wrap_u8']
    refine HT.cond' ?_   -- if 16
    simp (disch := first | omega | (simp <;> omega) | fail) [wrap_i64, wrap_u64, wrap_u8']
    refine ⟨fun h16 => ?_, fun h16 => ?_⟩
    · skip
      refine HT.seq ?_
      refine HT.region ?_   -- R5
      simp (disch := first | omega | (simp <;> omega) | fail) [wrap_i64, wrap_u64, wrap_u8']
      refine HT.ret ?_
      have := idxF_of hk' h16 hb
      simp (disch := first | omega | (simp <;> omega) | fail) [wrap_i64, wrap_u64, wrap_u8', this]
    · skip
      refine HT.skip ?_
      simp (disch := first | omega | (simp <;> omega) | fail) [wrap_i64, wrap_u64, wrap_u8']
      refine HT.region ?_   -- R6
      simp (disch := first | omega | (simp <;> omega) | fail) [wrap_i64, wrap_u64, wrap_u8']
      refine Round.mk' (⟨k + 1, by omega, upTo_succ hb hk' h16⟩) (by dsimp only; omega) rfl ?_
      simp (disch := first | omega | (simp <;> omega) | fail) [wrap_i64, wrap_u64, wrap_u8']
  · skip
    obtain rfl : k = l.length := by omega
    refine HT.exit ?_
    simp (disch := first | omega | (simp <;> omega) | fail) [wrap_i64, wrap_u64, wrap_u8']
    refine HT.seq ?_
    refine HT.region ?_   -- R7
    simp (disch := first | omega | (simp <;> omega) | fail) [wrap_i64, wrap_u64, wrap_u8']
    refine HT.ret ?_
    have := idxF_none hb
    simp (disch := first | omega | (simp <;> omega) | fail) [wrap_i64, wrap_u64, wrap_u8', this]
theorem filt_take_succ {α : Type} (q : α → Bool) {l : List α} {j : Nat} (hj : j < l.length) : (l.take (j + 1)).filter q = (l.take j).filter q ++ (if q l[j] = true then [l[j]] else []) := by
  rw [List.take_succ_eq_append_getElem hj, List.filter_append]
  by_cases h : q l[j] = true <;> simp [h]
def delRow (q : Int → Bool) (l : List Int) (j : Nat) : List Int := (l.take j).filter q ++ l.drop ((l.take j).filter q).length
theorem delRow_length (q : Int → Bool) (l : List Int) (j : Nat) : (delRow q l j).length = l.length := by
  have h1 := List.length_filter_le q (l.take j)
  have h2 : (l.take j).length ≤ l.length := by rw [List.length_take]; omega
  unfold delRow; rw [List.length_append, List.length_drop]; omega
theorem delRow_get (q : Int → Bool) (l : List Int) (j : Nat) (hj : j < l.length) : (delRow q l j)[j]'(by rw [delRow_length]; exact hj) = l[j] := by
  have h1 := List.length_filter_le q (l.take j)
  have h2 : (l.take j).length = j := by rw [List.length_take]; omega
  unfold delRow
  rw [List.getElem_append_right (by omega), List.getElem_drop]
  congr 1; omega
def delN (q : Int → Bool) (l : List Int) (j : Nat) : Nat := ((l.take j).filter q).length
theorem delN_le (q : Int → Bool) (l : List Int) (j : Nat) (hj : j ≤ l.length) : delN q l j ≤ j := by
  have h1 := List.length_filter_le q (l.take j)
  have h2 : (l.take j).length = j := by rw [List.length_take]; omega
  unfold delN; omega
theorem delRow_keep {q : Int → Bool} {l : List Int} {j : Nat} (hj : j < l.length) (hq : q l[j] = true) : delRow q l (j + 1) = (delRow q l j).set (delN q l j) l[j] ∧ delN q l (j + 1) = delN q l j + 1 := by
  have h1 := delN_le q l j (by omega)
  have e : (l.take (j + 1)).filter q = (l.take j).filter q ++ [l[j]] := by rw [filt_take_succ q hj, if_pos hq]
  refine ⟨?_, by unfold delN; rw [e]; simp⟩
  unfold delN at h1 ⊢
  unfold delRow
  rw [e, List.set_append_right _ _ (Nat.le_refl _), Nat.sub_self, List.append_assoc]
  congr 1
  have hd : l.drop ((l.take j).filter q).length = l[((l.take j).filter q).length]'(by omega) :: l.drop (((l.take j).filter q).length + 1) := List.drop_eq_getElem_cons (by omega)
  rw [hd, List.length_append]
  rfl
theorem delRow_drop {q : Int → Bool} {l : List Int} {j : Nat} (hj : j < l.length) (hq : ¬ q l[j] = true) : delRow q l (j + 1) = delRow q l j ∧ delN q l (j + 1) = delN q l j := by
  have e : (l.take (j + 1)).filter q = (l.take j).filter q := by rw [filt_take_succ q hj, if_neg hq, List.append_nil]
  unfold delRow delN
  rw [e]
  exact ⟨rfl, rfl⟩
theorem delRow_first {q : Int → Bool} {l : List Int} {i : Nat} (hi : i < l.length) (h1 : ¬ q l[i] = true) (h2 : ∀ j x, j < i → l[j]? = some x → q x = true) : delRow q l (i + 1) = l ∧ delN q l (i + 1) = i := by
  have h0 : (l.take i).filter q = l.take i := by
    rw [List.filter_eq_self]
    intro x hx
    obtain ⟨j, hj⟩ := List.mem_iff_getElem?.1 hx
    have hl := getElem?_lt hj
    rw [List.length_take] at hl
    rw [List.getElem?_take_of_lt (by omega)] at hj
    exact h2 j x (by omega) hj
  have hd := delRow_drop hi h1
  rw [hd.1, hd.2]
  unfold delRow delN
  rw [h0]
  have : (l.take i).length = i := by rw [List.length_take]; omega
  rw [this]
  exact ⟨by simp, rfl⟩
theorem delRow_last (q : Int → Bool) (l : List Int) : (delRow q l l.length).take (delN q l l.length) = l.filter q ∧ delN q l l.length = (l.filter q).length := by
  unfold delRow delN
  rw [List.take_length]
  simp
theorem intsHV_set (l : List Int) (n : Nat) (x : Int) : (intsHV l).set n [i64 x] = intsHV (l.set n x) := by unfold intsHV; rw [List.map_set]
theorem intsHV_take (l : List Int) (n : Nat) : (intsHV l).take n = intsHV (l.take n) := by unfold intsHV; rw [List.map_take]
set_option maxHeartbeats 1000000 in
theorem DeleteFunc_spec (g : Nat) (hg : hasBody Tryz.prog g = true) (cap : List HV) (hcap : isIL cap = true) (p : Int → Bool) (l : List Int) (hl : l.length ≤ 1000000) (hp : ∀ x ∈ l, Spec1 Tryz.prog g (i64 x :: cap) (bo (p x))) : SpecR Tryz.prog 98 3 1 (intsHV l) [.fn (.func g) cap] (intsHV (l.filter fun x => !p x)) := by
  refine SpecR.of_HT Tryz.func98 rfl (by rw [Tryz.ntmps98]; simp) rfl ?_
  rw [Tryz.ntmps98]
  refine HT.seq ?_
  refine HT.region ?_   -- R0
  simp (disch := first | omega | (simp <;> omega) | fail) [wrap_i64, wrap_u64, wrap_u8', delRow_length]
  refine HT.seq ?_
  refine HT.region ?_   -- R1
  simp (disch := first | omega | (simp <;> omega) | fail) [wrap_i64, wrap_u64, wrap_u8', delRow_length]
  refine stepK.mk (.call1 _ _ _ _ rfl Ty.hb128 (by simp [rdL, rd, rdL_isI, hcap]) (IndexFunc_spec g hg cap hcap p false l hl hp) rfl rfl) ?_
  simp (disch := first | omega | (simp <;> omega) | fail) [wrap_i64, wrap_u64, wrap_u8', delRow_length]
  refine HT.seq ?_
  refine HT.seq ?_
  by_cases cc : idxF p l = -1
  · skip
    refine HT.region ?_   -- R2
    simp (disch := first | omega | (simp <;> omega) | fail) [wrap_i64, wrap_u64, wrap_u8', delRow_length, cc]
    refine HT.cond' ?_   -- if 12
    simp (disch := first | omega | (simp <;> omega) | fail) [wrap_i64, wrap_u64, wrap_u8', delRow_length]
    refine HT.seq ?_
    refine HT.region ?_   -- R3
    simp (disch := first | omega | (simp <;> omega) | fail) [wrap_i64, wrap_u64, wrap_u8', delRow_length]
    refine HT.ret ?_
    have hfl : l.filter (fun x => !p x) = l := (idxF_cases p l).elim (·.2) (fun ⟨k, hk, h0, _⟩ => absurd (cc.symm.trans h0) (by omega))
    simp (disch := first | omega | (simp <;> omega) | fail) [wrap_i64, wrap_u64, wrap_u8', delRow_length, hfl]
  obtain ⟨i0, hi0, c2, h1, h2⟩ := (idxF_cases p l).resolve_left (fun h => cc h.1)
  have c3 : ¬ ((i0 : Int) = -1) := by omega
  have hdl := delRow_last (fun x => !p x) l
  have hnl := delN_le (fun x => !p x) l l.length (Nat.le_refl _)
  have hdr := delRow_first (q := fun x => !p x) hi0 (by simpa using h1) (fun j x hj hx => by simp [h2 j x hj hx])
  refine HT.region ?_   -- R2
  simp (disch := first | omega | (simp <;> omega) | fail) [wrap_i64, wrap_u64, wrap_u8', delRow_length, cc]
  refine HT.cond' ?_   -- if 12
  simp (disch := first | omega | (simp <;> omega) | fail) [wrap_i64, wrap_u64, wrap_u8', delRow_length]
  refine HT.skip ?_
  simp (disch := first | omega | (simp <;> omega) | fail) [wrap_i64, wrap_u64, wrap_u8', delRow_length]
  refine HT.seq ?_
  refine HT.seq ?_
  refine HT.region ?_   -- R4
  simp (disch := first | omega | (simp <;> omega) | fail) [wrap_i64, wrap_u64, wrap_u8', delRow_length]
  refine HT.block ?_
  refine HT.loopK (fun j : {j : Nat // i0 < j ∧ j ≤ l.length} => [.s 6 (i64 j), .s 5 (i64 (delN (fun x => !p x) l j)), .o 900 (.row 3 1 (intsHV (delRow (fun x => !p x) l j)))]) [0, 1] [] (fun j => l.length - j) (⟨i0 + 1, by omega⟩) ?_ ?_   -- block 0 turned [5, 6]
  · simp (disch := first | omega | (simp <;> omega) | fail) [wrap_i64, wrap_u64, wrap_u8', delRow_length, hdr.1, hdr.2, c2]
  rintro ⟨j, hj0, hj⟩
  simp (disch := first | omega | (simp <;> omega) | fail) [wrap_i64, wrap_u64, wrap_u8', delRow_length]
  refine HT.seq ?_
  refine HT.seq ?_
  refine HT.region ?_   -- R5
  simp (disch := first | omega | (simp <;> omega) | fail) [wrap_i64, wrap_u64, wrap_u8', delRow_length]
  refine HT.cond' ?_   -- if 19
  simp (disch := first | omega | (simp <;> omega) | fail) [wrap_i64, wrap_u64, wrap_u8', delRow_length]
  refine ⟨fun h19 => ?_, fun h19 => ?_⟩
  · skip
    have hj' : j < l.length := by omega
    have hg0 : (intsHV (delRow (fun x => !p x) l j))[j]? = some [i64 l[j]] := by rw [List.getElem?_eq_getElem (by simp [delRow_length]; exact hj'), intsHV_getElem, delRow_get _ l j hj']
    have hn0 := delN_le (fun x => !p x) l j hj
    refine HT.skip ?_
    simp (disch := first | omega | (simp <;> omega) | fail) [wrap_i64, wrap_u64, wrap_u8', delRow_length]
    refine HT.seq ?_
    refine HT.block ?_
    refine HT.seq ?_
    refine HT.region ?_   -- R7
    simp (disch := first | omega | (simp <;> omega) | fail) [wrap_i64, wrap_u64, wrap_u8', delRow_length, hg0]
    refine HT.seq ?_
    refine HT.region ?_   -- R8
    simp (disch := first | omega | (simp <;> omega) | fail) [wrap_i64, wrap_u64, wrap_u8', delRow_length]
    refine stepK.mk (.call1 _ _ _ _ rfl hg (by simp [rdL, rd, rdL_isI, hcap]) (hp l[j] (List.getElem_mem hj')) rfl rfl) ?_
    simp (disch := first | omega | (simp <;> omega) | fail) [wrap_i64, wrap_u64, wrap_u8', delRow_length]
    refine HT.cond' ?_   -- if 29
    simp (disch := first | omega | (simp <;> omega) | fail) [wrap_i64, wrap_u64, wrap_u8', delRow_length]
    refine ⟨fun h29 => ?_, fun h29 => ?_⟩
    · skip
      have hk := delRow_keep hj' (q := fun x => !p x) (by simp [h29])
      refine HT.seq ?_
      refine HT.region ?_   -- R9
      simp (disch := first | omega | (simp <;> omega) | fail) [wrap_i64, wrap_u64, wrap_u8', delRow_length, intsHV_set]
      refine HT.region ?_   -- R10
      simp (disch := first | omega | (simp <;> omega) | fail) [wrap_i64, wrap_u64, wrap_u8', delRow_length]
      refine HT.region ?_   -- R6
      simp (disch := first | omega | (simp <;> omega) | fail) [wrap_i64, wrap_u64, wrap_u8', delRow_length]
      refine Round.mk' (⟨j + 1, by omega⟩) (by dsimp only; omega) rfl ?_
      simp (disch := first | omega | (simp <;> omega) | fail) [wrap_i64, wrap_u64, wrap_u8', delRow_length, hk.1, hk.2]
    · skip
      have hk := delRow_drop hj' (q := fun x => !p x) (by simp [h29])
      refine HT.skip ?_
      simp (disch := first | omega | (simp <;> omega) | fail) [wrap_i64, wrap_u64, wrap_u8', delRow_length]
      refine HT.region ?_   -- R6
      simp (disch := first | omega | (simp <;> omega) | fail) [wrap_i64, wrap_u64, wrap_u8', delRow_length]
      refine Round.mk' (⟨j + 1, by omega⟩) (by dsimp only; omega) rfl ?_
      simp (disch := first | omega | (simp <;> omega) | fail) [wrap_i64, wrap_u64, wrap_u8', delRow_length, hk.1, hk.2]
  · skip
    obtain rfl : j = l.length := by omega
    refine HT.exit ?_
    simp (disch := first | omega | (simp <;> omega) | fail) [wrap_i64, wrap_u64, wrap_u8', delRow_length]
    refine HT.seq ?_
    refine HT.region ?_   -- R11
    simp (disch := first | omega | (simp <;> omega) | fail) [wrap_i64, wrap_u64, wrap_u8', delRow_length, hnl]
    refine HT.seq ?_
    refine HT.region ?_   -- R12
    simp (disch := first | omega | (simp <;> omega) | fail) [wrap_i64, wrap_u64, wrap_u8', delRow_length, hnl]
    refine HT.ret ?_
    simp (disch := first | omega | (simp <;> omega) | fail) [wrap_i64, wrap_u64, wrap_u8', delRow_length, intsHV_take, hdl.1]
def lbI (l : List Int) (x : Int) : Nat := l.findIdx fun y => decide (x ≤ y)
theorem lbI_of {l : List Int} {x : Int} {k : Nat} (hk : k ≤ l.length) (h1 : ∀ i y, i < k → l[i]? = some y → y < x) (h2 : ∀ i y, k ≤ i → l[i]? = some y → x ≤ y) : lbI l x = k := by
  unfold lbI
  rcases Nat.lt_or_ge k l.length with h | h
  · rw [List.findIdx_eq h]
    refine ⟨by simpa using h2 k _ (Nat.le_refl _) (List.getElem?_eq_getElem h), fun j hj => ?_⟩
    have := h1 j _ hj (List.getElem?_eq_getElem (by omega))
    simp; omega
  · obtain rfl : k = l.length := by omega
    rw [List.findIdx_eq_length]
    intro y hy
    obtain ⟨i, hi⟩ := List.mem_iff_getElem?.1 hy
    have := h1 i y (getElem?_lt hi) hi
    simp; omega
theorem sorted_le {l : List Int} (hs : l.Pairwise (· ≤ ·)) {i j : Nat} {x y : Int} (hij : i ≤ j) (hx : l[i]? = some x) (hy : l[j]? = some y) : x ≤ y := by
  have h1 := getElem?_lt hx
  have h2 := getElem?_lt hy
  rw [List.getElem?_eq_getElem h1] at hx
  rw [List.getElem?_eq_getElem h2] at hy
  cases hx; cases hy
  rcases Nat.lt_or_ge i j with h | h
  · exact List.pairwise_iff_getElem.1 hs i j h1 h2 h
  · obtain rfl : i = j := by omega
    exact Int.le_refl _
theorem lbI_mem {l : List Int} {x : Int} {k : Nat} (hk : k ≤ l.length) (h1 : ∀ i y, i < k → l[i]? = some y → y < x) (h2 : ∀ i y, k ≤ i → l[i]? = some y → x ≤ y) (hs : l.Pairwise (· ≤ ·)) : x ∈ l ↔ ∃ h : k < l.length, l[k] = x := by
  constructor
  · intro hx
    obtain ⟨i, hi⟩ := List.mem_iff_getElem?.1 hx
    have hki : k ≤ i := by
      rcases Nat.lt_or_ge i k with h | h
      · have := h1 i x h hi; omega
      · exact h
    have hil := getElem?_lt hi
    refine ⟨by omega, ?_⟩
    have a1 := sorted_le hs hki (List.getElem?_eq_getElem (by omega)) hi
    have a2 := h2 k _ (Nat.le_refl _) (List.getElem?_eq_getElem (by omega))
    omega
  · rintro ⟨h, rfl⟩; exact List.getElem_mem h
set_option maxHeartbeats 1000000 in
theorem BinarySearch_spec (f : Bool) (l : List Int) (x : Int) (hl : l.length ≤ 1000000) (hs : l.Pairwise (· ≤ ·)) : SpecT Tryz.prog 97 [.sl 1 f (intsHV l), i64 x] [i64 (lbI l x), bo (decide (x ∈ l))] := by
  refine SpecT.of_HT Tryz.func97 rfl (by rw [Tryz.ntmps97]; simp) (rs := [.tmp 4, .tmp 5]) rfl (by decide) ?_
  rw [Tryz.ntmps97]
  refine HT.seq ?_
  refine HT.region ?_   -- R0
  simp (disch := first | omega | (simp <;> omega) | fail) [wrap_i64, wrap_u64, wrap_u8']
  refine HT.seq ?_
  refine HT.region ?_   -- R1
  simp (disch := first | omega | (simp <;> omega) | fail) [wrap_i64, wrap_u64, wrap_u8']
  refine HT.seq ?_
  refine HT.region ?_   -- R2
  simp (disch := first | omega | (simp <;> omega) | fail) [wrap_i64, wrap_u64, wrap_u8']
  refine HT.seq ?_
  refine HT.block ?_
  refine HT.loopK (fun p : {p : Nat × Nat // p.1 ≤ p.2 ∧ p.2 ≤ l.length ∧ (∀ i y, i < p.1 → l[i]? = some y → y < x) ∧ ∀ i y, p.2 ≤ i → l[i]? = some y → x ≤ y} => [.s 7 (i64 p.1.1), .s 8 (i64 p.1.2)]) [0, 1, 6, 36, 37, 38, 39, 40, 41, 42, 43, 44, 45, 46, 47, 48, 49, 50, 51, 52] [] (fun p => p.1.2 - p.1.1) (⟨(0, l.length), by simp, by simp, by simp, fun i y hi hy => absurd (getElem?_lt hy) (by omega)⟩) ?_ ?_   -- block 0 turned [7, 8]
  · simp (disch := first | omega | (simp <;> omega) | fail) [wrap_i64, wrap_u64, wrap_u8']
  rintro ⟨⟨a, b⟩, hab, hb, h1, h2⟩
  simp (disch := first | omega | (simp <;> omega) | fail) [wrap_i64, wrap_u64, wrap_u8']
  dsimp only at hab hb h1 h2
  generalize hm : (a + b) / 2 = m
  refine HT.seq ?_
  refine HT.seq ?_
  refine HT.region ?_   -- R3
  simp (disch := first | omega | (simp <;> omega) | fail) [wrap_i64, wrap_u64, wrap_u8']
  refine HT.cond' ?_   -- if 15
  simp (disch := first | omega | (simp <;> omega) | fail) [wrap_i64, wrap_u64, wrap_u8']
  refine ⟨fun h15 => ?_, fun h15 => ?_⟩
  · skip
    have hm1 : m < b := by omega
    have hm2 : a ≤ m := by omega
    have hm3 : m < l.length := by omega
    have hdv : ((a : Int) + b).fdiv (2 ^ min 1 IntKind.u64.bits) = (m : Int) := by
      show Int.fdiv ((a : Int) + b) 2 = m
      rw [Int.fdiv_eq_ediv_of_nonneg _ (by omega)]; omega
    refine HT.skip ?_
    simp (disch := first | omega | (simp <;> omega) | fail) [wrap_i64, wrap_u64, wrap_u8']
    refine HT.block ?_
    refine HT.seq ?_
    refine HT.region ?_   -- R4
    simp (disch := first | omega | (simp <;> omega) | fail) [wrap_i64, wrap_u64, wrap_u8', hdv]
    refine HT.seq ?_
    refine HT.region ?_   -- R5
    simp (disch := first | omega | (simp <;> omega) | fail) [wrap_i64, wrap_u64, wrap_u8']
    refine stepK.mk (.call1 _ _ _ _ rfl Ty.hb126 rfl (Less_spec l[m] x) rfl rfl) ?_
    simp (disch := first | omega | (simp <;> omega) | fail) [wrap_i64, wrap_u64, wrap_u8']
    refine HT.cond' ?_   -- if 27
    simp (disch := first | omega | (simp <;> omega) | fail) [wrap_i64, wrap_u64, wrap_u8']
    refine ⟨fun h27 => ?_, fun h27 => ?_⟩
    · skip
      refine HT.region ?_   -- R6
      simp (disch := first | omega | (simp <;> omega) | fail) [wrap_i64, wrap_u64, wrap_u8']
      refine Round.mk' (⟨(m + 1, b), by dsimp only; omega, hb, fun i y hi hy => by have := sorted_le hs (j := m) (by omega) hy (List.getElem?_eq_getElem hm3); omega, h2⟩) (by dsimp only; omega) rfl ?_
      simp (disch := first | omega | (simp <;> omega) | fail) [wrap_i64, wrap_u64, wrap_u8']
    · skip
      refine HT.region ?_   -- R7
      simp (disch := first | omega | (simp <;> omega) | fail) [wrap_i64, wrap_u64, wrap_u8']
      refine Round.mk' (⟨(a, m), hm2, by dsimp only; omega, h1, fun i y hi hy => by have := sorted_le hs (i := m) hi (List.getElem?_eq_getElem hm3) hy; omega⟩) (by dsimp only; omega) rfl ?_
      simp (disch := first | omega | (simp <;> omega) | fail) [wrap_i64, wrap_u64, wrap_u8']
  · skip
    obtain rfl : a = b := by omega
    have hlb := lbI_of hb h1 h2
    have hmem := lbI_mem hb h1 h2 hs
    refine HT.exit ?_
    simp (disch := first | omega | (simp <;> omega) | fail) [wrap_i64, wrap_u64, wrap_u8']
    refine HT.seq ?_
    have c2 : True := trivial
    by_cases c1 : ¬ a < l.length
    · skip
      refine HT.region ?_   -- R8
      simp (disch := first | omega | (simp <;> omega) | fail) [wrap_i64, wrap_u64, wrap_u8', c1, c2]
      -- CALL slot 50 fn slices.isNaN[int]
      refine HT.ret ?_
      simp (disch := first | omega | (simp <;> omega) | fail) [wrap_i64, wrap_u64, wrap_u8', hlb, hmem, c1, c2]
    rw [Classical.not_not] at c1
    clear c2
    by_cases c2 : l[a] = x
    · skip
      refine HT.region ?_   -- R8
      simp (disch := first | omega | (simp <;> omega) | fail) [wrap_i64, wrap_u64, wrap_u8', c1, c2]
      -- CALL slot 50 fn slices.isNaN[int]
      refine HT.ret ?_
      simp (disch := first | omega | (simp <;> omega) | fail) [wrap_i64, wrap_u64, wrap_u8', hlb, hmem, c1, c2]
    refine HT.region ?_   -- R8
    simp (disch := first | omega | (simp <;> omega) | fail) [wrap_i64, wrap_u64, wrap_u8', c1, c2]
    refine stepK.mk (.call1 _ _ _ _ rfl Ty.hb127 rfl (sIsNaN_spec l[a]) rfl rfl) ?_
    simp (disch := first | omega | (simp <;> omega) | fail) [wrap_i64, wrap_u64, wrap_u8', c1, c2]
    -- CALL slot 50 fn slices.isNaN[int]
    refine HT.ret ?_
    simp (disch := first | omega | (simp <;> omega) | fail) [wrap_i64, wrap_u64, wrap_u8', hlb, hmem, c1, c2]
end Go.Hv
set_option linter.unusedVariables false
set_option linter.unusedSimpArgs false
/- What a segment answers, in plain words (layer 29). -/
namespace Go.Hv
def dcsV (g : List Post) (c : Int) : List Gram := match g.find? (fun p => decide (p.code = c)) with
  | some p => p.docs
  | none => []
theorem find_map_code (f : Int → List Gram) (c : Int) : ∀ (cs : List Int), (cs.map fun x => (⟨x, f x⟩ : Post)).find? (fun p => decide (p.code = c)) = if c ∈ cs then some ⟨c, f c⟩ else none
  | [] => by simp
  | x :: cs => by
    rw [List.map_cons, List.find?_cons]
    by_cases e : x = c
    · subst e; simp
    · have e' : ¬ c = x := fun h => e h.symm
      simp only [e, decide_false, List.mem_cons, e', false_or]
      exact find_map_code f c cs
theorem dcsV_seg (l : List Doc) (c : Int) : dcsV (gramsOf l) c = postV l c := by
  unfold dcsV gramsOf
  rw [find_map_code (postV l) c]
  by_cases h : c ∈ codesV l
  · rw [if_pos h]
  · rw [if_neg h]
    exact (Classical.byContradiction fun h2 => h ((postV_ne l c).1 (fun e => h2 e.symm)))
def docsV (g : List Post) (c : Int) : List Int := (dcsV g c).map Gram.code
def atsV (g : List Post) (c d : Int) : List Int := match (dcsV g c).find? (fun x => decide (x.code = d)) with
  | some x => x.off
  | none => []
theorem find_post {l : List Doc} (hl : IncBy Doc.id l) (c : Int) {d : Doc} (hd : d ∈ l) : (postV l c).find? (fun x => decide (x.code = d.id)) = if offV d.text c = [] then none else some ⟨d.id, offV d.text c⟩ := by
  unfold postV
  induction l with
  | nil => simp at hd
  | cons x l ih =>
    have hl' := hl
    unfold IncBy at hl'
    rw [List.pairwise_cons] at hl'
    rw [List.map_cons]
    rcases List.mem_cons.1 hd with rfl | hd'
    · by_cases h : offV d.text c = []
      · rw [List.filter_cons_of_neg (by simpa using h), if_pos h, List.find?_eq_none]
        intro g hg
        obtain ⟨y, hy, rfl⟩ := List.mem_map.1 (List.mem_filter.1 hg).1
        have := hl'.1 y hy
        simp; omega
      · rw [List.filter_cons_of_pos (by simpa using h), List.find?_cons, if_neg h]; simp
    · have hne : x.id ≠ d.id := by have := hl'.1 d hd'; omega
      have ih := ih hl'.2 hd'
      by_cases h : offV x.text c = []
      · rw [List.filter_cons_of_neg (by simpa using h)]; exact ih
      · rw [List.filter_cons_of_pos (by simpa using h), List.find?_cons]
        simp only [hne, decide_false]
        exact ih
theorem atsV_seg {l : List Doc} (hl : IncBy Doc.id l) (c : Int) {d : Doc} (hd : d ∈ l) : atsV (gramsOf l) c d.id = offV d.text c := by
  unfold atsV
  rw [dcsV_seg, find_post hl c hd]
  by_cases h : offV d.text c = []
  · rw [if_pos h, h]
  · rw [if_neg h]
theorem docsV_seg (l : List Doc) (c : Int) : docsV (gramsOf l) c = (l.filter fun d => decide (offV d.text c ≠ [])).map Doc.id := by
  unfold docsV
  rw [dcsV_seg]
  unfold postV
  rw [List.filter_map, List.map_map]
  rfl
/-! ### The number of all offsets -/
def sizeV (g : List Post) : Nat := (g.map fun p => (p.docs.map fun x => x.off.length).sum).sum
theorem sum_zero : ∀ {l : List Nat}, (∀ x ∈ l, x = 0) → l.sum = 0
  | [], _ => rfl
  | x :: l, h => by rw [List.sum_cons, h x (by simp), sum_zero fun y hy => h y (by simp [hy])]
theorem sum_one {α : Type} [DecidableEq α] {cs : List α} (hn : cs.Nodup) {c : α} (hc : c ∈ cs) : (cs.map fun x => if c = x then 1 else 0).sum = 1 := by
  induction cs with
  | nil => simp at hc
  | cons x cs ih =>
    rw [List.nodup_cons] at hn
    rw [List.map_cons, List.sum_cons]
    by_cases e : c = x
    · subst e
      rw [if_pos rfl]
      have : (cs.map fun x => if c = x then 1 else 0).sum = 0 := by
        apply sum_zero
        intro y hy
        obtain ⟨z, hz, rfl⟩ := List.mem_map.1 hy
        rw [if_neg]
        rintro rfl
        exact hn.1 hz
      omega
    · rw [if_neg e, Nat.zero_add]
      exact ih hn.2 (by rcases List.mem_cons.1 hc with h | h; exact absurd h e; exact h)
theorem sum_map_add {α : Type} (f g : α → Nat) (l : List α) : (l.map fun x => f x + g x).sum = (l.map f).sum + (l.map g).sum := by
  induction l with
  | nil => rfl
  | cons x l ih => simp only [List.map_cons, List.sum_cons, ih]; omega
theorem sum_comm' {α β : Type} (f : α → β → Nat) (a : List α) (b : List β) : (a.map fun x => (b.map fun y => f x y).sum).sum = (b.map fun y => (a.map fun x => f x y).sum).sum := by
  induction a with
  | nil =>
    simp only [List.map_nil, List.sum_nil]
    induction b with
    | nil => rfl
    | cons y b ih => simpa using ih
  | cons x a ih => simp only [List.map_cons, List.sum_cons, ih, sum_map_add]
theorem offK_sum (s : List UInt8) {cs : List Int} (hn : cs.Nodup) : ∀ k, (∀ i, i < k → codeAt s i ∈ cs) → (cs.map fun c => (offK s k c).length).sum = k
  | 0, _ => by
    apply sum_zero
    intro y hy
    obtain ⟨c, _, rfl⟩ := List.mem_map.1 hy
    simp [offK]
  | k + 1, h => by
    have ih := offK_sum s hn k fun i hi => h i (by omega)
    have e : (cs.map fun c => (offK s (k + 1) c).length) = cs.map fun c => (offK s k c).length + if codeAt s k = c then 1 else 0 := by
      apply List.map_congr_left
      intro c _
      rw [offK_succ, List.length_append]
      congr 1
      split <;> rfl
    rw [e, sum_map_add, ih, sum_one hn (h k (by omega))]
theorem postV_sum (l : List Doc) (c : Int) : ((postV l c).map fun x => x.off.length).sum = (l.map fun d => (offV d.text c).length).sum := by
  unfold postV
  induction l with
  | nil => rfl
  | cons d l ih =>
    rw [List.map_cons, List.map_cons, List.sum_cons]
    by_cases h : offV d.text c = []
    · rw [List.filter_cons_of_neg (by simpa using h), ih, h]; simp
    · rw [List.filter_cons_of_pos (by simpa using h), List.map_cons, List.sum_cons, ih]
theorem sizeV_seg (l : List Doc) : sizeV (gramsOf l) = (l.map fun d => d.text.length - 2).sum := by
  unfold sizeV gramsOf
  rw [List.map_map]
  have e : ((codesV l).map ((fun p : Post => (p.docs.map fun x => x.off.length).sum) ∘ fun c => (⟨c, postV l c⟩ : Post))) = (codesV l).map fun c => (l.map fun d => (offV d.text c).length).sum := by
    apply List.map_congr_left
    intro c _
    exact postV_sum l c
  rw [e, sum_comm']
  congr 1
  apply List.map_congr_left
  intro d hd
  unfold offV
  refine offK_sum d.text ((codesV_inc l).imp fun h => by intro e; subst e; omega) _ fun i hi => ?_
  rw [codesV_mem]
  refine ⟨d, hd, ?_⟩
  unfold ofV
  rw [ofK_mem]
  exact ⟨i, hi, rfl⟩
end Go.Hv
set_option linter.unusedVariables false
set_option linter.unusedSimpArgs false
/- What a segment answers, walked (layer 29). -/
namespace Go.Hv
open Go Go.Hv Go.Proofs Go.RowKit
open Go.Proofs.YtlbmbnpknobjdaaGreatDoor
def cmpV (p : Post) (x : Int) : Int := if p.code < x then -1 else if x < p.code then 1 else 0
theorem cmpP_spec (p : Post) (x : Int) : Spec1 Tryz.prog 89 [.agg p.enc, i64 x] (i64 (cmpV p x)) := by
  refine Spec1.of_HT Tryz.func89 rfl (by rw [Tryz.ntmps89]; simp) rfl ?_
  rw [Tryz.ntmps89]
  refine HT.seq ?_
  refine HT.region ?_   -- R0
  simp (disch := first | omega | (simp <;> omega) | fail) [wrap_i64, wrap_u64, wrap_u8']
  refine HT.seq ?_
  refine HT.seq ?_
  refine HT.region ?_   -- R1
  simp (disch := first | omega | (simp <;> omega) | fail) [wrap_i64, wrap_u64, wrap_u8']
  refine HT.cond' ?_   -- if 8
  simp (disch := first | omega | (simp <;> omega) | fail) [wrap_i64, wrap_u64, wrap_u8']
  refine ⟨fun h8 => ?_, fun h8 => ?_⟩
  · skip
    refine HT.seq ?_
    refine HT.region ?_   -- R2
    simp (disch := first | omega | (simp <;> omega) | fail) [wrap_i64, wrap_u64, wrap_u8']
    refine HT.ret ?_
    simp (disch := first | omega | (simp <;> omega) | fail) [wrap_i64, wrap_u64, wrap_u8', cmpV, h8]
  · skip
    refine HT.skip ?_
    simp (disch := first | omega | (simp <;> omega) | fail) [wrap_i64, wrap_u64, wrap_u8']
    refine HT.seq ?_
    refine HT.seq ?_
    refine HT.region ?_   -- R3
    simp (disch := first | omega | (simp <;> omega) | fail) [wrap_i64, wrap_u64, wrap_u8']
    refine HT.cond' ?_   -- if 12
    simp (disch := first | omega | (simp <;> omega) | fail) [wrap_i64, wrap_u64, wrap_u8']
    refine ⟨fun h12 => ?_, fun h12 => ?_⟩
    · skip
      refine HT.seq ?_
      refine HT.region ?_   -- R4
      simp (disch := first | omega | (simp <;> omega) | fail) [wrap_i64, wrap_u64, wrap_u8']
      refine HT.ret ?_
      simp (disch := first | omega | (simp <;> omega) | fail) [wrap_i64, wrap_u64, wrap_u8', cmpV, h8, h12]
    · skip
      refine HT.skip ?_
      simp (disch := first | omega | (simp <;> omega) | fail) [wrap_i64, wrap_u64, wrap_u8']
      refine HT.seq ?_
      refine HT.region ?_   -- R5
      simp (disch := first | omega | (simp <;> omega) | fail) [wrap_i64, wrap_u64, wrap_u8']
      refine HT.ret ?_
      simp (disch := first | omega | (simp <;> omega) | fail) [wrap_i64, wrap_u64, wrap_u8', cmpV, h8, h12]
def codesP (l : List Post) : List Int := l.map Post.code
theorem codesP_get {l : List Post} {i : Nat} (h : i < l.length) : (codesP l)[i]? = some l[i].code := by simp [codesP, List.getElem?_eq_getElem h]
@[simp] theorem codesP_length (l : List Post) : (codesP l).length = l.length := by simp [codesP]
theorem dcsV_at {l : List Post} {c : Int} {k : Nat} (hk : k < l.length) (h1 : ∀ i y, i < k → (codesP l)[i]? = some y → y < c) (hc : l[k].code = c) : dcsV l c = l[k].docs := by
  unfold dcsV
  have : l.find? (fun p => decide (p.code = c)) = some l[k] := by
    rw [List.find?_eq_some_iff_getElem]
    refine ⟨by simpa using hc, k, hk, rfl, fun j hj => ?_⟩
    have := h1 j _ hj (codesP_get (by omega))
    simp; omega
  rw [this]
theorem dcsV_none {l : List Post} {c : Int} (h : c ∉ codesP l) : dcsV l c = [] := by
  unfold dcsV
  rw [List.find?_eq_none.2]
  intro p hp
  simp
  rintro rfl
  exact h (List.mem_map_of_mem hp)
set_option maxHeartbeats 1000000 in
theorem BSearchP_spec (f : Bool) (l : List Post) (x : Int) (hl : l.length ≤ 1000000) (hs : (codesP l).Pairwise (· ≤ ·)) : SpecT Tryz.prog 88 [.sl 2 f (postsHV l), i64 x, .fn (.func 89) []] [i64 (lbI (codesP l) x), bo (decide (x ∈ codesP l))] := by
  refine SpecT.of_HT Tryz.func88 rfl (by rw [Tryz.ntmps88]; simp) (rs := [.tmp 6, .tmp 7]) rfl (by decide) ?_
  rw [Tryz.ntmps88]
  refine HT.seq ?_
  refine HT.region ?_   -- R0
  simp (disch := first | omega | (simp <;> omega) | fail) [wrap_i64, wrap_u64, wrap_u8']
  refine HT.seq ?_
  refine HT.region ?_   -- R1
  simp (disch := first | omega | (simp <;> omega) | fail) [wrap_i64, wrap_u64, wrap_u8']
  refine HT.seq ?_
  refine HT.region ?_   -- R2
  simp (disch := first | omega | (simp <;> omega) | fail) [wrap_i64, wrap_u64, wrap_u8']
  refine HT.seq ?_
  refine HT.block ?_
  refine HT.loopK (fun p : {p : Nat × Nat // p.1 ≤ p.2 ∧ p.2 ≤ l.length ∧ (∀ i y, i < p.1 → (codesP l)[i]? = some y → y < x) ∧ ∀ i y, p.2 ≤ i → (codesP l)[i]? = some y → x ≤ y} => [.s 9 (i64 p.1.1), .s 10 (i64 p.1.2)]) [0, 1, 2, 8, 40, 41, 42, 43, 44, 45, 46, 47] [] (fun p => p.1.2 - p.1.1) (⟨(0, l.length), by simp, by simp, by simp, fun i y hi hy => absurd (getElem?_lt hy) (by simp; omega)⟩) ?_ ?_   -- block 0 turned [9, 10]
  · simp (disch := first | omega | (simp <;> omega) | fail) [wrap_i64, wrap_u64, wrap_u8']
  rintro ⟨⟨a, b⟩, hab, hb, h1, h2⟩
  simp (disch := first | omega | (simp <;> omega) | fail) [wrap_i64, wrap_u64, wrap_u8']
  dsimp only at hab hb h1 h2
  generalize hm : (a + b) / 2 = m
  refine HT.seq ?_
  refine HT.seq ?_
  refine HT.region ?_   -- R3
  simp (disch := first | omega | (simp <;> omega) | fail) [wrap_i64, wrap_u64, wrap_u8']
  refine HT.cond' ?_   -- if 17
  simp (disch := first | omega | (simp <;> omega) | fail) [wrap_i64, wrap_u64, wrap_u8']
  refine ⟨fun h17 => ?_, fun h17 => ?_⟩
  · skip
    have hm1 : m < b := by omega
    have hm2 : a ≤ m := by omega
    have hm3 : m < l.length := by omega
    have hdv : ((a : Int) + b).fdiv (2 ^ min 1 IntKind.u64.bits) = (m : Int) := by
      show Int.fdiv ((a : Int) + b) 2 = m
      rw [Int.fdiv_eq_ediv_of_nonneg _ (by omega)]; omega
    refine HT.skip ?_
    simp (disch := first | omega | (simp <;> omega) | fail) [wrap_i64, wrap_u64, wrap_u8']
    refine HT.block ?_
    refine HT.seq ?_
    refine HT.region ?_   -- R4
    simp (disch := first | omega | (simp <;> omega) | fail) [wrap_i64, wrap_u64, wrap_u8', hdv]
    refine HT.seq ?_
    refine HT.region ?_   -- R5
    simp (disch := first | omega | (simp <;> omega) | fail) [wrap_i64, wrap_u64, wrap_u8']
    refine stepK.mk (.call1 _ _ _ _ rfl Ty.hb89 rfl (cmpP_spec l[m] x) rfl rfl) ?_
    simp (disch := first | omega | (simp <;> omega) | fail) [wrap_i64, wrap_u64, wrap_u8']
    refine HT.cond' ?_   -- if 31
    simp (disch := first | omega | (simp <;> omega) | fail) [wrap_i64, wrap_u64, wrap_u8']
    refine ⟨fun h31 => ?_, fun h31 => ?_⟩
    · skip
      have hlt : l[m].code < x := by unfold cmpV at h31; split at h31 <;> omega
      refine HT.region ?_   -- R6
      simp (disch := first | omega | (simp <;> omega) | fail) [wrap_i64, wrap_u64, wrap_u8']
      refine Round.mk' (⟨(m + 1, b), by dsimp only; omega, hb, fun i y hi hy => by have := sorted_le hs (j := m) (by omega) hy (codesP_get hm3); omega, h2⟩) (by dsimp only; omega) rfl ?_
      simp (disch := first | omega | (simp <;> omega) | fail) [wrap_i64, wrap_u64, wrap_u8']
    · skip
      have hge : x ≤ l[m].code := by unfold cmpV at h31; split at h31 <;> omega
      refine HT.region ?_   -- R7
      simp (disch := first | omega | (simp <;> omega) | fail) [wrap_i64, wrap_u64, wrap_u8']
      refine Round.mk' (⟨(a, m), hm2, by dsimp only; omega, h1, fun i y hi hy => by have := sorted_le hs (i := m) hi (codesP_get hm3) hy; omega⟩) (by dsimp only; omega) rfl ?_
      simp (disch := first | omega | (simp <;> omega) | fail) [wrap_i64, wrap_u64, wrap_u8']
  · skip
    obtain rfl : a = b := by omega
    have hlb := lbI_of (l := codesP l) (by simpa using hb) h1 h2
    have hmem := lbI_mem (l := codesP l) (by simpa using hb) h1 h2 hs
    refine HT.exit ?_
    simp (disch := first | omega | (simp <;> omega) | fail) [wrap_i64, wrap_u64, wrap_u8']
    refine HT.seq ?_
    by_cases c1 : ¬ a < l.length
    · skip
      refine HT.region ?_   -- R8
      simp (disch := first | omega | (simp <;> omega) | fail) [wrap_i64, wrap_u64, wrap_u8', c1]
      refine HT.ret ?_
      first
      | (have hm2 : ¬ x ∈ codesP l := by rw [hmem]; rintro ⟨h, _⟩; exact c1 (by simpa using h)
         simp (disch := first | omega | (simp <;> omega) | fail) [wrap_i64, wrap_u64, wrap_u8', hlb, hm2, c1])
      | (have hm2 : x ∈ codesP l ↔ cmpV l[a] x = 0 := by
           rw [hmem]
           have hx := h2 a _ (Nat.le_refl _) (codesP_get c1)
           unfold cmpV
           constructor
           · rintro ⟨h, e⟩
             have : (codesP l)[a] = l[a].code := by simp [codesP]
             rw [if_neg (by omega), if_neg (by omega)]
           · intro e
             refine ⟨by simpa using c1, ?_⟩
             have : (codesP l)[a]'(by simpa using c1) = l[a].code := by simp [codesP]
             split at e
             · omega
             · split at e <;> omega
         simp (disch := first | omega | (simp <;> omega) | fail) [wrap_i64, wrap_u64, wrap_u8', hlb, hm2, c1])
    rw [Classical.not_not] at c1
    refine HT.region ?_   -- R8
    simp (disch := first | omega | (simp <;> omega) | fail) [wrap_i64, wrap_u64, wrap_u8', c1]
    refine stepK.mk (.call1 _ _ _ _ rfl Ty.hb89 rfl (cmpP_spec l[a] x) rfl rfl) ?_
    simp (disch := first | omega | (simp <;> omega) | fail) [wrap_i64, wrap_u64, wrap_u8', c1]
    refine HT.ret ?_
    first
    | (have hm2 : ¬ x ∈ codesP l := by rw [hmem]; rintro ⟨h, _⟩; exact c1 (by simpa using h)
       simp (disch := first | omega | (simp <;> omega) | fail) [wrap_i64, wrap_u64, wrap_u8', hlb, hm2, c1])
    | (have hm2 : x ∈ codesP l ↔ cmpV l[a] x = 0 := by
         rw [hmem]
         have hx := h2 a _ (Nat.le_refl _) (codesP_get c1)
         unfold cmpV
         constructor
         · rintro ⟨h, e⟩
           have : (codesP l)[a] = l[a].code := by simp [codesP]
           rw [if_neg (by omega), if_neg (by omega)]
         · intro e
           refine ⟨by simpa using c1, ?_⟩
           have : (codesP l)[a]'(by simpa using c1) = l[a].code := by simp [codesP]
           split at e
           · omega
           · split at e <;> omega
       simp (disch := first | omega | (simp <;> omega) | fail) [wrap_i64, wrap_u64, wrap_u8', hlb, hm2, c1])
theorem lb_lt {l : List Post} {c : Int} (hs : (codesP l).Pairwise (· ≤ ·)) (h : c ∈ codesP l) : ∃ k, lbI (codesP l) c = k ∧ ∃ hk : k < l.length, l[k].code = c ∧ ∀ i y, i < k → (codesP l)[i]? = some y → y < c := by
  obtain ⟨k, hk, h1, h2⟩ : ∃ k, k ≤ (codesP l).length ∧ (∀ i y, i < k → (codesP l)[i]? = some y → y < c) ∧ ∀ i y, k ≤ i → (codesP l)[i]? = some y → c ≤ y := by
    have key : ∀ n, n ≤ (codesP l).length → ∃ k, k ≤ n ∧ (∀ i y, i < k → (codesP l)[i]? = some y → y < c) ∧ ∀ i y, k ≤ i → i < n → (codesP l)[i]? = some y → c ≤ y := by
      intro n
      induction n with
      | zero => intro _; exact ⟨0, Nat.le_refl _, by omega, by omega⟩
      | succ n ih =>
        intro hn
        obtain ⟨k, hk, a1, a2⟩ := ih (by omega)
        by_cases e : k = n
        · subst e
          have hg := codesP_get (l := l) (i := k) (by have := codesP_length l; omega)
          by_cases hlt : (l[k]'(by have := codesP_length l; omega)).code < c
          · refine ⟨k + 1, Nat.le_refl _, fun i y hi hy => ?_, fun i y h1 h2 => by omega⟩
            by_cases e : i = k
            · subst e; rw [hg] at hy; cases hy; exact hlt
            · exact a1 i y (by omega) hy
          · refine ⟨k, by omega, a1, fun i y h1 h2 hy => ?_⟩
            obtain rfl : i = k := by omega
            rw [hg] at hy; cases hy; omega
        · refine ⟨k, by omega, a1, fun i y h1 h2 hy => ?_⟩
          by_cases e2 : i < n
          · exact a2 i y h1 e2 hy
          · have hkn := codesP_get (l := l) (i := k) (by have := codesP_length l; omega)
            have b1 := a2 k _ (Nat.le_refl _) (by omega) hkn
            have b2 := sorted_le hs h1 hkn hy
            omega
    obtain ⟨k, hk, a1, a2⟩ := key _ (Nat.le_refl _)
    exact ⟨k, hk, a1, fun i y h1 hy => a2 i y h1 (getElem?_lt hy) hy⟩
  refine ⟨k, lbI_of hk h1 h2, ?_⟩
  obtain ⟨hk2, e⟩ := (lbI_mem hk h1 h2 hs).1 h
  have hk3 : k < l.length := by simpa using hk2
  refine ⟨hk3, ?_, h1⟩
  simpa [codesP] using e
def SegS (s : Seg) : Prop := s.grams.length ≤ 1000000 ∧ (codesP s.grams).Pairwise (· ≤ ·) ∧ ∀ p ∈ s.grams, p.docs.length ≤ 1000000
theorem dcsV_le {s : Seg} (h : SegS s) (c : Int) : (dcsV s.grams c).length ≤ 1000000 := by
  unfold dcsV
  split
  · next p hp => exact h.2.2 p (List.mem_of_find?_eq_some hp)
  · simp
set_option maxHeartbeats 1000000 in
theorem posting_spec (s : Seg) (c : Int) (hs : SegS s) : Spec1 Tryz.prog 56 [.agg s.enc, i64 c] (.sl 2 false (gramsHV (dcsV s.grams c))) := by
  refine Spec1.of_HT Tryz.func56 rfl (by rw [Tryz.ntmps56]; simp) rfl ?_
  rw [Tryz.ntmps56]
  refine HT.seq ?_
  refine HT.region ?_   -- R0
  simp (disch := first | omega | (simp <;> omega) | fail) [wrap_i64, wrap_u64, wrap_u8']
  refine HT.seq ?_
  refine HT.region ?_   -- R1
  simp (disch := first | omega | (simp <;> omega) | fail) [wrap_i64, wrap_u64, wrap_u8']
  refine stepK.mk (.callT _ _ _ _ rfl Ty.hb88 rfl (BSearchP_spec false s.grams c hs.1 hs.2.1) rfl rfl) ?_
  simp (disch := first | omega | (simp <;> omega) | fail) [wrap_i64, wrap_u64, wrap_u8']
  refine HT.seq ?_
  refine HT.seq ?_
  by_cases m : c ∉ codesP s.grams
  · skip
    refine HT.region ?_   -- R2
    simp (disch := first | omega | (simp <;> omega) | fail) [wrap_i64, wrap_u64, wrap_u8', m]
    refine HT.cond' ?_   -- if 15
    simp (disch := first | omega | (simp <;> omega) | fail) [wrap_i64, wrap_u64, wrap_u8']
    refine HT.seq ?_
    refine HT.region ?_   -- R3
    simp (disch := first | omega | (simp <;> omega) | fail) [wrap_i64, wrap_u64, wrap_u8']
    refine HT.weaken (HS.le_wk 4 (.sl 2 false []) (by decide) rfl rfl (HLe.nilf 0 2 true)) ?_
    refine HT.ret ?_
    simp (disch := first | omega | (simp <;> omega) | fail) [wrap_i64, wrap_u64, wrap_u8', dcsV_none m]
  rw [Classical.not_not] at m
  obtain ⟨k, hk, hkl, hkc, hk1⟩ := lb_lt hs.2.1 m
  have hd := dcsV_at hkl hk1 hkc
  simp only [hk]
  refine HT.region ?_   -- R2
  simp (disch := first | omega | (simp <;> omega) | fail) [wrap_i64, wrap_u64, wrap_u8', m]
  refine HT.cond' ?_   -- if 15
  simp (disch := first | omega | (simp <;> omega) | fail) [wrap_i64, wrap_u64, wrap_u8']
  refine HT.skip ?_
  simp (disch := first | omega | (simp <;> omega) | fail) [wrap_i64, wrap_u64, wrap_u8']
  refine HT.seq ?_
  refine HT.region ?_   -- R4
  simp (disch := first | omega | (simp <;> omega) | fail) [wrap_i64, wrap_u64, wrap_u8']
  refine HT.ret ?_
  simp (disch := first | omega | (simp <;> omega) | fail) [wrap_i64, wrap_u64, wrap_u8', hd]
theorem takeMap_succ {α β : Type} (f : α → β) {l : List α} {k : Nat} (hk : k < l.length) : (l.take (k + 1)).map f = (l.take k).map f ++ [f l[k]] := by
  rw [List.take_succ_eq_append_getElem hk, List.map_append]; rfl
theorem docsV_succ (g : List Post) (c : Int) {k : Nat} (hk : k < (dcsV g c).length) : (docsV g c).take (k + 1) = (docsV g c).take k ++ [(dcsV g c)[k].code] := by
  unfold docsV
  rw [← List.map_take, ← List.map_take, takeMap_succ Gram.code hk]
theorem docsV_all (g : List Post) (c : Int) : (docsV g c).take (dcsV g c).length = docsV g c := by
  unfold docsV; rw [← List.map_take, List.take_length]
theorem find_at {α : Type} {p : α → Bool} {l : List α} {k : Nat} (hk : k < l.length) (h1 : ∀ i x, i < k → l[i]? = some x → p x = false) (h : p l[k] = true) : l.find? p = some l[k] := by
  rw [List.find?_eq_some_iff_getElem]
  refine ⟨h, k, hk, rfl, fun j hj => ?_⟩
  have := h1 j _ hj (List.getElem?_eq_getElem (by omega))
  simp [this]
theorem find_no {α : Type} {p : α → Bool} {l : List α} (h1 : ∀ i x, i < l.length → l[i]? = some x → p x = false) : l.find? p = none := by
  rw [List.find?_eq_none]
  intro x hx
  obtain ⟨i, hi⟩ := List.mem_iff_getElem?.1 hx
  simp [h1 i x (getElem?_lt hi) hi]
theorem ats_at {g : List Post} {c d : Int} {k : Nat} (hk : k < (dcsV g c).length) (h1 : ∀ i x, i < k → (dcsV g c)[i]? = some x → (fun x : Gram => decide (x.code = d)) x = false) (h : (dcsV g c)[k].code = d) : atsV g c d = (dcsV g c)[k].off := by
  unfold atsV
  rw [find_at hk h1 (by simpa using h)]
theorem ats_no {g : List Post} {c d : Int} (h1 : ∀ i x, i < (dcsV g c).length → (dcsV g c)[i]? = some x → (fun x : Gram => decide (x.code = d)) x = false) : atsV g c d = [] := by
  unfold atsV
  rw [find_no h1]
def SegT (s : Seg) : Prop := SegS s ∧ ∀ p ∈ s.grams, ∀ x ∈ p.docs, x.off.length ≤ 1000000
theorem dcsV_off {s : Seg} (h : SegT s) (c : Int) : ∀ x ∈ dcsV s.grams c, x.off.length ≤ 1000000 := by
  unfold dcsV
  split
  · next p hp => exact h.2 p (List.mem_of_find?_eq_some hp)
  · simp
set_option maxHeartbeats 1000000 in
theorem Docs_spec (s : Seg) (c : Int) (hs : SegS s) : Spec1 Tryz.prog 23 [.agg s.enc, i64 c] (.sl 1 false (intsHV (docsV s.grams c))) := by
  have hdl := dcsV_le hs c
  refine Spec1.of_HT Tryz.func23 rfl (by rw [Tryz.ntmps23]; simp) rfl ?_
  rw [Tryz.ntmps23]
  refine HT.seq ?_
  refine HT.region ?_   -- R0
  simp (disch := first | omega | (simp <;> omega) | fail) [wrap_i64, wrap_u64, wrap_u8']
  refine HT.seq ?_
  refine HT.region ?_   -- R1
  simp (disch := first | omega | (simp <;> omega) | fail) [wrap_i64, wrap_u64, wrap_u8']
  refine HT.weaken (HS.le_own (t := 5) 200 3 1 _ (by decide) rfl (by decide)) ?_
  refine HT.seq ?_
  refine HT.seq ?_
  refine HT.region ?_   -- R2
  simp (disch := first | omega | (simp <;> omega) | fail) [wrap_i64, wrap_u64, wrap_u8']
  refine stepK.mk (.call1f _ _ _ _ _ rfl Ty.hb56 rfl rfl (posting_spec s c hs) rfl) ?_
  simp (disch := first | omega | (simp <;> omega) | fail) [wrap_i64, wrap_u64, wrap_u8']
  refine HT.block ?_
  refine HT.loopK (fun k : {k : Nat // k ≤ (dcsV s.grams c).length} => [.s 12 (i64 k), .s 5 (.ref 200), .o 200 (.row 3 1 (intsHV ((docsV s.grams c).take k)))]) [10, 11] [] (fun k => (dcsV s.grams c).length - k) (⟨0, by omega⟩) ?_ ?_   -- block 0 turned [5, 12]
  · simp (disch := first | omega | (simp <;> omega) | fail) [wrap_i64, wrap_u64, wrap_u8']
  rintro ⟨k, hk⟩
  simp (disch := first | omega | (simp <;> omega) | fail) [wrap_i64, wrap_u64, wrap_u8']
  refine HT.seq ?_
  refine HT.region ?_   -- R3
  simp (disch := first | omega | (simp <;> omega) | fail) [wrap_i64, wrap_u64, wrap_u8']
  refine HT.seq ?_
  refine HT.cond' ?_   -- if 13
  simp (disch := first | omega | (simp <;> omega) | fail) [wrap_i64, wrap_u64, wrap_u8']
  refine ⟨fun h13 => ?_, fun h13 => ?_⟩
  · skip
    have hk' : k < (dcsV s.grams c).length := by omega
    refine HT.skip ?_
    simp (disch := first | omega | (simp <;> omega) | fail) [wrap_i64, wrap_u64, wrap_u8']
    refine HT.seq ?_
    refine HT.block ?_
    refine HT.seq ?_
    refine HT.region ?_   -- R4
    simp (disch := first | omega | (simp <;> omega) | fail) [wrap_i64, wrap_u64, wrap_u8']
    refine HT.region ?_   -- R5
    simp (disch := first | omega | (simp <;> omega) | fail) [wrap_i64, wrap_u64, wrap_u8']
    refine HT.region ?_   -- R6
    simp (disch := first | omega | (simp <;> omega) | fail) [wrap_i64, wrap_u64, wrap_u8']
    refine Round.mk' (⟨k + 1, by omega⟩) (by dsimp only; omega) rfl ?_
    simp (disch := first | omega | (simp <;> omega) | fail) [wrap_i64, wrap_u64, wrap_u8', docsV_succ s.grams c hk']
  · skip
    obtain rfl : k = (dcsV s.grams c).length := by omega
    refine HT.exit ?_
    simp (disch := first | omega | (simp <;> omega) | fail) [wrap_i64, wrap_u64, wrap_u8']
    refine HT.seq ?_
    refine HT.region ?_   -- R7
    simp (disch := first | omega | (simp <;> omega) | fail) [wrap_i64, wrap_u64, wrap_u8']
    refine HT.ret ?_
    simp (disch := first | omega | (simp <;> omega) | fail) [wrap_i64, wrap_u64, wrap_u8', docsV_all]
set_option maxHeartbeats 1000000 in
theorem At_seg (s : Seg) (c d : Int) (hs : SegT s) : Spec1 Tryz.prog 25 [.agg s.enc, i64 c, i64 d] (.sl 1 false (intsHV (atsV s.grams c d))) := by
  have hdl := dcsV_le hs.1 c
  refine Spec1.of_HT Tryz.func25 rfl (by rw [Tryz.ntmps25]; simp) rfl ?_
  rw [Tryz.ntmps25]
  refine HT.seq ?_
  refine HT.region ?_   -- R0
  simp (disch := first | omega | (simp <;> omega) | fail) [wrap_i64, wrap_u64, wrap_u8']
  refine HT.seq ?_
  refine HT.seq ?_
  refine HT.region ?_   -- R1
  simp (disch := first | omega | (simp <;> omega) | fail) [wrap_i64, wrap_u64, wrap_u8']
  refine stepK.mk (.call1f _ _ _ _ _ rfl Ty.hb56 rfl rfl (posting_spec s c hs.1) rfl) ?_
  simp (disch := first | omega | (simp <;> omega) | fail) [wrap_i64, wrap_u64, wrap_u8']
  refine HT.block ?_
  refine HT.loopK (fun k : {k : Nat // k ≤ (dcsV s.grams c).length ∧ ∀ i x, i < k → (dcsV s.grams c)[i]? = some x → (fun x : Gram => decide (x.code = d)) x = false} => [.s 13 (i64 k)]) [2, 11, 12] [] (fun k => (dcsV s.grams c).length - k) (⟨0, by omega, by simp⟩) ?_ ?_   -- block 0 turned [13]
  · simp (disch := first | omega | (simp <;> omega) | fail) [wrap_i64, wrap_u64, wrap_u8']
  rintro ⟨k, hk, hg⟩
  simp (disch := first | omega | (simp <;> omega) | fail) [wrap_i64, wrap_u64, wrap_u8']
  refine HT.seq ?_
  refine HT.region ?_   -- R2
  simp (disch := first | omega | (simp <;> omega) | fail) [wrap_i64, wrap_u64, wrap_u8']
  refine HT.seq ?_
  refine HT.cond' ?_   -- if 14
  simp (disch := first | omega | (simp <;> omega) | fail) [wrap_i64, wrap_u64, wrap_u8']
  refine ⟨fun h14 => ?_, fun h14 => ?_⟩
  · skip
    have hk' : k < (dcsV s.grams c).length := by omega
    have ho := dcsV_off hs c _ (List.getElem_mem hk')
    refine HT.skip ?_
    simp (disch := first | omega | (simp <;> omega) | fail) [wrap_i64, wrap_u64, wrap_u8']
    refine HT.seq ?_
    refine HT.block ?_
    refine HT.seq ?_
    refine HT.region ?_   -- R3
    simp (disch := first | omega | (simp <;> omega) | fail) [wrap_i64, wrap_u64, wrap_u8']
    refine HT.seq ?_
    refine HT.region ?_   -- R4
    simp (disch := first | omega | (simp <;> omega) | fail) [wrap_i64, wrap_u64, wrap_u8']
    refine HT.cond' ?_   -- if 20
    simp (disch := first | omega | (simp <;> omega) | fail) [wrap_i64, wrap_u64, wrap_u8']
    refine ⟨fun h20 => ?_, fun h20 => ?_⟩
    · skip
      refine HT.seq ?_
      refine HT.region ?_   -- R5
      simp (disch := first | omega | (simp <;> omega) | fail) [wrap_i64, wrap_u64, wrap_u8']
      refine stepK.mk (.callO _ _ _ _ _ _ _ _ rfl Ty.hb58 rfl rfl (Clone_spec false (dcsV s.grams c)[k].off (by omega)) rfl rfl) ?_
      simp (disch := first | omega | (simp <;> omega) | fail) [wrap_i64, wrap_u64, wrap_u8']
      refine HT.ret ?_
      simp (disch := first | omega | (simp <;> omega) | fail) [wrap_i64, wrap_u64, wrap_u8', ats_at hk' hg h20]
    · skip
      refine HT.skip ?_
      simp (disch := first | omega | (simp <;> omega) | fail) [wrap_i64, wrap_u64, wrap_u8']
      refine HT.region ?_   -- R6
      simp (disch := first | omega | (simp <;> omega) | fail) [wrap_i64, wrap_u64, wrap_u8']
      refine Round.mk' (⟨k + 1, by omega, upTo_succ hg hk' (by simpa using h20)⟩) (by dsimp only; omega) rfl ?_
      simp (disch := first | omega | (simp <;> omega) | fail) [wrap_i64, wrap_u64, wrap_u8']
  · skip
    obtain rfl : k = (dcsV s.grams c).length := by omega
    refine HT.exit ?_
    simp (disch := first | omega | (simp <;> omega) | fail) [wrap_i64, wrap_u64, wrap_u8']
    refine HT.seq ?_
    refine HT.region ?_   -- R7
    simp (disch := first | omega | (simp <;> omega) | fail) [wrap_i64, wrap_u64, wrap_u8']
    refine HT.weaken (HS.le_wk 6 (.sl 1 false []) (by decide) rfl rfl (HLe.nilf 0 1 true)) ?_
    refine HT.ret ?_
    simp (disch := first | omega | (simp <;> omega) | fail) [wrap_i64, wrap_u64, wrap_u8', ats_no hg]
def szJ (p : Post) (j : Nat) : Nat := ((p.docs.take j).map fun x => x.off.length).sum
def szK (g : List Post) (k : Nat) : Nat := sizeV (g.take k)
theorem szJ_zero (p : Post) : szJ p 0 = 0 := by simp [szJ]
theorem szK_zero (g : List Post) : szK g 0 = 0 := by simp [szK, sizeV]
theorem szJ_succ (p : Post) {j : Nat} (hj : j < p.docs.length) : szJ p (j + 1) = szJ p j + p.docs[j].off.length := by
  unfold szJ
  rw [List.take_succ_eq_append_getElem hj, List.map_append, List.sum_append]
  simp
theorem szK_succ (g : List Post) {k : Nat} (hk : k < g.length) : szK g (k + 1) = szK g k + szJ g[k] g[k].docs.length := by
  unfold szK sizeV szJ
  rw [List.take_succ_eq_append_getElem hk, List.map_append, List.sum_append, List.take_length]
  simp
theorem szK_all (g : List Post) : szK g g.length = sizeV g := by unfold szK; rw [List.take_length]
theorem szJ_le (p : Post) (j : Nat) : szJ p j ≤ szJ p p.docs.length := by
  have h : szJ p p.docs.length = szJ p j + ((p.docs.drop j).map fun x => x.off.length).sum := by
    unfold szJ
    rw [List.take_length, ← List.sum_append, ← List.map_append, List.take_append_drop]
  omega
theorem szK_le (g : List Post) (k : Nat) : szK g k ≤ sizeV g := by
  have h : sizeV g = szK g k + sizeV (g.drop k) := by
    unfold szK sizeV
    rw [← List.sum_append, ← List.map_append, List.take_append_drop]
  omega
theorem szKJ_le (g : List Post) {k j : Nat} (hk : k < g.length) : szK g k + szJ g[k] j ≤ sizeV g := by
  have h1 := szK_succ g hk
  have h2 := szK_le g (k + 1)
  have h3 := szJ_le g[k] j
  omega
set_option maxHeartbeats 1000000 in
theorem Size_spec (s : Seg) (hs : s.grams.length ≤ 1000000) (hd : ∀ p ∈ s.grams, p.docs.length ≤ 1000000) (hz : sizeV s.grams ≤ 1000000000) : Spec1 Tryz.prog 16 [.agg s.enc] (i64 (sizeV s.grams)) := by
  refine Spec1.of_HT Tryz.func16 rfl (by rw [Tryz.ntmps16]; simp) rfl ?_
  rw [Tryz.ntmps16]
  refine HT.seq ?_
  refine HT.region ?_   -- R0
  simp (disch := first | omega | (simp <;> omega) | fail) [wrap_i64, wrap_u64, wrap_u8']
  refine HT.seq ?_
  refine HT.region ?_   -- R1
  simp (disch := first | omega | (simp <;> omega) | fail) [wrap_i64, wrap_u64, wrap_u8']
  refine HT.seq ?_
  refine HT.seq ?_
  refine HT.region ?_   -- R2
  simp (disch := first | omega | (simp <;> omega) | fail) [wrap_i64, wrap_u64, wrap_u8']
  refine HT.block ?_
  refine HT.loopK (fun k : {k : Nat // k ≤ s.grams.length} => [.s 11 (i64 k), .s 3 (i64 (szK s.grams k))]) [9, 10] [] (fun k => s.grams.length - k) (⟨0, by omega⟩) ?_ ?_   -- block 0 turned [3, 11]
  · simp (disch := first | omega | (simp <;> omega) | fail) [wrap_i64, wrap_u64, wrap_u8', szK_zero]
  rintro ⟨k, hk⟩
  simp (disch := first | omega | (simp <;> omega) | fail) [wrap_i64, wrap_u64, wrap_u8']
  refine HT.seq ?_
  refine HT.region ?_   -- R3
  simp (disch := first | omega | (simp <;> omega) | fail) [wrap_i64, wrap_u64, wrap_u8']
  refine HT.seq ?_
  refine HT.cond' ?_   -- if 12
  simp (disch := first | omega | (simp <;> omega) | fail) [wrap_i64, wrap_u64, wrap_u8']
  refine ⟨fun h12 => ?_, fun h12 => ?_⟩
  · skip
    have hk' : k < s.grams.length := by omega
    have hdk := hd _ (List.getElem_mem hk')
    have hzk := szK_le s.grams k
    refine HT.skip ?_
    simp (disch := first | omega | (simp <;> omega) | fail) [wrap_i64, wrap_u64, wrap_u8']
    refine HT.seq ?_
    refine HT.block ?_
    refine HT.seq ?_
    refine HT.region ?_   -- R4
    simp (disch := first | omega | (simp <;> omega) | fail) [wrap_i64, wrap_u64, wrap_u8']
    refine HT.seq ?_
    refine HT.region ?_   -- R5
    simp (disch := first | omega | (simp <;> omega) | fail) [wrap_i64, wrap_u64, wrap_u8']
    refine HT.block ?_
    refine HT.loopK (fun j : {j : Nat // j ≤ s.grams[k].docs.length} => [.s 18 (i64 j), .s 3 (i64 ((szK s.grams k : Int) + szJ s.grams[k] j))]) [9, 10, 11, 16, 17] [] (fun j => s.grams[k].docs.length - j) (⟨0, by omega⟩) ?_ ?_   -- block 2 turned [3, 18]
    · simp (disch := first | omega | (simp <;> omega) | fail) [wrap_i64, wrap_u64, wrap_u8', szJ_zero]
    rintro ⟨j, hj⟩
    simp (disch := first | omega | (simp <;> omega) | fail) [wrap_i64, wrap_u64, wrap_u8']
    refine HT.seq ?_
    refine HT.region ?_   -- R6
    simp (disch := first | omega | (simp <;> omega) | fail) [wrap_i64, wrap_u64, wrap_u8']
    refine HT.seq ?_
    refine HT.cond' ?_   -- if 19
    simp (disch := first | omega | (simp <;> omega) | fail) [wrap_i64, wrap_u64, wrap_u8']
    refine ⟨fun h19 => ?_, fun h19 => ?_⟩
    · skip
      have hj' : j < s.grams[k].docs.length := by omega
      have hzj := szKJ_le s.grams (j := j + 1) hk'
      have hzs := szJ_succ s.grams[k] hj'
      refine HT.skip ?_
      simp (disch := first | omega | (simp <;> omega) | fail) [wrap_i64, wrap_u64, wrap_u8']
      refine HT.seq ?_
      refine HT.block ?_
      refine HT.seq ?_
      refine HT.region ?_   -- R7
      simp (disch := first | omega | (simp <;> omega) | fail) [wrap_i64, wrap_u64, wrap_u8']
      refine HT.region ?_   -- R8
      simp (disch := first | omega | (simp <;> omega) | fail) [wrap_i64, wrap_u64, wrap_u8']
      refine HT.region ?_   -- R9
      simp (disch := first | omega | (simp <;> omega) | fail) [wrap_i64, wrap_u64, wrap_u8']
      refine Round.mk' (⟨j + 1, by omega⟩) (by dsimp only; omega) rfl ?_
      simp (disch := first | omega | (simp <;> omega) | fail) [wrap_i64, wrap_u64, wrap_u8', szJ_succ s.grams[k] hj']
      try omega
    · skip
      obtain rfl : j = s.grams[k].docs.length := by omega
      refine HT.exit ?_
      simp (disch := first | omega | (simp <;> omega) | fail) [wrap_i64, wrap_u64, wrap_u8']
      refine HT.region ?_   -- R10
      simp (disch := first | omega | (simp <;> omega) | fail) [wrap_i64, wrap_u64, wrap_u8']
      refine Round.mk' (⟨k + 1, by omega⟩) (by dsimp only; omega) rfl ?_
      simp (disch := first | omega | (simp <;> omega) | fail) [wrap_i64, wrap_u64, wrap_u8', szK_succ s.grams hk']
  · skip
    obtain rfl : k = s.grams.length := by omega
    refine HT.exit ?_
    simp (disch := first | omega | (simp <;> omega) | fail) [wrap_i64, wrap_u64, wrap_u8']
    refine HT.seq ?_
    refine HT.region ?_   -- R11
    simp (disch := first | omega | (simp <;> omega) | fail) [wrap_i64, wrap_u64, wrap_u8']
    refine HT.ret ?_
    simp (disch := first | omega | (simp <;> omega) | fail) [wrap_i64, wrap_u64, wrap_u8', szK_all]
end Go.Hv
set_option linter.unusedVariables false
set_option linter.unusedSimpArgs false
/- The bounds of the laws, and what they look up (layer 29). -/
namespace Go.Hv
open Go Go.Hv Go.Proofs Go.RowKit
open Go.Proofs.YtlbmbnpknobjdaaGreatDoor
def shortS (s : List UInt8) : Bool := decide (s.length ≤ 100)
def okD (d : Doc) : Bool := decide (d.text.length ≤ 120 ∧ d.on.length ≤ 12 ∧ d.repo.length ≤ 100 ∧ d.path.length ≤ 100) && d.on.all shortS
def fewV (l : List Doc) : Bool := decide (l.length ≤ 12) && l.all okD
theorem all_snoc {α : Type} (p : α → Bool) {l : List α} {k : Nat} (hk : k < l.length) : (l.take (k + 1)).all p = ((l.take k).all p && p l[k]) := by
  rw [List.take_succ_eq_append_getElem hk, List.all_append]; simp
theorem all_bad {α : Type} {p : α → Bool} {l : List α} {k : Nat} (hk : k < l.length) (h : p l[k] = false) : l.all p = false := by
  rw [Bool.eq_false_iff]
  intro h2
  have := List.all_eq_true.1 h2 l[k] (List.getElem_mem hk)
  rw [h] at this; cases this
theorem few_bad {l : List Doc} {k : Nat} (hk : k < l.length) (h : okD l[k] = false) : fewV l = false := by
  unfold fewV; rw [all_bad hk h, Bool.and_false]
theorem okD_bad {d : Doc} (h : 120 < d.text.length ∨ 12 < d.on.length ∨ 100 < d.repo.length ∨ 100 < d.path.length) : okD d = false := by
  unfold okD
  rw [decide_eq_false (by omega)]; rfl
set_option maxHeartbeats 4000000 in
theorem few_spec (l : List Doc) (hl : l.length ≤ 140737488355328) (hd : ∀ d ∈ l, d.text.length ≤ 140737488355328 ∧ d.on.length ≤ 140737488355328 ∧ d.repo.length ≤ 140737488355328 ∧ d.path.length ≤ 140737488355328 ∧ ∀ s ∈ d.on, s.length ≤ 140737488355328) : Spec1 Tryz.prog 11 [.sl 5 false (docsHV l)] (bo (fewV l)) := by
  refine Spec1.of_HT Tryz.func11 rfl (by rw [Tryz.ntmps11]; simp) rfl ?_
  rw [Tryz.ntmps11]
  refine HT.seq ?_
  refine HT.region ?_   -- R0
  simp (disch := first | omega | (simp <;> omega) | fail) [wrap_i64, wrap_u64, wrap_u8']
  refine HT.seq ?_
  refine HT.seq ?_
  refine HT.region ?_   -- R1
  simp (disch := first | omega | (simp <;> omega) | fail) [wrap_i64, wrap_u64, wrap_u8']
  refine HT.cond' ?_   -- if 7
  simp (disch := first | omega | (simp <;> omega) | fail) [wrap_i64, wrap_u64, wrap_u8']
  refine ⟨fun h7 => ?_, fun h7 => ?_⟩
  · skip
    refine HT.seq ?_
    refine HT.region ?_   -- R2
    simp (disch := first | omega | (simp <;> omega) | fail) [wrap_i64, wrap_u64, wrap_u8']
    refine HT.ret ?_
    simp (disch := first | omega | (simp <;> omega) | fail) [wrap_i64, wrap_u64, wrap_u8', fewV, show ¬ l.length ≤ 12 by omega]
  · skip
    refine HT.skip ?_
    simp (disch := first | omega | (simp <;> omega) | fail) [wrap_i64, wrap_u64, wrap_u8']
    refine HT.seq ?_
    refine HT.seq ?_
    refine HT.region ?_   -- R3
    simp (disch := first | omega | (simp <;> omega) | fail) [wrap_i64, wrap_u64, wrap_u8']
    refine HT.block ?_
    refine HT.loopK (fun k : {k : Nat // k ≤ l.length ∧ (l.take k).all okD = true} => [.s 3 (i64 k)]) [0] [] (fun k => l.length - k) (⟨0, by omega, rfl⟩) ?_ ?_   -- block 0 turned [3, 22, 23, 24, 25, 26, 27, 28, 31, 32, 33, 34, 35, 36, 37, 40, 41, 42, 43, 44, 45, 46]
    · simp (disch := first | omega | (simp <;> omega) | fail) [wrap_i64, wrap_u64, wrap_u8']
    rintro ⟨k, hk, hg⟩
    simp (disch := first | omega | (simp <;> omega) | fail) [wrap_i64, wrap_u64, wrap_u8']
    refine HT.seq ?_
    refine HT.seq ?_
    refine HT.region ?_   -- R4
    simp (disch := first | omega | (simp <;> omega) | fail) [wrap_i64, wrap_u64, wrap_u8']
    refine HT.cond' ?_   -- if 11
    simp (disch := first | omega | (simp <;> omega) | fail) [wrap_i64, wrap_u64, wrap_u8']
    refine ⟨fun h11 => ?_, fun h11 => ?_⟩
    · skip
      have hk' : k < l.length := by omega
      have hb := hd _ (List.getElem_mem hk')
      refine HT.skip ?_
      simp (disch := first | omega | (simp <;> omega) | fail) [wrap_i64, wrap_u64, wrap_u8']
      refine HT.seq ?_
      refine HT.block ?_
      refine HT.seq ?_
      refine HT.seq ?_
      by_cases e1 : 120 < l[k].text.length
      · skip
        refine HT.region ?_   -- R6
        simp (disch := first | omega | (simp <;> omega) | fail) [wrap_i64, wrap_u64, wrap_u8', e1]
        refine HT.cond' ?_   -- if 47
        simp (disch := first | omega | (simp <;> omega) | fail) [wrap_i64, wrap_u64, wrap_u8']
        refine HT.seq ?_
        refine HT.region ?_   -- R7
        simp (disch := first | omega | (simp <;> omega) | fail) [wrap_i64, wrap_u64, wrap_u8']
        refine HT.ret ?_
        have hbad : fewV l = false := few_bad hk' (okD_bad (by omega))
        simp (disch := first | omega | (simp <;> omega) | fail) [wrap_i64, wrap_u64, wrap_u8', hbad]
      by_cases e2 : 12 < l[k].on.length
      · skip
        refine HT.region ?_   -- R6
        simp (disch := first | omega | (simp <;> omega) | fail) [wrap_i64, wrap_u64, wrap_u8', e1, e2]
        refine HT.cond' ?_   -- if 47
        simp (disch := first | omega | (simp <;> omega) | fail) [wrap_i64, wrap_u64, wrap_u8']
        refine HT.seq ?_
        refine HT.region ?_   -- R7
        simp (disch := first | omega | (simp <;> omega) | fail) [wrap_i64, wrap_u64, wrap_u8']
        refine HT.ret ?_
        have hbad : fewV l = false := few_bad hk' (okD_bad (by omega))
        simp (disch := first | omega | (simp <;> omega) | fail) [wrap_i64, wrap_u64, wrap_u8', hbad]
      by_cases e3 : 100 < l[k].repo.length
      · skip
        refine HT.region ?_   -- R6
        simp (disch := first | omega | (simp <;> omega) | fail) [wrap_i64, wrap_u64, wrap_u8', e1, e2, e3]
        refine HT.cond' ?_   -- if 47
        simp (disch := first | omega | (simp <;> omega) | fail) [wrap_i64, wrap_u64, wrap_u8']
        refine HT.seq ?_
        refine HT.region ?_   -- R7
        simp (disch := first | omega | (simp <;> omega) | fail) [wrap_i64, wrap_u64, wrap_u8']
        refine HT.ret ?_
        have hbad : fewV l = false := few_bad hk' (okD_bad (by omega))
        simp (disch := first | omega | (simp <;> omega) | fail) [wrap_i64, wrap_u64, wrap_u8', hbad]
      by_cases e4 : 100 < l[k].path.length
      · skip
        refine HT.region ?_   -- R6
        simp (disch := first | omega | (simp <;> omega) | fail) [wrap_i64, wrap_u64, wrap_u8', e1, e2, e3, e4]
        refine HT.cond' ?_   -- if 47
        simp (disch := first | omega | (simp <;> omega) | fail) [wrap_i64, wrap_u64, wrap_u8']
        refine HT.seq ?_
        refine HT.region ?_   -- R7
        simp (disch := first | omega | (simp <;> omega) | fail) [wrap_i64, wrap_u64, wrap_u8']
        refine HT.ret ?_
        have hbad : fewV l = false := few_bad hk' (okD_bad (by omega))
        simp (disch := first | omega | (simp <;> omega) | fail) [wrap_i64, wrap_u64, wrap_u8', hbad]
      refine HT.region ?_   -- R6
      simp (disch := first | omega | (simp <;> omega) | fail) [wrap_i64, wrap_u64, wrap_u8', e1, e2, e3, e4]
      refine HT.cond' ?_   -- if 47
      simp (disch := first | omega | (simp <;> omega) | fail) [wrap_i64, wrap_u64, wrap_u8']
      refine HT.skip ?_
      simp (disch := first | omega | (simp <;> omega) | fail) [wrap_i64, wrap_u64, wrap_u8']
      refine HT.seq ?_
      refine HT.region ?_   -- R8
      simp (disch := first | omega | (simp <;> omega) | fail) [wrap_i64, wrap_u64, wrap_u8']
      refine HT.block ?_
      refine HT.loopK (fun j : {j : Nat // j ≤ l[k].on.length ∧ (l[k].on.take j).all shortS = true} => [.s 4 (i64 j)]) [0, 3, 22, 23, 24, 25, 26, 27, 28, 31, 32, 33, 34, 35, 36, 37, 40, 41, 42, 43, 44, 45, 46] [] (fun j => l[k].on.length - j) (⟨0, by omega, rfl⟩) ?_ ?_   -- block 2 turned [4]
      · simp (disch := first | omega | (simp <;> omega) | fail) [wrap_i64, wrap_u64, wrap_u8']
      rintro ⟨j, hj, hj2⟩
      simp (disch := first | omega | (simp <;> omega) | fail) [wrap_i64, wrap_u64, wrap_u8']
      refine HT.seq ?_
      refine HT.seq ?_
      refine HT.region ?_   -- R9
      simp (disch := first | omega | (simp <;> omega) | fail) [wrap_i64, wrap_u64, wrap_u8']
      refine HT.cond' ?_   -- if 55
      simp (disch := first | omega | (simp <;> omega) | fail) [wrap_i64, wrap_u64, wrap_u8']
      refine ⟨fun h55 => ?_, fun h55 => ?_⟩
      · skip
        have hj' : j < l[k].on.length := by omega
        have hs := hb.2.2.2.2 _ (List.getElem_mem hj')
        refine HT.skip ?_
        simp (disch := first | omega | (simp <;> omega) | fail) [wrap_i64, wrap_u64, wrap_u8']
        refine HT.seq ?_
        refine HT.block ?_
        refine HT.seq ?_
        refine HT.region ?_   -- R11
        simp (disch := first | omega | (simp <;> omega) | fail) [wrap_i64, wrap_u64, wrap_u8']
        refine HT.cond' ?_   -- if 67
        simp (disch := first | omega | (simp <;> omega) | fail) [wrap_i64, wrap_u64, wrap_u8']
        refine ⟨fun h67 => ?_, fun h67 => ?_⟩
        · skip
          refine HT.seq ?_
          refine HT.region ?_   -- R12
          simp (disch := first | omega | (simp <;> omega) | fail) [wrap_i64, wrap_u64, wrap_u8']
          refine HT.ret ?_
          have hbad : fewV l = false := few_bad hk' (by unfold okD; rw [all_bad hj' (by simp [shortS]; omega), Bool.and_false])
          simp (disch := first | omega | (simp <;> omega) | fail) [wrap_i64, wrap_u64, wrap_u8', hbad]
        · skip
          refine HT.skip ?_
          simp (disch := first | omega | (simp <;> omega) | fail) [wrap_i64, wrap_u64, wrap_u8']
          refine HT.region ?_   -- R10
          simp (disch := first | omega | (simp <;> omega) | fail) [wrap_i64, wrap_u64, wrap_u8']
          refine Round.mk' (⟨j + 1, by omega, by rw [all_snoc shortS hj', hj2]; simp [shortS]; omega⟩) (by dsimp only; omega) rfl ?_
          simp (disch := first | omega | (simp <;> omega) | fail) [wrap_i64, wrap_u64, wrap_u8']
      · skip
        obtain rfl : j = l[k].on.length := by omega
        rw [List.take_length] at hj2
        have hok : okD l[k] = true := by unfold okD; rw [hj2, decide_eq_true (by omega)]; rfl
        refine HT.exit ?_
        simp (disch := first | omega | (simp <;> omega) | fail) [wrap_i64, wrap_u64, wrap_u8']
        refine HT.region ?_   -- R5
        simp (disch := first | omega | (simp <;> omega) | fail) [wrap_i64, wrap_u64, wrap_u8']
        refine Round.mk' (⟨k + 1, by omega, by rw [all_snoc okD hk', hg, hok]; rfl⟩) (by dsimp only; omega) rfl ?_
        simp (disch := first | omega | (simp <;> omega) | fail) [wrap_i64, wrap_u64, wrap_u8']
    · skip
      obtain rfl : k = l.length := by omega
      rw [List.take_length] at hg
      refine HT.exit ?_
      simp (disch := first | omega | (simp <;> omega) | fail) [wrap_i64, wrap_u64, wrap_u8']
      refine HT.seq ?_
      refine HT.region ?_   -- R13
      simp (disch := first | omega | (simp <;> omega) | fail) [wrap_i64, wrap_u64, wrap_u8']
      refine HT.ret ?_
      have hgood : fewV l = true := by unfold fewV; rw [hg, decide_eq_true (by omega)]; rfl
      simp (disch := first | omega | (simp <;> omega) | fail) [wrap_i64, wrap_u64, wrap_u8', hgood]
end Go.Hv
set_option linter.unusedVariables false
set_option linter.unusedSimpArgs false
/- The bounds of a segment, and what is looked up (layer 29). -/
namespace Go.Hv
open Go Go.Hv Go.Proofs Go.RowKit
open Go.Proofs.YtlbmbnpknobjdaaGreatDoor
end Go.Hv
set_option linter.unusedVariables false
set_option linter.unusedSimpArgs false
namespace Go.Hv
open Go Go.Hv Go.Proofs Go.RowKit
open Go.Proofs.YtlbmbnpknobjdaaGreatDoor
theorem ne_len {α : Type} {a b : List α} (h : ¬ a.length = b.length) : ¬ a = b := fun e => h (by rw [e])
theorem ne_at {α : Type} {a b : List α} {k : Nat} (ha : k < a.length) (hb : k < b.length) (h : ¬ a[k] = b[k]) : ¬ a = b := fun e => by subst e; exact h rfl
set_option maxHeartbeats 2000000 in
theorem Same5_spec (a b : List Int) (ha : a.length ≤ 140737488355328) : Spec1 Tryz.prog 22 [.sl 1 false (intsHV a), .sl 1 false (intsHV b)] (bo (decide (a = b))) := by
  refine Spec1.of_HT Tryz.func22 rfl (by rw [Tryz.ntmps22]; simp) rfl ?_
  rw [Tryz.ntmps22]
  refine HT.seq ?_
  refine HT.region ?_   -- R0
  simp (disch := first | omega | (simp <;> omega) | fail) [wrap_i64, wrap_u64, wrap_u8']
  refine HT.seq ?_
  refine HT.seq ?_
  by_cases c1 : ¬ a.length = b.length
  · skip
    refine HT.region ?_   -- R1
    simp (disch := first | omega | (simp <;> omega) | fail) [wrap_i64, wrap_u64, wrap_u8']
    refine HT.cond' ?_   -- if 10
    simp (disch := first | omega | (simp <;> omega) | fail) [wrap_i64, wrap_u64, wrap_u8']
    refine HT.seq ?_
    refine HT.region ?_   -- R2
    simp (disch := first | omega | (simp <;> omega) | fail) [wrap_i64, wrap_u64, wrap_u8']
    refine HT.ret ?_
    simp (disch := first | omega | (simp <;> omega) | fail) [wrap_i64, wrap_u64, wrap_u8', ne_len c1]
  refine HT.region ?_   -- R1
  simp (disch := first | omega | (simp <;> omega) | fail) [wrap_i64, wrap_u64, wrap_u8']
  refine HT.cond' ?_   -- if 10
  simp (disch := first | omega | (simp <;> omega) | fail) [wrap_i64, wrap_u64, wrap_u8']
  refine HT.skip ?_
  simp (disch := first | omega | (simp <;> omega) | fail) [wrap_i64, wrap_u64, wrap_u8']
  refine HT.seq ?_
  refine HT.seq ?_
  refine HT.region ?_   -- R3
  simp (disch := first | omega | (simp <;> omega) | fail) [wrap_i64, wrap_u64, wrap_u8']
  refine HT.block ?_
  refine HT.loopK (fun k : {k : Nat // k ≤ a.length ∧ ∀ i, i < k → a[i]? = b[i]?} => [.s 5 (i64 k)]) [0, 1] [] (fun k => a.length - k) (⟨0, by omega, by intro i hi; omega⟩) ?_ ?_   -- block 0 turned [5]
  · simp (disch := first | omega | (simp <;> omega) | fail) [wrap_i64, wrap_u64, wrap_u8']
  rintro ⟨k, hk, hg⟩
  simp (disch := first | omega | (simp <;> omega) | fail) [wrap_i64, wrap_u64, wrap_u8']
  refine HT.seq ?_
  refine HT.seq ?_
  refine HT.region ?_   -- R4
  simp (disch := first | omega | (simp <;> omega) | fail) [wrap_i64, wrap_u64, wrap_u8']
  refine HT.cond' ?_   -- if 14
  simp (disch := first | omega | (simp <;> omega) | fail) [wrap_i64, wrap_u64, wrap_u8']
  refine ⟨fun h14 => ?_, fun h14 => ?_⟩
  · skip
    have hk' : k < a.length := by omega
    have hkb : k < b.length := by omega
    refine HT.skip ?_
    simp (disch := first | omega | (simp <;> omega) | fail) [wrap_i64, wrap_u64, wrap_u8']
    refine HT.seq ?_
    refine HT.block ?_
    refine HT.seq ?_
    by_cases d1 : ¬ a[k] = b[k]
    · skip
      refine HT.draw [.batch [0, 1, 2, 3, 4, 5, 6, 7, 8]] (by kernel_rfl) ?_   -- R6
      simp (disch := first | omega | (simp <;> omega) | fail) [wrap_i64, wrap_u64, wrap_u8', d1]
      refine HT.cond' ?_   -- if 25
      simp (disch := first | omega | (simp <;> omega) | fail) [wrap_i64, wrap_u64, wrap_u8']
      refine HT.seq ?_
      refine HT.region ?_   -- R7
      simp (disch := first | omega | (simp <;> omega) | fail) [wrap_i64, wrap_u64, wrap_u8']
      refine HT.ret ?_
      simp (disch := first | omega | (simp <;> omega) | fail) [wrap_i64, wrap_u64, wrap_u8', ne_at hk' hkb d1]
    rw [Classical.not_not] at d1
    refine HT.draw [.batch [0, 1, 2, 3, 4, 5, 6, 7, 8]] (by kernel_rfl) ?_   -- R6
    simp (disch := first | omega | (simp <;> omega) | fail) [wrap_i64, wrap_u64, wrap_u8', d1]
    refine HT.cond' ?_   -- if 25
    simp (disch := first | omega | (simp <;> omega) | fail) [wrap_i64, wrap_u64, wrap_u8']
    refine HT.skip ?_
    simp (disch := first | omega | (simp <;> omega) | fail) [wrap_i64, wrap_u64, wrap_u8']
    refine HT.region ?_   -- R5
    simp (disch := first | omega | (simp <;> omega) | fail) [wrap_i64, wrap_u64, wrap_u8']
    refine Round.mk' (⟨k + 1, by omega, agreeX hg (by rw [List.getElem?_eq_getElem hk', List.getElem?_eq_getElem hkb, d1])⟩) (by dsimp only; omega) rfl ?_
    simp (disch := first | omega | (simp <;> omega) | fail) [wrap_i64, wrap_u64, wrap_u8']
  · skip
    obtain rfl : k = a.length := by omega
    refine HT.exit ?_
    simp (disch := first | omega | (simp <;> omega) | fail) [wrap_i64, wrap_u64, wrap_u8']
    refine HT.seq ?_
    refine HT.region ?_   -- R8
    simp (disch := first | omega | (simp <;> omega) | fail) [wrap_i64, wrap_u64, wrap_u8']
    refine HT.ret ?_
    have hx : a = b := extX (by omega) hg
    simp (disch := first | omega | (simp <;> omega) | fail) [wrap_i64, wrap_u64, wrap_u8', hx]
def DocQ (d : Doc) : Prop := d.repo.length ≤ 1000000 ∧ d.path.length ≤ 1000000 ∧ d.text.length ≤ 1000000 ∧ d.on.length ≤ 140737488355328 ∧ ∀ s ∈ d.on, s.length ≤ 140737488355328
theorem DocQ.kb {d : Doc} (h : DocQ d) : KB (keyV d) := ⟨by have := h.1; show d.repo.length ≤ _; omega, by have := h.2.1; show d.path.length ≤ _; omega, by have := h.2.2.1; show d.text.length ≤ _; omega⟩
theorem doc_eq {d e : Doc} (h1 : d.id = e.id) (h2 : keyV d = keyV e) : (d = e) = (d.on = e.on) := by
  cases d; cases e
  simp only [keyV, Prod.mk.injEq] at h2
  simp only at h1
  simp [h1, h2.1, h2.2.1, h2.2.2]
set_option maxHeartbeats 4000000 in
set_option maxRecDepth 20000 in
theorem SameAt_spec (a b : List Gram) (ha : a.length ≤ 140737488355328) (hA : ∀ g ∈ a, g.off.length ≤ 140737488355328) : Spec1 Tryz.prog 28 [.sl 2 false (gramsHV a), .sl 2 false (gramsHV b)] (bo (decide (a = b))) := by
  refine Spec1.of_HT Tryz.func28 rfl (by rw [Tryz.ntmps28]; simp) rfl ?_
  rw [Tryz.ntmps28]
  refine HT.seq ?_
  refine HT.region ?_   -- R0
  simp (disch := first | omega | (simp <;> omega) | fail) [wrap_i64, wrap_u64, wrap_u8']
  refine HT.seq ?_
  refine HT.seq ?_
  by_cases c1 : ¬ a.length = b.length
  · skip
    refine HT.region ?_   -- R1
    simp (disch := first | omega | (simp <;> omega) | fail) [wrap_i64, wrap_u64, wrap_u8']
    refine HT.cond' ?_   -- if 10
    simp (disch := first | omega | (simp <;> omega) | fail) [wrap_i64, wrap_u64, wrap_u8']
    refine HT.seq ?_
    refine HT.region ?_   -- R2
    simp (disch := first | omega | (simp <;> omega) | fail) [wrap_i64, wrap_u64, wrap_u8']
    refine HT.ret ?_
    simp (disch := first | omega | (simp <;> omega) | fail) [wrap_i64, wrap_u64, wrap_u8', ne_len c1]
  refine HT.region ?_   -- R1
  simp (disch := first | omega | (simp <;> omega) | fail) [wrap_i64, wrap_u64, wrap_u8']
  refine HT.cond' ?_   -- if 10
  simp (disch := first | omega | (simp <;> omega) | fail) [wrap_i64, wrap_u64, wrap_u8']
  refine HT.skip ?_
  simp (disch := first | omega | (simp <;> omega) | fail) [wrap_i64, wrap_u64, wrap_u8']
  refine HT.seq ?_
  refine HT.seq ?_
  refine HT.region ?_   -- R3
  simp (disch := first | omega | (simp <;> omega) | fail) [wrap_i64, wrap_u64, wrap_u8']
  refine HT.block ?_
  refine HT.loopK (fun k : {k : Nat // k ≤ a.length ∧ ∀ i, i < k → a[i]? = b[i]?} => [.s 5 (i64 k)]) [0, 1] [] (fun k => a.length - k) (⟨0, by omega, by intro i hi; omega⟩) ?_ ?_   -- block 0 turned [5, 29, 30, 31, 32, 33, 34, 35, 36, 37, 38, 39, 40]
  · simp (disch := first | omega | (simp <;> omega) | fail) [wrap_i64, wrap_u64, wrap_u8']
  rintro ⟨k, hk, hg⟩
  simp (disch := first | omega | (simp <;> omega) | fail) [wrap_i64, wrap_u64, wrap_u8']
  refine HT.seq ?_
  refine HT.seq ?_
  refine HT.region ?_   -- R4
  simp (disch := first | omega | (simp <;> omega) | fail) [wrap_i64, wrap_u64, wrap_u8']
  refine HT.cond' ?_   -- if 14
  simp (disch := first | omega | (simp <;> omega) | fail) [wrap_i64, wrap_u64, wrap_u8']
  refine ⟨fun h14 => ?_, fun h14 => ?_⟩
  · skip
    have hk' : k < a.length := by omega
    have hkb : k < b.length := by omega
    refine HT.skip ?_
    simp (disch := first | omega | (simp <;> omega) | fail) [wrap_i64, wrap_u64, wrap_u8']
    refine HT.seq ?_
    refine HT.block ?_
    refine HT.seq ?_
    by_cases d1 : ¬ a[k].code = b[k].code
    · skip
      refine HT.draw [.batch [0, 1, 2, 3, 4, 5, 6, 7, 8, 9, 10, 11, 12, 13, 14, 15, 16, 17, 18, 19, 20, 21, 22, 23, 24]] (by kernel_rfl) ?_   -- R6
      simp -dsimp (disch := first | omega | (simp <;> omega) | fail) [wrap_i64, wrap_u64, wrap_u8']
      refine HT.cond' ?_   -- if 41
      simp (disch := first | omega | (simp <;> omega) | fail) [wrap_i64, wrap_u64, wrap_u8']
      refine HT.seq ?_
      refine HT.region ?_   -- R7
      simp (disch := first | omega | (simp <;> omega) | fail) [wrap_i64, wrap_u64, wrap_u8']
      refine HT.ret ?_
      have hx : ¬ a = b := ne_at hk' hkb (fun h => by first | exact d1 (by rw [h]) | exact d2 (by rw [h]))
      simp (disch := first | omega | (simp <;> omega) | fail) [wrap_i64, wrap_u64, wrap_u8', hx]
    rw [Classical.not_not] at d1
    by_cases d2 : ¬ a[k].off = b[k].off
    · skip
      refine HT.draw [.batch [0, 1, 2, 3, 4, 5, 6, 7, 8, 9, 10, 11, 12, 13, 14, 15, 16, 17, 18, 19, 20, 21, 22, 23, 24]] (by kernel_rfl) ?_   -- R6
      simp -dsimp (disch := first | omega | (simp <;> omega) | fail) [wrap_i64, wrap_u64, wrap_u8']
      refine stepK.mk (.call1 _ _ _ rfl Ty.hb22 rfl rfl (Same5_spec a[k].off b[k].off (hA _ (List.getElem_mem hk')))) ?_
      simp -dsimp (disch := first | omega | (simp <;> omega) | fail) [wrap_i64, wrap_u64, wrap_u8', d2]
      refine HT.cond' ?_   -- if 41
      simp (disch := first | omega | (simp <;> omega) | fail) [wrap_i64, wrap_u64, wrap_u8']
      refine HT.seq ?_
      refine HT.region ?_   -- R7
      simp (disch := first | omega | (simp <;> omega) | fail) [wrap_i64, wrap_u64, wrap_u8']
      refine HT.ret ?_
      have hx : ¬ a = b := ne_at hk' hkb (fun h => by first | exact d1 (by rw [h]) | exact d2 (by rw [h]))
      simp (disch := first | omega | (simp <;> omega) | fail) [wrap_i64, wrap_u64, wrap_u8', hx]
    rw [Classical.not_not] at d2
    refine HT.draw [.batch [0, 1, 2, 3, 4, 5, 6, 7, 8, 9, 10, 11, 12, 13, 14, 15, 16, 17, 18, 19, 20, 21, 22, 23, 24]] (by kernel_rfl) ?_   -- R6
    simp -dsimp (disch := first | omega | (simp <;> omega) | fail) [wrap_i64, wrap_u64, wrap_u8']
    refine stepK.mk (.call1 _ _ _ rfl Ty.hb22 rfl rfl (Same5_spec a[k].off b[k].off (hA _ (List.getElem_mem hk')))) ?_
    simp -dsimp (disch := first | omega | (simp <;> omega) | fail) [wrap_i64, wrap_u64, wrap_u8', d2]
    refine HT.cond' ?_   -- if 41
    simp (disch := first | omega | (simp <;> omega) | fail) [wrap_i64, wrap_u64, wrap_u8']
    refine HT.skip ?_
    simp (disch := first | omega | (simp <;> omega) | fail) [wrap_i64, wrap_u64, wrap_u8']
    refine HT.region ?_   -- R5
    simp (disch := first | omega | (simp <;> omega) | fail) [wrap_i64, wrap_u64, wrap_u8']
    refine Round.mk' (⟨k + 1, by omega, agreeX hg (by rw [List.getElem?_eq_getElem hk', List.getElem?_eq_getElem hkb, gram_eqX d1 d2])⟩) (by dsimp only; omega) rfl ?_
    simp (disch := first | omega | (simp <;> omega) | fail) [wrap_i64, wrap_u64, wrap_u8']
  · skip
    obtain rfl : k = a.length := by omega
    refine HT.exit ?_
    simp (disch := first | omega | (simp <;> omega) | fail) [wrap_i64, wrap_u64, wrap_u8']
    refine HT.seq ?_
    refine HT.region ?_   -- R8
    simp (disch := first | omega | (simp <;> omega) | fail) [wrap_i64, wrap_u64, wrap_u8']
    refine HT.ret ?_
    have hx : a = b := extX (by omega) hg
    simp (disch := first | omega | (simp <;> omega) | fail) [wrap_i64, wrap_u64, wrap_u8', hx]
theorem seg_eq (a b : Seg) : (a = b) = (a.docs = b.docs ∧ a.grams = b.grams) := by cases a; cases b; simp
def SegQ (s : Seg) : Prop := s.docs.length ≤ 1000000 ∧ (∀ d ∈ s.docs, DocQ d) ∧ s.grams.length ≤ 1000000 ∧ ∀ p ∈ s.grams, p.docs.length ≤ 1000000 ∧ ∀ g ∈ p.docs, g.off.length ≤ 1000000
end Go.Hv
set_option linter.unusedVariables false
set_option linter.unusedSimpArgs false
namespace Go.Hv
open Go Go.Hv Go.Proofs Go.RowKit
open Go.Proofs.YtlbmbnpknobjdaaGreatDoor
end Go.Hv
set_option linter.unusedVariables false
set_option linter.unusedSimpArgs false
namespace Go.Hv
open Go Go.Hv Go.Proofs Go.RowKit
open Go.Proofs.YtlbmbnpknobjdaaGreatDoor
def NotId (l : List Doc) (n : Int) (j : Nat) : Prop := ∀ (a : Nat) (x : Doc), a < j → l[a]? = some x → ¬ x.id = n
theorem NotId.succ {l : List Doc} {n : Int} {j : Nat} (h : NotId l n j) (hj : j < l.length) (hne : ¬ l[j].id = n) : NotId l n (j + 1) := fun a x ha hx => by
  by_cases e : a = j
  · subst e; rw [List.getElem?_eq_getElem hj] at hx; cases hx; exact hne
  · exact h a x (by omega) hx
end Go.Hv
set_option linter.unusedVariables false
set_option linter.unusedSimpArgs false
namespace Go.Hv
open Go Go.Hv Go.Proofs Go.RowKit
open Go.Proofs.YtlbmbnpknobjdaaGreatDoor
set_option maxHeartbeats 2000000 in
theorem EqS_spec (a b : List (List UInt8)) (ha : a.length ≤ 140737488355328) : Spec1 Tryz.prog 81 [.sl 1 false (strsHV a), .sl 1 false (strsHV b)] (bo (decide (a = b))) := by
  refine Spec1.of_HT Tryz.func81 rfl (by rw [Tryz.ntmps81]; simp) rfl ?_
  rw [Tryz.ntmps81]
  refine HT.seq ?_
  refine HT.region ?_   -- R0
  simp (disch := first | omega | (simp <;> omega) | fail) [wrap_i64, wrap_u64, wrap_u8']
  refine HT.seq ?_
  refine HT.seq ?_
  by_cases c1 : ¬ a.length = b.length
  · skip
    refine HT.region ?_   -- R1
    simp (disch := first | omega | (simp <;> omega) | fail) [wrap_i64, wrap_u64, wrap_u8']
    refine HT.cond' ?_   -- if 10
    simp (disch := first | omega | (simp <;> omega) | fail) [wrap_i64, wrap_u64, wrap_u8']
    refine HT.seq ?_
    refine HT.region ?_   -- R2
    simp (disch := first | omega | (simp <;> omega) | fail) [wrap_i64, wrap_u64, wrap_u8']
    refine HT.ret ?_
    simp (disch := first | omega | (simp <;> omega) | fail) [wrap_i64, wrap_u64, wrap_u8', ne_len c1]
  refine HT.region ?_   -- R1
  simp (disch := first | omega | (simp <;> omega) | fail) [wrap_i64, wrap_u64, wrap_u8']
  refine HT.cond' ?_   -- if 10
  simp (disch := first | omega | (simp <;> omega) | fail) [wrap_i64, wrap_u64, wrap_u8']
  refine HT.skip ?_
  simp (disch := first | omega | (simp <;> omega) | fail) [wrap_i64, wrap_u64, wrap_u8']
  refine HT.seq ?_
  refine HT.seq ?_
  refine HT.region ?_   -- R3
  simp (disch := first | omega | (simp <;> omega) | fail) [wrap_i64, wrap_u64, wrap_u8']
  refine HT.block ?_
  refine HT.loopK (fun k : {k : Nat // k ≤ a.length ∧ ∀ i, i < k → a[i]? = b[i]?} => [.s 13 (i64 k)]) [0, 1, 12] [] (fun k => a.length - k) (⟨0, by omega, by intro i hi; omega⟩) ?_ ?_   -- block 0 turned [13]
  · simp (disch := first | omega | (simp <;> omega) | fail) [wrap_i64, wrap_u64, wrap_u8']
  rintro ⟨k, hk, hg⟩
  simp (disch := first | omega | (simp <;> omega) | fail) [wrap_i64, wrap_u64, wrap_u8']
  refine HT.seq ?_
  refine HT.region ?_   -- R4
  simp (disch := first | omega | (simp <;> omega) | fail) [wrap_i64, wrap_u64, wrap_u8']
  refine HT.seq ?_
  refine HT.cond' ?_   -- if 14
  simp (disch := first | omega | (simp <;> omega) | fail) [wrap_i64, wrap_u64, wrap_u8']
  refine ⟨fun h14 => ?_, fun h14 => ?_⟩
  · skip
    have hk' : k < a.length := by omega
    have hkb : k < b.length := by omega
    refine HT.skip ?_
    simp (disch := first | omega | (simp <;> omega) | fail) [wrap_i64, wrap_u64, wrap_u8']
    refine HT.seq ?_
    refine HT.block ?_
    refine HT.seq ?_
    refine HT.region ?_   -- R5
    simp (disch := first | omega | (simp <;> omega) | fail) [wrap_i64, wrap_u64, wrap_u8']
    refine HT.seq ?_
    by_cases d1 : ¬ a[k] = b[k]
    · skip
      refine HT.draw [.batch [0, 1, 2, 3, 4, 5, 6, 7, 8]] (by kernel_rfl) ?_   -- R6
      simp (disch := first | omega | (simp <;> omega) | fail) [wrap_i64, wrap_u64, wrap_u8', d1]
      refine HT.cond' ?_   -- if 24
      simp (disch := first | omega | (simp <;> omega) | fail) [wrap_i64, wrap_u64, wrap_u8']
      refine HT.seq ?_
      refine HT.region ?_   -- R7
      simp (disch := first | omega | (simp <;> omega) | fail) [wrap_i64, wrap_u64, wrap_u8']
      refine HT.ret ?_
      simp (disch := first | omega | (simp <;> omega) | fail) [wrap_i64, wrap_u64, wrap_u8', ne_at hk' hkb d1]
    rw [Classical.not_not] at d1
    refine HT.draw [.batch [0, 1, 2, 3, 4, 5, 6, 7, 8]] (by kernel_rfl) ?_   -- R6
    simp (disch := first | omega | (simp <;> omega) | fail) [wrap_i64, wrap_u64, wrap_u8', d1]
    refine HT.cond' ?_   -- if 24
    simp (disch := first | omega | (simp <;> omega) | fail) [wrap_i64, wrap_u64, wrap_u8']
    refine HT.skip ?_
    simp (disch := first | omega | (simp <;> omega) | fail) [wrap_i64, wrap_u64, wrap_u8']
    refine HT.region ?_   -- R8
    simp (disch := first | omega | (simp <;> omega) | fail) [wrap_i64, wrap_u64, wrap_u8']
    refine Round.mk' (⟨k + 1, by omega, agreeX hg (by rw [List.getElem?_eq_getElem hk', List.getElem?_eq_getElem hkb, d1])⟩) (by dsimp only; omega) rfl ?_
    simp (disch := first | omega | (simp <;> omega) | fail) [wrap_i64, wrap_u64, wrap_u8']
  · skip
    obtain rfl : k = a.length := by omega
    refine HT.exit ?_
    simp (disch := first | omega | (simp <;> omega) | fail) [wrap_i64, wrap_u64, wrap_u8']
    refine HT.seq ?_
    refine HT.region ?_   -- R9
    simp (disch := first | omega | (simp <;> omega) | fail) [wrap_i64, wrap_u64, wrap_u8']
    refine HT.ret ?_
    have hx : a = b := extX (by omega) hg
    simp (disch := first | omega | (simp <;> omega) | fail) [wrap_i64, wrap_u64, wrap_u8', hx]
set_option maxHeartbeats 2000000 in
theorem EqI_spec (a b : List Int) (ha : a.length ≤ 140737488355328) : Spec1 Tryz.prog 84 [.sl 1 false (intsHV a), .sl 1 false (intsHV b)] (bo (decide (a = b))) := by
  refine Spec1.of_HT Tryz.func84 rfl (by rw [Tryz.ntmps84]; simp) rfl ?_
  rw [Tryz.ntmps84]
  refine HT.seq ?_
  refine HT.region ?_   -- R0
  simp (disch := first | omega | (simp <;> omega) | fail) [wrap_i64, wrap_u64, wrap_u8']
  refine HT.seq ?_
  refine HT.seq ?_
  by_cases c1 : ¬ a.length = b.length
  · skip
    refine HT.region ?_   -- R1
    simp (disch := first | omega | (simp <;> omega) | fail) [wrap_i64, wrap_u64, wrap_u8']
    refine HT.cond' ?_   -- if 10
    simp (disch := first | omega | (simp <;> omega) | fail) [wrap_i64, wrap_u64, wrap_u8']
    refine HT.seq ?_
    refine HT.region ?_   -- R2
    simp (disch := first | omega | (simp <;> omega) | fail) [wrap_i64, wrap_u64, wrap_u8']
    refine HT.ret ?_
    simp (disch := first | omega | (simp <;> omega) | fail) [wrap_i64, wrap_u64, wrap_u8', ne_len c1]
  refine HT.region ?_   -- R1
  simp (disch := first | omega | (simp <;> omega) | fail) [wrap_i64, wrap_u64, wrap_u8']
  refine HT.cond' ?_   -- if 10
  simp (disch := first | omega | (simp <;> omega) | fail) [wrap_i64, wrap_u64, wrap_u8']
  refine HT.skip ?_
  simp (disch := first | omega | (simp <;> omega) | fail) [wrap_i64, wrap_u64, wrap_u8']
  refine HT.seq ?_
  refine HT.seq ?_
  refine HT.region ?_   -- R3
  simp (disch := first | omega | (simp <;> omega) | fail) [wrap_i64, wrap_u64, wrap_u8']
  refine HT.block ?_
  refine HT.loopK (fun k : {k : Nat // k ≤ a.length ∧ ∀ i, i < k → a[i]? = b[i]?} => [.s 13 (i64 k)]) [0, 1, 12] [] (fun k => a.length - k) (⟨0, by omega, by intro i hi; omega⟩) ?_ ?_   -- block 0 turned [13]
  · simp (disch := first | omega | (simp <;> omega) | fail) [wrap_i64, wrap_u64, wrap_u8']
  rintro ⟨k, hk, hg⟩
  simp (disch := first | omega | (simp <;> omega) | fail) [wrap_i64, wrap_u64, wrap_u8']
  refine HT.seq ?_
  refine HT.region ?_   -- R4
  simp (disch := first | omega | (simp <;> omega) | fail) [wrap_i64, wrap_u64, wrap_u8']
  refine HT.seq ?_
  refine HT.cond' ?_   -- if 14
  simp (disch := first | omega | (simp <;> omega) | fail) [wrap_i64, wrap_u64, wrap_u8']
  refine ⟨fun h14 => ?_, fun h14 => ?_⟩
  · skip
    have hk' : k < a.length := by omega
    have hkb : k < b.length := by omega
    refine HT.skip ?_
    simp (disch := first | omega | (simp <;> omega) | fail) [wrap_i64, wrap_u64, wrap_u8']
    refine HT.seq ?_
    refine HT.block ?_
    refine HT.seq ?_
    refine HT.region ?_   -- R5
    simp (disch := first | omega | (simp <;> omega) | fail) [wrap_i64, wrap_u64, wrap_u8']
    refine HT.seq ?_
    by_cases d1 : ¬ a[k] = b[k]
    · skip
      refine HT.draw [.batch [0, 1, 2, 3, 4, 5, 6, 7, 8]] (by kernel_rfl) ?_   -- R6
      simp (disch := first | omega | (simp <;> omega) | fail) [wrap_i64, wrap_u64, wrap_u8', d1]
      refine HT.cond' ?_   -- if 24
      simp (disch := first | omega | (simp <;> omega) | fail) [wrap_i64, wrap_u64, wrap_u8']
      refine HT.seq ?_
      refine HT.region ?_   -- R7
      simp (disch := first | omega | (simp <;> omega) | fail) [wrap_i64, wrap_u64, wrap_u8']
      refine HT.ret ?_
      simp (disch := first | omega | (simp <;> omega) | fail) [wrap_i64, wrap_u64, wrap_u8', ne_at hk' hkb d1]
    rw [Classical.not_not] at d1
    refine HT.draw [.batch [0, 1, 2, 3, 4, 5, 6, 7, 8]] (by kernel_rfl) ?_   -- R6
    simp (disch := first | omega | (simp <;> omega) | fail) [wrap_i64, wrap_u64, wrap_u8', d1]
    refine HT.cond' ?_   -- if 24
    simp (disch := first | omega | (simp <;> omega) | fail) [wrap_i64, wrap_u64, wrap_u8']
    refine HT.skip ?_
    simp (disch := first | omega | (simp <;> omega) | fail) [wrap_i64, wrap_u64, wrap_u8']
    refine HT.region ?_   -- R8
    simp (disch := first | omega | (simp <;> omega) | fail) [wrap_i64, wrap_u64, wrap_u8']
    refine Round.mk' (⟨k + 1, by omega, agreeX hg (by rw [List.getElem?_eq_getElem hk', List.getElem?_eq_getElem hkb, d1])⟩) (by dsimp only; omega) rfl ?_
    simp (disch := first | omega | (simp <;> omega) | fail) [wrap_i64, wrap_u64, wrap_u8']
  · skip
    obtain rfl : k = a.length := by omega
    refine HT.exit ?_
    simp (disch := first | omega | (simp <;> omega) | fail) [wrap_i64, wrap_u64, wrap_u8']
    refine HT.seq ?_
    refine HT.region ?_   -- R9
    simp (disch := first | omega | (simp <;> omega) | fail) [wrap_i64, wrap_u64, wrap_u8']
    refine HT.ret ?_
    have hx : a = b := extX (by omega) hg
    simp (disch := first | omega | (simp <;> omega) | fail) [wrap_i64, wrap_u64, wrap_u8', hx]
def ApartTo (a b : List Doc) (i : Nat) : Prop := ∀ (k : Nat) (x : Doc), k < i → a[k]? = some x → ∀ y ∈ b, ¬ x.id = y.id
def FarTo (b : List Doc) (n : Int) (j : Nat) : Prop := ∀ (k : Nat) (y : Doc), k < j → b[k]? = some y → ¬ n = y.id
theorem FarTo.succ {b : List Doc} {n : Int} {j : Nat} (h : FarTo b n j) (hj : j < b.length) (hne : ¬ n = b[j].id) : FarTo b n (j + 1) := fun k y hk hy => by
  by_cases e : k = j
  · subst e; rw [List.getElem?_eq_getElem hj] at hy; cases hy; exact hne
  · exact h k y (by omega) hy
theorem ApartTo.succ {a b : List Doc} {i : Nat} (h : ApartTo a b i) (hi : i < a.length) (hf : FarTo b a[i].id b.length) : ApartTo a b (i + 1) := fun k x hk hx y hy => by
  by_cases e : k = i
  · subst e
    rw [List.getElem?_eq_getElem hi] at hx; cases hx
    obtain ⟨j, hj⟩ := List.mem_iff_getElem?.1 hy
    exact hf j y (getElem?_lt hj) hj
  · exact h k x (by omega) hx y hy
end Go.Hv
