import Derived.Test.YtcmomegkhoggpaaGreatDoorWC5
import Derived.HandedShaped
import Derived.Shelf.Vars
import Derived.ProofKit
import Derived.OpenShut
import Derived.LaidMore
import Derived.Lay
import Derived.SevenTiedAt
import Derived.Stop.Joined
set_option linter.unusedVariables false
set_option linter.unusedSimpArgs false
/- The documents of a repository: the program (layer 28). -/
namespace Go.Hv
open Go Go.Hv Go.Proofs Go.RowKit
open Go.Proofs.YtcmomegkhoggpaaGreatDoor
/-! ### Maps by keys -/
theorem findHV_kk {c : KeyT} (hc : KB c) : ∀ (es : List (HV × HV)) (ks : List KeyT) (i : Nat), (∀ k ∈ ks, KB k) → es.map (·.1) = ks.map kk →
  findHV Tryz.prog 63 (kk c) es i = some (if c ∈ ks then some (i + ks.idxOf c, (es.getD (ks.idxOf c) (.any, .any)).2) else none)
 | [], [], i, _, _ => by simp [findHV]
 | [], _ :: _, _, _, h => by simp at h
 | _ :: _, [], _, _, h => by simp at h
 | p :: es, k :: ks, i, hb, h => by
  simp only [List.map_cons, List.cons.injEq] at h
  obtain ⟨h1, h2⟩ := h
  simp only [findHV, h1, keyEq85 hc (hb k (by simp))]
  by_cases e : c = k
  ·subst e; simp
  ·simp only [e, decide_false]
   rw [findHV_kk hc es ks (i + 1) (fun x hx => hb x (by simp [hx])) h2]
   have e' : ¬ k = c := fun h => e h.symm
   simp only [List.mem_cons, e, false_or]
   split
   ·have e2 : (k == c) = false := by simpa using e'
    rw [List.idxOf_cons, e2]
    simp only [cond_false, List.getD_cons_succ]
    rw [show i + 1 + ks.idxOf c = i + (ks.idxOf c + 1) by omega]
   ·rfl
theorem find_kk {c : KeyT} (hc : KB c) {ks : List KeyT} (hb : ∀ k ∈ ks, KB k) (B : Nat) :
  findHV Tryz.prog 63 (kk c) (kents kk B ks) 0 = some (if c ∈ ks then some (ks.idxOf c, .ref (B + ks.idxOf c)) else none) := by
 rw [findHV_kk hc _ ks 0 hb (kents_keys kk B ks)]
 split
 ·next h =>
  have hlt := List.idxOf_lt_length_iff.2 h
  simp only [Nat.zero_add]
  rw [List.getD_eq_getElem?_getD, kents_get, List.getElem?_eq_getElem hlt]
  rfl
 ·rfl
theorem find_fk {c : KeyT} (hc : KB c) {ks : List KeyT} (hb : ∀ k ∈ ks, KB k) (g : KeyT → HV) :
  findHV Tryz.prog 63 (kk c) (fents kk g ks) 0 = some (if c ∈ ks then some (ks.idxOf c, g c) else none) := by
 rw [findHV_kk hc _ ks 0 hb (by simp [fents])]
 split
 ·next h =>
  have hlt := List.idxOf_lt_length_iff.2 h
  simp only [Nat.zero_add]
  rw [List.getD_eq_getElem?_getD, fents_get, List.getElem?_eq_getElem hlt]
  simp
 ·rfl
theorem kk_back {ks : List KeyT} {c : KeyT} (h : c ∈ ks) : (kents kk 1000 ks).set (ks.idxOf c) (kk c, .ref (1000 + ks.idxOf c)) = kents kk 1000 ks := by
 have hlt := List.idxOf_lt_length_iff.2 h
 apply List.ext_getElem?
 intro i
 rw [List.getElem?_set]
 split
 ·next e => subst e; rw [if_pos (by simpa using hlt), kents_get, List.getElem?_eq_getElem hlt, List.getElem_idxOf hlt]; rfl
 ·rfl
theorem kk_get {ks : List KeyT} {c : KeyT} (h : c ∈ ks) : (kents kk 1000 ks)[ks.idxOf c]? = some (kk c, .ref (1000 + ks.idxOf c)) := by
 have hlt := List.idxOf_lt_length_iff.2 h
 rw [kents_get, List.getElem?_eq_getElem hlt, List.getElem_idxOf hlt]; rfl
theorem kk_sub {ks : List KeyT} {c : KeyT} (h : c ∈ ks) : subM (1000 + ks.idxOf c) .any .any (kents kk 1000 ks) = (kents kk 1000 ks).set (ks.idxOf c) (kk c, .any) := by
 have hlt := List.idxOf_lt_length_iff.2 h
 rw [subM_kents hlt, List.getElem_idxOf hlt]
theorem kk_sget {ks : List KeyT} {c : KeyT} (h : c ∈ ks) (x : HV) : ((kents kk 1000 ks).set (ks.idxOf c) (kk c, x))[ks.idxOf c]? = some (kk c, x) := by
 have hlt := List.idxOf_lt_length_iff.2 h
 rw [List.getElem?_set_self (by simpa using hlt)]
theorem mapEnt_hit {L : List Ev} {t kt et : TypeId} {id : Nat} {k x z : HV} {es : List (HV × HV)} {bs : List Nat} {ck i n : Nat} (h1 : mpInfo Tryz.prog t = some (kt, et)) (hz : zOneHV Tryz.prog et = some z) (hk : keyOK Tryz.prog kt k = true) (hI : isI k = true)
  (hs : scalK k = true) (hf : findHV Tryz.prog kt k es 0 = some (some (i, x))) (he : es[i]? = some (k, x)) (hb : bs[i]? = some n) (ho : getO L id = .mapb es bs ck) :
  mapEntHV Tryz.prog L t (.mref id) k = some (.o id (.mapb (es.set i (k, x)) bs ck) :: L, .tup [x, .lit (.int .i64 n)]) := by
 unfold mapEntHV
 rw [h1]; simp only; rw [ho, hz]; simp only
 rw [if_pos ⟨hk, hI⟩, hf]; simp only
 rw [if_pos ⟨hs, by rw [he]; rfl⟩, hb]
theorem mapEnt_miss {L : List Ev} {t kt et : TypeId} {id : Nat} {k z : HV} {es : List (HV × HV)} {bs : List Nat} {ck : Nat} (h1 : mpInfo Tryz.prog t = some (kt, et)) (hz : zOneHV Tryz.prog et = some z) (hk : keyOK Tryz.prog kt k = true) (hI : isI k = true)
  (hf : findHV Tryz.prog kt k es 0 = some none) (ho : getO L id = .mapb es bs ck) :
  mapEntHV Tryz.prog L t (.mref id) k = some (.o id (.mapb (es ++ [(k, z)]) (bs ++ [ck]) (ck + 1)) :: L, .tup [z, .lit (.int .i64 ck)]) := by
 unfold mapEntHV
 rw [h1]; simp only; rw [ho, hz]; simp only
 rw [if_pos ⟨hk, hI⟩, hf]
theorem mp87 : mpInfo Tryz.prog 87 = some (63, 48) := by simp
theorem z48 : zOneHV Tryz.prog 48 = some (.sl 0 true []) := by simp
theorem fam_at {B m i : Nat} {g : Nat → HObj} (h : i < m) : fam B m g (B + i) = some (g i) := by
 unfold fam; rw [if_pos (by omega), Nat.add_sub_cancel_left]
theorem fam_not {B m i : Nat} {g : Nat → HObj} (h : i < B ∨ B + m ≤ i) : fam B m g i = none := by
 unfold fam; rw [if_neg (by omega)]
theorem fam_some {B m id : Nat} {g : Nat → HObj} {o : HObj} (h : fam B m g id = some o) : ∃ i, i < m ∧ id = B + i ∧ o = g i := by
 unfold fam at h
 split at h
 ·next hc => exact ⟨id - B, by omega, by omega, (Option.some.inj h).symm⟩
 ·cases h
/-! ### The branches of the keys -/
def rowOn (p : List (KeyT × List UInt8)) (i : Nat) : HObj := .row 9 1 (strsHV (onE p ((keysE p).getD i ([], [], []))))
theorem keysE_get {p : List (KeyT × List UInt8)} {c : KeyT} {b : List UInt8} {i : Nat} (hi : i < (keysE p).length) : (keysE (p ++ [(c, b)]))[i]? = (keysE p)[i]? := by
 rw [keysE_snoc]; unfold addK
 split
 ·rfl
 ·rw [List.getElem?_append_left hi]
theorem rowOn_same {p : List (KeyT × List UInt8)} {c : KeyT} {b : List UInt8} {i : Nat} (hi : i < (keysE p).length) (hne : (keysE p)[i]? ≠ some c) : rowOn (p ++ [(c, b)]) i = rowOn p i := by
 unfold rowOn
 rw [List.getD_eq_getElem?_getD, List.getD_eq_getElem?_getD, keysE_get hi, List.getElem?_eq_getElem hi, onE_snoc, if_neg, List.append_nil]
 rw [List.getElem?_eq_getElem hi] at hne
 intro h
 exact hne (by rw [h]; rfl)
theorem rowOn_hit {p : List (KeyT × List UInt8)} {c : KeyT} {b : List UInt8} {i : Nat} (he : (keysE (p ++ [(c, b)]))[i]? = some c) : rowOn (p ++ [(c, b)]) i = .row 9 1 (strsHV (onE p c ++ [b])) := by
 unfold rowOn
 rw [List.getD_eq_getElem?_getD, he]
 simp only [Option.getD_some]
 rw [onE_snoc, if_pos rfl]
theorem eqK_lo {m i : Nat} (h : m < 1000) : (m = 1000 + i) = False := eq_false (by omega)
theorem eqK_lo' {m i : Nat} (h : m < 1000) : (1000 + i = m) = False := eq_false (by omega)
theorem subM_kentsK {i : Nat} {x y : HV} {ks : List KeyT} (h : i < 1000) : subM i x y (kents kk 1000 ks) = kents kk 1000 ks := subM_kents_out (.inl h)
theorem famK_lo {i m : Nat} {g : Nat → HObj} (h : i < 1000) : fam 1000 m g i = none := fam_not (.inl h)
theorem evRep_len {r : Repo} (h : OkR r) : (evRep r).length ≤ 32 * 9 := by
 rcases Nat.eq_zero_or_pos r.brs.length with h0 | h0
 ·have : r.brs = [] := List.eq_nil_of_length_eq_zero h0
  simp [evRep, this]
 ·have hk : r.brs.length - 1 < r.brs.length := by omega
  have := evP_len h (k := r.brs.length - 1) (j := (filesV r r.brs[r.brs.length - 1].name).1.length) hk
  rw [evP_end hk, show r.brs.length - 1 + 1 = r.brs.length by omega, List.take_length] at this
  exact this
theorem evP_kb {r : Repo} (h : OkR r) {k j : Nat} (hk : k < r.brs.length) : ∀ c ∈ keysE (evP r k j r.brs[k]), KB c := fun c hc => by
 obtain ⟨e, he, rfl⟩ := (keysE_mem _ _).1 hc
 rcases List.mem_append.1 he with he | he
 ·obtain ⟨b, hb, he⟩ := List.mem_flatMap.1 he
  exact kb_ev h (List.mem_of_mem_take hb) he
 ·exact kb_ev h (List.getElem_mem hk) (List.mem_of_mem_take he)
theorem evRep_kb {r : Repo} (h : OkR r) : ∀ c ∈ keysE (evRep r), KB c := fun c hc => by
 obtain ⟨e, he, rfl⟩ := (keysE_mem _ _).1 hc
 obtain ⟨b, hb, he⟩ := List.mem_flatMap.1 he
 exact kb_ev h hb he
theorem srt_on {r : Repo} (h : OkR r) (k : KeyT) : srtS (onE (evRep r) k) = onE (evRep r) k := by
 refine srtS_of (List.Perm.refl _) ?_
 rw [onE_evR h, List.pairwise_map]
 exact h.inc.filter _
/-! ### Partly frozen -/
def vX (ks : List KeyT) (g : KeyT → List (List UInt8)) (dn : List KeyT) (k : KeyT) : HV := if k ∈ dn then .sl 1 false (strsHV (g k)) else .ref (1000 + ks.idxOf k)
def famX (ks : List KeyT) (g : KeyT → List (List UInt8)) (dn : List KeyT) : Nat → Option HObj := fun id => if 1000 ≤ id then match ks[id - 1000]? with | some k => if k ∈ dn then none else some (.row 9 1 (strsHV (g k))) | none => none else none
theorem famX_at {ks : List KeyT} {g : KeyT → List (List UInt8)} {dn : List KeyT} {k : KeyT} (hk : k ∈ ks) (hd : k ∉ dn) : famX ks g dn (1000 + ks.idxOf k) = some (.row 9 1 (strsHV (g k))) := by
 unfold famX
 have hlt := List.idxOf_lt_length_iff.2 hk
 rw [if_pos (by omega), show 1000 + ks.idxOf k - 1000 = ks.idxOf k by omega, List.getElem?_eq_getElem hlt, List.getElem_idxOf hlt]
 simp [hd]
theorem famX_get {ks : List KeyT} {g : KeyT → List (List UInt8)} {dn : List KeyT} {i : Nat} {k : KeyT} (hk : ks[i]? = some k) (hd : k ∉ dn) : famX ks g dn (1000 + i) = some (.row 9 1 (strsHV (g k))) := by
 unfold famX
 rw [if_pos (by omega), show 1000 + i - 1000 = i by omega, hk]
 simp [hd]
theorem famX_lo {ks : List KeyT} {g : KeyT → List (List UInt8)} {dn : List KeyT} {i : Nat} (h : i < 1000) : famX ks g dn i = none := by
 unfold famX; rw [if_neg (by omega)]
theorem famX_some {ks : List KeyT} {g : KeyT → List (List UInt8)} {dn : List KeyT} {id : Nat} {o : HObj} (h : famX ks g dn id = some o) : ∃ i k, ks[i]? = some k ∧ id = 1000 + i ∧ k ∉ dn ∧ o = .row 9 1 (strsHV (g k)) := by
 unfold famX at h
 split at h
 ·next h1 =>
  split at h
  ·next k hk =>
   split at h
   ·cases h
   ·next hd => exact ⟨id - 1000, k, hk, by omega, hd, (Option.some.inj h).symm⟩
  ·cases h
 ·cases h
theorem kents_fX {ks : List KeyT} (hn : ks.Nodup) (g : KeyT → List (List UInt8)) : kents kk 1000 ks = fents kk (vX ks g []) ks := by
 apply List.ext_getElem?
 intro i
 rw [kents_get, fents_get]
 cases hk : ks[i]? with
 | none => rfl
 | some k =>
  have hi := getElem?_lt hk
  rw [List.getElem?_eq_getElem hi] at hk
  have hk := Option.some.inj hk
  subst hk
  simp [vX, hn.idxOf_getElem i hi]
theorem subM_fX {ks : List KeyT} {g : KeyT → List (List UInt8)} {dn : List KeyT} {c : KeyT} (hc : c ∈ ks) :
  subM (1000 + ks.idxOf c) (.sl 1 false (strsHV (g c))) .any (fents kk (vX ks g dn) ks) = fents kk (vX ks g (dn ++ [c])) ks := by
 unfold subM fents
 rw [List.map_map]
 refine List.map_congr_left fun k hk => ?_
 simp only [Function.comp_apply, Prod.mk.injEq, true_and]
 unfold vX
 by_cases h1 : k ∈ dn
 ·simp [h1, HV.sub]
 ·by_cases h2 : k = c
  ·subst h2; simp [h1, HV.sub]
  ·have : ks.idxOf k ≠ ks.idxOf c := fun e => h2 (by
    have e1 := List.getElem_idxOf (List.idxOf_lt_length_iff.2 hk)
    have e2 := List.getElem_idxOf (List.idxOf_lt_length_iff.2 hc)
    rw [← e1, ← e2]; simp only [e])
   simp [h1, h2, HV.sub, this]
theorem subM_fX_out {ks : List KeyT} {g : KeyT → List (List UInt8)} {dn : List KeyT} {i : Nat} {x y : HV} (h : i < 1000) : subM i x y (fents kk (vX ks g dn) ks) = fents kk (vX ks g dn) ks := by
 unfold subM fents
 rw [List.map_map]
 refine List.map_congr_left fun k hk => ?_
 simp only [Function.comp_apply, Prod.mk.injEq, true_and]
 unfold vX
 by_cases h1 : k ∈ dn
 ·simp [h1, HV.sub]
 ·have : ¬ 1000 + ks.idxOf k = i := by omega
  simp [h1, HV.sub, this]
theorem KSort1_spec {bB : Nat} {V : Value} {ob : Option Nat} {n : List UInt8} (l : List KeyT) (hn : ∀ k ∈ l, k.1 = n) (hN : l.length ≤ 1000000) (hob : ob ≠ some bB) :
  @SpecX (GI.box inferInstance bB V) Tryz.prog 49 #[] [.lit (.iface 56 V), .lit (.func (.func 50) #[] #[.pointer (some ⟨bB, 0, none⟩)])] V ob 63 3 (keysHV l) (.lit (.tuple #[])) (keysHV (sortedK l)) := by
 intro D w us hD hG hW hus hrep
 have hV : V.oneCell' = true := by rcases hW.shape with ⟨_, A, rfl⟩ | ⟨b, cap, rfl, rfl⟩ <;> rfl
 exact (KSort_spec (n := n) l hn (by omega) hob hV) D w us hD hG hW hus hrep
set_option maxRecDepth 20000 in
set_option maxHeartbeats 8000000 in
theorem Of_spec (r : Repo) (h : OkR r) (hr : RepoF 140737488355328 r) : Spec1 Tryz.prog 16 [.agg r.enc] (.sl 5 false (docsHV (ofR r))) := by
  have hbr := h.len
  have hbl := h.blen
  have hhb : HistB r.commits := ⟨h.commits, hr.commit⟩
  have hEl := evRep_len h
  have hKl := keysE_length (evRep r)
  refine Spec1.of_HT Tryz.func16 rfl (by rw [Tryz.ntmps16]; simp) rfl ?_
  rw [Tryz.ntmps16]
  refine HT.seq ?_
  refine HT.region ?_
  simp (disch := first|omega|(simp<;>omega)|fail) [wr3, eqK_lo, eqK_lo', subM_kentsK, subM_fX_out, famK_lo, famX_lo]
  refine HT.seq ?_
  refine HT.region ?_
  simp (disch := first|omega|(simp<;>omega)|fail) [wr3, eqK_lo, eqK_lo', subM_kentsK, subM_fX_out, famK_lo, famX_lo]
  refine HT.seq ?_
  refine HT.region ?_
  simp (disch := first|omega|(simp<;>omega)|fail) [wr3, eqK_lo, eqK_lo', subM_kentsK, subM_fX_out, famK_lo, famX_lo]
  refine HT.weaken (HS.le_boxown 4 0 900 63 3 0 rfl rfl (by decide) (by decide)) ?_
  refine HT.seq ?_
  refine HT.seq ?_
  refine HT.region ?_
  simp (disch := first|omega|(simp<;>omega)|fail) [wr3, eqK_lo, eqK_lo', subM_kentsK, subM_fX_out, famK_lo, famX_lo]
  refine HT.block ?_
  refine HT.loopK (fun k : {k : Nat // k ≤ r.brs.length} => [.s 21 (i64 k), .o 4 (.box [.ref 900]), .o 900 (.row 63 3 (keysHV (keysE ((r.brs.take k).flatMap (evBr r))))), .o 17 (.map (kents kk 1000 (keysE ((r.brs.take k).flatMap (evBr r))))), .os (fam 1000 (keysE ((r.brs.take k).flatMap (evBr r))).length (rowOn ((r.brs.take k).flatMap (evBr r))))]) [1, 3, 4, 19, 20] [1] (fun k => r.brs.length - k) (⟨0, by omega⟩) ?_ ?_
  · skip
    simp (disch := first|omega|(simp<;>omega)|fail) [wr3, eqK_lo, eqK_lo', subM_kentsK, subM_fX_out, famK_lo, famX_lo, show keysE [] = [] from rfl]
    refine ⟨rfl, fun id o h => ?_⟩
    obtain ⟨i, hi, _⟩ := fam_some h
    exact absurd hi (Nat.not_lt_zero _)
  rintro ⟨k, hk⟩
  simp (disch := first|omega|(simp<;>omega)|fail) [wr3, eqK_lo, eqK_lo', subM_kentsK, subM_fX_out, famK_lo, famX_lo]
  refine HT.seq ?_
  refine HT.region ?_
  simp (disch := first|omega|(simp<;>omega)|fail) [wr3, eqK_lo, eqK_lo', subM_kentsK, subM_fX_out, famK_lo, famX_lo]
  refine HT.seq ?_
  refine HT.cond' ?_
  simp (disch := first|omega|(simp<;>omega)|fail) [wr3, eqK_lo, eqK_lo', subM_kentsK, subM_fX_out, famK_lo, famX_lo]
  refine ⟨fun h22 => ?_, fun h22 => ?_⟩
  · skip
    have hk' : k < r.brs.length := by omega
    obtain ⟨g1, g2, g3⟩ := files_ok h hk'
    have hfl := (rightT_sorted g2).2.1
    have hev := evP_end hk'
    have hz0 := evP_zero r k r.brs[k]
    refine HT.skip ?_
    simp (disch := first|omega|(simp<;>omega)|fail) [wr3, eqK_lo, eqK_lo', subM_kentsK, subM_fX_out, famK_lo, famX_lo]
    refine HT.seq ?_
    refine HT.block ?_
    refine HT.seq ?_
    refine HT.region ?_
    simp (disch := first|omega|(simp<;>omega)|fail) [wr3, eqK_lo, eqK_lo', subM_kentsK, subM_fX_out, famK_lo, famX_lo]
    refine HT.seq ?_
    refine HT.region ?_
    simp (disch := first|omega|(simp<;>omega)|fail) [wr3, eqK_lo, eqK_lo', subM_kentsK, subM_fX_out, famK_lo, famX_lo, g1]
    refine stepK.mk (.callTf _ _ _ _ _ rfl Ty.hb36 rfl rfl (Files_spec r r.brs[k].name (by omega) hhb) rfl) ?_
    simp (disch := first|omega|(simp<;>omega)|fail) [wr3, eqK_lo, eqK_lo', subM_kentsK, subM_fX_out, famK_lo, famX_lo, g1]
    refine HT.seq ?_
    refine HT.region ?_
    simp (disch := first|omega|(simp<;>omega)|fail) [wr3, eqK_lo, eqK_lo', subM_kentsK, subM_fX_out, famK_lo, famX_lo]
    refine HT.block ?_
    refine HT.loopK (fun j : {j : Nat // j ≤ (filesV r r.brs[k].name).1.length} => [.s 34 (i64 j), .o 4 (.box [.ref 900]), .o 900 (.row 63 3 (keysHV (keysE (evP r k j r.brs[k])))), .o 17 (.map (kents kk 1000 (keysE (evP r k j r.brs[k])))), .os (fam 1000 (keysE (evP r k j r.brs[k])).length (rowOn (evP r k j r.brs[k])))]) [1, 3, 4, 6, 19, 20, 21, 32, 33] [1, 6] (fun j => (filesV r r.brs[k].name).1.length - j) (⟨0, by omega⟩) ?_ ?_
    · skip
      simp (disch := first|omega|(simp<;>omega)|fail) [wr3, eqK_lo, eqK_lo', subM_kentsK, subM_fX_out, famK_lo, famX_lo, hz0]
      intro id o h
      obtain ⟨i, hi, rfl, rfl⟩ := fam_some h
      simp (disch := first|omega|(simp<;>omega)|fail) [wr3, eqK_lo, eqK_lo', subM_kentsK, subM_fX_out, famK_lo, famX_lo, fam_at hi, rowOn]
    rintro ⟨j, hj⟩
    simp (disch := first|omega|(simp<;>omega)|fail) [wr3, eqK_lo, eqK_lo', subM_kentsK, subM_fX_out, famK_lo, famX_lo]
    refine HT.seq ?_
    refine HT.region ?_
    simp (disch := first|omega|(simp<;>omega)|fail) [wr3, eqK_lo, eqK_lo', subM_kentsK, subM_fX_out, famK_lo, famX_lo]
    refine HT.seq ?_
    refine HT.cond' ?_
    simp (disch := first|omega|(simp<;>omega)|fail) [wr3, eqK_lo, eqK_lo', subM_kentsK, subM_fX_out, famK_lo, famX_lo]
    refine ⟨fun h35 => ?_, fun h35 => ?_⟩
    · skip
      have hj' : j < (filesV r r.brs[k].name).1.length := by omega
      have hst : evP r k (j + 1) r.brs[k] = evP r k j r.brs[k] ++ [((r.name, (filesV r r.brs[k].name).1[j].path, (getB r.store.blobs (filesV r r.brs[k].name).1[j].blob).getD []), r.brs[k].name)] := evP_succ hj'
      have hpl := evP_len h (j := j) hk'
      have hpb := evP_kb h (j := j) hk'
      have hkb : KB (r.name, (filesV r r.brs[k].name).1[j].path, (getB r.store.blobs (filesV r r.brs[k].name).1[j].blob).getD []) := kb_ev h (List.getElem_mem hk') (evF_mem hj')
      have hkl := keysE_length (evP r k j r.brs[k])
      refine HT.skip ?_
      simp (disch := first|omega|(simp<;>omega)|fail) [wr3, eqK_lo, eqK_lo', subM_kentsK, subM_fX_out, famK_lo, famX_lo]
      refine HT.seq ?_
      refine HT.block ?_
      refine HT.seq ?_
      refine HT.region ?_
      simp (disch := first|omega|(simp<;>omega)|fail) [wr3, eqK_lo, eqK_lo', subM_kentsK, subM_fX_out, famK_lo, famX_lo]
      refine HT.seq ?_
      refine HT.region ?_
      simp (disch := first|omega|(simp<;>omega)|fail) [wr3, eqK_lo, eqK_lo', subM_kentsK, subM_fX_out, famK_lo, famX_lo]
      refine stepK.mk (.callT _ _ _ _ rfl Ty.hb48 rfl (GetB_spec r.store (filesV r r.brs[k].name).1[j].blob (by omega)) rfl rfl) ?_
      simp (disch := first|omega|(simp<;>omega)|fail) [wr3, eqK_lo, eqK_lo', subM_kentsK, subM_fX_out, famK_lo, famX_lo]
      refine HT.seq ?_
      refine HT.region ?_
      simp (disch := first|omega|(simp<;>omega)|fail) [wr3, eqK_lo, eqK_lo', subM_kentsK, subM_fX_out, famK_lo, famX_lo]
      generalize evP r k j r.brs[k] = p at *
      generalize (getB r.store.blobs (filesV r r.brs[k].name).1[j].blob).getD [] = tx at *
      generalize (filesV r r.brs[k].name).1[j].path = fp at *
      have hko : keyH Tryz.prog 10 63 [.str r.name, .str fp, .str tx] = some [.string r.name, .string fp, .string tx] := key85 hkb
      have hol := onE_length p (r.name, fp, tx)
      refine HT.weaken (HS.le_fits (M := [.s 13 (.ptr 13 0), .o 13 (.box [.str r.name, .str fp, .str tx]), .s 34 (i64 j), .o 4 (.box [.ref 900]), .o 900 (.row 63 3 (keysHV (keysE p))), .o 17 (.map (kents kk 1000 (keysE p))), .os (fam 1000 (keysE p).length (rowOn p)), .s 1 (.ptr 1 0), .s 3 (.mref 17), .s 4 (.ptr 4 0), .s 6 (.ptr 6 0), .s 19 (.sl 2 false (brsHV r.brs)), .s 20 (i64 r.brs.length), .s 21 (i64 k), .s 32 (.sl 2 false (filesHV (filesV r r.brs[k].name).1)), .s 33 (i64 (filesV r r.brs[k].name).1.length), .o 1 (.box r.enc), .o 6 (.box [.str r.brs[k].name, i64 r.brs[k].head])]) ?_) ?_
      · simp only [fits]
        and_intros
        all_goals first | (intro id o h; obtain ⟨i, hi, rfl, rfl⟩ := fam_some h; simp (disch := first|omega|(simp<;>omega)|fail) [wr3, eqK_lo, eqK_lo', subM_kentsK, subM_fX_out, famK_lo, famX_lo, fam_at hi, rowOn]; done) | simp (disch := first|omega|(simp<;>omega)|fail) [wr3, eqK_lo, eqK_lo', subM_kentsK, subM_fX_out, famK_lo, famX_lo]
      refine HT.seq ?_
      refine HT.seq ?_
      by_cases cf : (r.name, fp, tx) ∈ keysE p
      · skip
        have cfy := cf
        have hlt := List.idxOf_lt_length_iff.2 cf
        have hne := onE_ne cf
        have hf1 : findHV Tryz.prog 63 (.agg [.str r.name, .str fp, .str tx]) (kents kk 1000 (keysE p)) 0 = some (some ((keysE p).idxOf (r.name, fp, tx), .ref (1000 + (keysE p).idxOf (r.name, fp, tx)))) := (find_kk hkb hpb 1000).trans (by rw [if_pos cf])
        have hgd : rowOn p ((keysE p).idxOf (r.name, fp, tx)) = .row 9 1 (strsHV (onE p (r.name, fp, tx))) := by
          unfold rowOn; rw [List.getD_eq_getElem?_getD, List.getElem?_eq_getElem hlt, List.getElem_idxOf hlt]; rfl
        refine HT.region ?_
        simp (disch := first|omega|(simp<;>omega)|fail) [wr3, eqK_lo, eqK_lo', subM_kentsK, subM_fX_out, famK_lo, famX_lo, hf1, hko, fam_at hlt, hgd, hne]
        refine HT.cond' ?_
        simp (disch := first|omega|(simp<;>omega)|fail) [wr3, eqK_lo, eqK_lo', subM_kentsK, subM_fX_out, famK_lo, famX_lo]
        refine HT.skip ?_
        simp (disch := first|omega|(simp<;>omega)|fail) [wr3, eqK_lo, eqK_lo', subM_kentsK, subM_fX_out, famK_lo, famX_lo]
        refine HT.mapOpen 17 (es := kents kk 1000 (keysE p)) (by simp (disch := first|omega|(simp<;>omega)|fail) [wr3, eqK_lo, eqK_lo', subM_kentsK, subM_fX_out, famK_lo, famX_lo]) (fun bs ck hbl hbn hbk => ?_)
        rw [kents_length] at hbl
        first
        | (have _t := cfy
           have hbq : (keysE p).idxOf (r.name, fp, tx) < bs.length := by omega
           have hn : bs[(keysE p).idxOf (r.name, fp, tx)]? = some (bs[(keysE p).idxOf (r.name, fp, tx)]'hbq) := List.getElem?_eq_getElem hbq
           have m1 : (kents kk 1000 (keysE p))[(keysE p).idxOf (r.name, fp, tx)]? = some (.agg [.str r.name, .str fp, .str tx], .ref (1000 + (keysE p).idxOf (r.name, fp, tx))) := kk_get cfy
           have m2 := hn
           have m0 := fun L => mapEnt_hit (L := L) (id := 17) (ck := ck) mp87 z48 (keyOK85 hkb) rfl rfl hf1 (kk_get cfy) hn
           have m3 : (kents kk 1000 (keysE p)).set ((keysE p).idxOf (r.name, fp, tx)) (.agg [.str r.name, .str fp, .str tx], .ref (1000 + (keysE p).idxOf (r.name, fp, tx))) = kents kk 1000 (keysE p) := kk_back cfy
           have m4 : subM (1000 + (keysE p).idxOf (r.name, fp, tx)) .any .any (kents kk 1000 (keysE p)) = (kents kk 1000 (keysE p)).set ((keysE p).idxOf (r.name, fp, tx)) (.agg [.str r.name, .str fp, .str tx], .any) := kk_sub cfy
           have m5 := born_at hbn hn
           have m6 : ((kents kk 1000 (keysE p)).set ((keysE p).idxOf (r.name, fp, tx)) (.agg [.str r.name, .str fp, .str tx], .any))[(keysE p).idxOf (r.name, fp, tx)]? = some (.agg [.str r.name, .str fp, .str tx], .any) := kk_sget cfy .any
           have m7 := fam_at (B := 1000) (g := rowOn p) hlt
           have m8 := hgd)
        | (have _t := cfn
           have m0 := fun L => mapEnt_miss (L := L) (id := 17) (bs := bs) (ck := ck) mp87 z48 (keyOK85 hkb) rfl hf1
           have m1 : (bs ++ [ck]).findIdx? (fun b : Nat => decide ((b : Int) = (ck : Int))) = some (keysE p).length := by rw [born_new hbk, hbl]
           have m2 : (kents kk 1000 (keysE p) ++ [(.agg [.str r.name, .str fp, .str tx], .sl 0 true [])])[(keysE p).length]? = some (.agg [.str r.name, .str fp, .str tx], .sl 0 true []) := by
             rw [List.getElem?_append_right (by simp)]; simp
           have m3 : ∀ a b : HV × HV, (kents kk 1000 (keysE p) ++ [a]).set (keysE p).length b = kents kk 1000 (keysE p) ++ [b] := fun a b => by
             rw [List.set_append_right _ _ (by simp)]; simp
           have m4 : subM 68 .any .any (kents kk 1000 (keysE p) ++ [(.agg [.str r.name, .str fp, .str tx], .sl 0 true [])]) = kents kk 1000 (keysE p) ++ [(.agg [.str r.name, .str fp, .str tx], .sl 0 true [])] := by
             have ha : ∀ (a b : List (HV × HV)) i x y, subM i x y (a ++ b) = subM i x y a ++ subM i x y b := fun a b i x y => by simp [subM]
             rw [ha, subM_kentsK (by decide)]; simp [subM, HV.sub]
           have m5 : True := trivial
           have m6 : True := trivial
           have m7 : True := trivial
           have m8 : True := trivial)
        refine HT.region ?_
        simp (disch := first|omega|(simp<;>omega)|fail) [wr3, eqK_lo, eqK_lo', subM_kentsK, subM_fX_out, famK_lo, famX_lo, -mapEntHV, m0, hf1, hko, m1, m2, m3, m4, m5, m6, m7, m8]
        refine HT.weaken (HS.le_mapShut 17 (by rfl)) ?_
        first
        | (have _t := cfy
           have e1 : keysE (p ++ [((r.name, fp, tx), r.brs[k].name)]) = keysE p := by rw [keysE_snoc, addK, if_pos cfy]
           have e2 : (keysE (p ++ [((r.name, fp, tx), r.brs[k].name)]))[(keysE p).idxOf (r.name, fp, tx)]? = some (r.name, fp, tx) := by rw [e1, List.getElem?_eq_getElem hlt, List.getElem_idxOf]
           refine HT.weaken (HS.le_fits (M := [.s 34 (i64 j), .o 4 (.box [.ref 900]), .o 900 (.row 63 3 (keysHV (keysE (p ++ [((r.name, fp, tx), r.brs[k].name)])))), .o 17 (.map (kents kk 1000 (keysE (p ++ [((r.name, fp, tx), r.brs[k].name)])))), .os (fam 1000 (keysE (p ++ [((r.name, fp, tx), r.brs[k].name)])).length (rowOn (p ++ [((r.name, fp, tx), r.brs[k].name)]))), .s 1 (.ptr 1 0), .s 3 (.mref 17), .s 4 (.ptr 4 0), .s 6 (.ptr 6 0), .s 19 (.sl 2 false (brsHV r.brs)), .s 20 (i64 r.brs.length), .s 21 (i64 k), .s 32 (.sl 2 false (filesHV (filesV r r.brs[k].name).1)), .s 33 (i64 (filesV r r.brs[k].name).1.length), .o 1 (.box r.enc), .o 6 (.box [.str r.brs[k].name, i64 r.brs[k].head])]) ?_) ?_
           · simp only [fits, e1]
             and_intros
             all_goals first
               | (intro id o h
                  obtain ⟨i, hi, rfl, rfl⟩ := fam_some h
                  by_cases e : (keysE p).idxOf (r.name, fp, tx) = i
                  · subst e
                    simp (disch := first|omega|(simp<;>omega)|fail) [wr3, eqK_lo, eqK_lo', subM_kentsK, subM_fX_out, famK_lo, famX_lo, rowOn_hit e2]
                  · have hne' : (keysE p)[i]? ≠ some (r.name, fp, tx) := fun h' => e (by
                      have hi2 := List.getElem?_eq_getElem hi
                      rw [hi2] at h'
                      have := (keysE_nodup p).idxOf_getElem i hi
                      rw [Option.some.inj h'] at this
                      exact this)
                    rw [rowOn_same hi hne']
                    simp (disch := first|omega|(simp<;>omega)|fail) [wr3, eqK_lo, eqK_lo', subM_kentsK, subM_fX_out, famK_lo, famX_lo, fam_at hi, rowOn, e])
               | simp (disch := first|omega|(simp<;>omega)|fail) [wr3, eqK_lo, eqK_lo', subM_kentsK, subM_fX_out, famK_lo, famX_lo])
        | (have _t := cfn
           have e1 : keysE (p ++ [((r.name, fp, tx), r.brs[k].name)]) = keysE p ++ [(r.name, fp, tx)] := by rw [keysE_snoc, addK, if_neg cfn]
           have hs2 : subM (1000 + (keysE p).length) .any .any (kents kk 1000 (keysE p)) = kents kk 1000 (keysE p) := subM_kents_out (.inr (Nat.le_refl _))
           have hs3 : ∀ x y, subM 68 x y (kents kk 1000 (keysE p)) = kents kk 1000 (keysE p) := fun x y => subM_kents_out (.inl (by decide))
           refine HT.weaken (HS.le_ren 68 (1000 + (keysE p).length) (by rfl) ?_) ?_
           · simp (disch := first|omega|(simp<;>omega)|fail) [wr3, eqK_lo, eqK_lo', subM_kentsK, subM_fX_out, famK_lo, famX_lo, fam_not (.inr (Nat.le_refl _))]
           simp only [HObj.sub]
           refine HT.weaken (HS.le_fits (M := [.s 34 (i64 j), .o 4 (.box [.ref 900]), .o 900 (.row 63 3 (keysHV (keysE (p ++ [((r.name, fp, tx), r.brs[k].name)])))), .o 17 (.map (kents kk 1000 (keysE (p ++ [((r.name, fp, tx), r.brs[k].name)])))), .os (fam 1000 (keysE (p ++ [((r.name, fp, tx), r.brs[k].name)])).length (rowOn (p ++ [((r.name, fp, tx), r.brs[k].name)]))), .s 1 (.ptr 1 0), .s 3 (.mref 17), .s 4 (.ptr 4 0), .s 6 (.ptr 6 0), .s 19 (.sl 2 false (brsHV r.brs)), .s 20 (i64 r.brs.length), .s 21 (i64 k), .s 32 (.sl 2 false (filesHV (filesV r r.brs[k].name).1)), .s 33 (i64 (filesV r r.brs[k].name).1.length), .o 1 (.box r.enc), .o 6 (.box [.str r.brs[k].name, i64 r.brs[k].head])]) ?_) ?_
           · have ha : ∀ (a b : List (HV × HV)) i x y, subM i x y (a ++ b) = subM i x y a ++ subM i x y b := fun a b i x y => by simp [subM]
             have hmap : subM 68 (.ref (1000 + (keysE p).length)) (.mref (1000 + (keysE p).length)) (subM (1000 + (keysE p).length) .any .any (kents kk 1000 (keysE p) ++ [(.agg [.str r.name, .str fp, .str tx], .ref 68)])) = kents kk 1000 (keysE p ++ [(r.name, fp, tx)]) := by
               rw [ha, hs2, ha, hs3, kents_snoc]
               simp [subM, HV.sub, kk, show ¬ 68 = 1000 + (keysE p).length by omega]
             simp only [fits, e1]
             and_intros
             all_goals first
               | (intro id o h
                  obtain ⟨i, hi, rfl, rfl⟩ := fam_some h
                  rw [List.length_append, List.length_singleton] at hi
                  by_cases e : (keysE p).length = i
                  · subst e
                    rw [rowOn_hit (by rw [e1, List.getElem?_append_right (Nat.le_refl _), Nat.sub_self]; rfl), onE_none cfn]
                    simp (disch := first|omega|(simp<;>omega)|fail) [wr3, eqK_lo, eqK_lo', subM_kentsK, subM_fX_out, famK_lo, famX_lo, strsHV]
                  · have hi' : i < (keysE p).length := by omega
                    have hne' : (keysE p)[i]? ≠ some (r.name, fp, tx) := fun h' => cfn (List.mem_of_getElem? h')
                    rw [rowOn_same hi' hne']
                    simp (disch := first|omega|(simp<;>omega)|fail) [wr3, eqK_lo, eqK_lo', subM_kentsK, subM_fX_out, famK_lo, famX_lo, e, fam_at hi', rowOn])
               | simp (disch := first|omega|(simp<;>omega)|fail) [wr3, eqK_lo, eqK_lo', subM_kentsK, subM_fX_out, famK_lo, famX_lo, hmap])
        refine HT.region ?_
        simp (disch := first|omega|(simp<;>omega)|fail) [wr3, eqK_lo, eqK_lo', subM_kentsK, subM_fX_out, famK_lo, famX_lo]
        refine Round.mk' (⟨j + 1, by omega⟩) (by dsimp only; omega) rfl ?_
        simp (disch := first|omega|(simp<;>omega)|fail) [wr3, eqK_lo, eqK_lo', subM_kentsK, subM_fX_out, famK_lo, famX_lo, hst]
        intro id o h
        obtain ⟨i, hi, rfl, rfl⟩ := fam_some h
        simp (disch := first|omega|(simp<;>omega)|fail) [wr3, eqK_lo, eqK_lo', subM_kentsK, subM_fX_out, famK_lo, famX_lo, fam_at hi]
      have cfn := cf
      have hf1 : findHV Tryz.prog 63 (.agg [.str r.name, .str fp, .str tx]) (kents kk 1000 (keysE p)) 0 = some none := (find_kk hkb hpb 1000).trans (by rw [if_neg cf])
      refine HT.region ?_
      simp (disch := first|omega|(simp<;>omega)|fail) [wr3, eqK_lo, eqK_lo', subM_kentsK, subM_fX_out, famK_lo, famX_lo, hf1, hko]
      refine HT.cond' ?_
      simp (disch := first|omega|(simp<;>omega)|fail) [wr3, eqK_lo, eqK_lo', subM_kentsK, subM_fX_out, famK_lo, famX_lo]
      refine HT.region ?_
      simp (disch := first|omega|(simp<;>omega)|fail) [wr3, eqK_lo, eqK_lo', subM_kentsK, subM_fX_out, famK_lo, famX_lo]
      refine HT.mapOpen 17 (es := kents kk 1000 (keysE p)) (by simp (disch := first|omega|(simp<;>omega)|fail) [wr3, eqK_lo, eqK_lo', subM_kentsK, subM_fX_out, famK_lo, famX_lo]) (fun bs ck hbl hbn hbk => ?_)
      rw [kents_length] at hbl
      first
      | (have _t := cfy
         have hbq : (keysE p).idxOf (r.name, fp, tx) < bs.length := by omega
         have hn : bs[(keysE p).idxOf (r.name, fp, tx)]? = some (bs[(keysE p).idxOf (r.name, fp, tx)]'hbq) := List.getElem?_eq_getElem hbq
         have m1 : (kents kk 1000 (keysE p))[(keysE p).idxOf (r.name, fp, tx)]? = some (.agg [.str r.name, .str fp, .str tx], .ref (1000 + (keysE p).idxOf (r.name, fp, tx))) := kk_get cfy
         have m2 := hn
         have m0 := fun L => mapEnt_hit (L := L) (id := 17) (ck := ck) mp87 z48 (keyOK85 hkb) rfl rfl hf1 (kk_get cfy) hn
         have m3 : (kents kk 1000 (keysE p)).set ((keysE p).idxOf (r.name, fp, tx)) (.agg [.str r.name, .str fp, .str tx], .ref (1000 + (keysE p).idxOf (r.name, fp, tx))) = kents kk 1000 (keysE p) := kk_back cfy
         have m4 : subM (1000 + (keysE p).idxOf (r.name, fp, tx)) .any .any (kents kk 1000 (keysE p)) = (kents kk 1000 (keysE p)).set ((keysE p).idxOf (r.name, fp, tx)) (.agg [.str r.name, .str fp, .str tx], .any) := kk_sub cfy
         have m5 := born_at hbn hn
         have m6 : ((kents kk 1000 (keysE p)).set ((keysE p).idxOf (r.name, fp, tx)) (.agg [.str r.name, .str fp, .str tx], .any))[(keysE p).idxOf (r.name, fp, tx)]? = some (.agg [.str r.name, .str fp, .str tx], .any) := kk_sget cfy .any
         have m7 := fam_at (B := 1000) (g := rowOn p) hlt
         have m8 := hgd)
      | (have _t := cfn
         have m0 := fun L => mapEnt_miss (L := L) (id := 17) (bs := bs) (ck := ck) mp87 z48 (keyOK85 hkb) rfl hf1
         have m1 : (bs ++ [ck]).findIdx? (fun b : Nat => decide ((b : Int) = (ck : Int))) = some (keysE p).length := by rw [born_new hbk, hbl]
         have m2 : (kents kk 1000 (keysE p) ++ [(.agg [.str r.name, .str fp, .str tx], .sl 0 true [])])[(keysE p).length]? = some (.agg [.str r.name, .str fp, .str tx], .sl 0 true []) := by
           rw [List.getElem?_append_right (by simp)]; simp
         have m3 : ∀ a b : HV × HV, (kents kk 1000 (keysE p) ++ [a]).set (keysE p).length b = kents kk 1000 (keysE p) ++ [b] := fun a b => by
           rw [List.set_append_right _ _ (by simp)]; simp
         have m4 : subM 68 .any .any (kents kk 1000 (keysE p) ++ [(.agg [.str r.name, .str fp, .str tx], .sl 0 true [])]) = kents kk 1000 (keysE p) ++ [(.agg [.str r.name, .str fp, .str tx], .sl 0 true [])] := by
           have ha : ∀ (a b : List (HV × HV)) i x y, subM i x y (a ++ b) = subM i x y a ++ subM i x y b := fun a b i x y => by simp [subM]
           rw [ha, subM_kentsK (by decide)]; simp [subM, HV.sub]
         have m5 : True := trivial
         have m6 : True := trivial
         have m7 : True := trivial
         have m8 : True := trivial)
      refine HT.region ?_
      simp (disch := first|omega|(simp<;>omega)|fail) [wr3, eqK_lo, eqK_lo', subM_kentsK, subM_fX_out, famK_lo, famX_lo, -mapEntHV, m0, hf1, hko, m1, m2, m3, m4, m5, m6, m7, m8]
      refine HT.weaken (HS.le_mapShut 17 (by rfl)) ?_
      first
      | (have _t := cfy
         have e1 : keysE (p ++ [((r.name, fp, tx), r.brs[k].name)]) = keysE p := by rw [keysE_snoc, addK, if_pos cfy]
         have e2 : (keysE (p ++ [((r.name, fp, tx), r.brs[k].name)]))[(keysE p).idxOf (r.name, fp, tx)]? = some (r.name, fp, tx) := by rw [e1, List.getElem?_eq_getElem hlt, List.getElem_idxOf]
         refine HT.weaken (HS.le_fits (M := [.s 34 (i64 j), .o 4 (.box [.ref 900]), .o 900 (.row 63 3 (keysHV (keysE (p ++ [((r.name, fp, tx), r.brs[k].name)])))), .o 17 (.map (kents kk 1000 (keysE (p ++ [((r.name, fp, tx), r.brs[k].name)])))), .os (fam 1000 (keysE (p ++ [((r.name, fp, tx), r.brs[k].name)])).length (rowOn (p ++ [((r.name, fp, tx), r.brs[k].name)]))), .s 1 (.ptr 1 0), .s 3 (.mref 17), .s 4 (.ptr 4 0), .s 6 (.ptr 6 0), .s 19 (.sl 2 false (brsHV r.brs)), .s 20 (i64 r.brs.length), .s 21 (i64 k), .s 32 (.sl 2 false (filesHV (filesV r r.brs[k].name).1)), .s 33 (i64 (filesV r r.brs[k].name).1.length), .o 1 (.box r.enc), .o 6 (.box [.str r.brs[k].name, i64 r.brs[k].head])]) ?_) ?_
         · simp only [fits, e1]
           and_intros
           all_goals first
             | (intro id o h
                obtain ⟨i, hi, rfl, rfl⟩ := fam_some h
                by_cases e : (keysE p).idxOf (r.name, fp, tx) = i
                · subst e
                  simp (disch := first|omega|(simp<;>omega)|fail) [wr3, eqK_lo, eqK_lo', subM_kentsK, subM_fX_out, famK_lo, famX_lo, rowOn_hit e2]
                · have hne' : (keysE p)[i]? ≠ some (r.name, fp, tx) := fun h' => e (by
                    have hi2 := List.getElem?_eq_getElem hi
                    rw [hi2] at h'
                    have := (keysE_nodup p).idxOf_getElem i hi
                    rw [Option.some.inj h'] at this
                    exact this)
                  rw [rowOn_same hi hne']
                  simp (disch := first|omega|(simp<;>omega)|fail) [wr3, eqK_lo, eqK_lo', subM_kentsK, subM_fX_out, famK_lo, famX_lo, fam_at hi, rowOn, e])
             | simp (disch := first|omega|(simp<;>omega)|fail) [wr3, eqK_lo, eqK_lo', subM_kentsK, subM_fX_out, famK_lo, famX_lo])
      | (have _t := cfn
         have e1 : keysE (p ++ [((r.name, fp, tx), r.brs[k].name)]) = keysE p ++ [(r.name, fp, tx)] := by rw [keysE_snoc, addK, if_neg cfn]
         have hs2 : subM (1000 + (keysE p).length) .any .any (kents kk 1000 (keysE p)) = kents kk 1000 (keysE p) := subM_kents_out (.inr (Nat.le_refl _))
         have hs3 : ∀ x y, subM 68 x y (kents kk 1000 (keysE p)) = kents kk 1000 (keysE p) := fun x y => subM_kents_out (.inl (by decide))
         refine HT.weaken (HS.le_ren 68 (1000 + (keysE p).length) (by rfl) ?_) ?_
         · simp (disch := first|omega|(simp<;>omega)|fail) [wr3, eqK_lo, eqK_lo', subM_kentsK, subM_fX_out, famK_lo, famX_lo, fam_not (.inr (Nat.le_refl _))]
         simp only [HObj.sub]
         refine HT.weaken (HS.le_fits (M := [.s 34 (i64 j), .o 4 (.box [.ref 900]), .o 900 (.row 63 3 (keysHV (keysE (p ++ [((r.name, fp, tx), r.brs[k].name)])))), .o 17 (.map (kents kk 1000 (keysE (p ++ [((r.name, fp, tx), r.brs[k].name)])))), .os (fam 1000 (keysE (p ++ [((r.name, fp, tx), r.brs[k].name)])).length (rowOn (p ++ [((r.name, fp, tx), r.brs[k].name)]))), .s 1 (.ptr 1 0), .s 3 (.mref 17), .s 4 (.ptr 4 0), .s 6 (.ptr 6 0), .s 19 (.sl 2 false (brsHV r.brs)), .s 20 (i64 r.brs.length), .s 21 (i64 k), .s 32 (.sl 2 false (filesHV (filesV r r.brs[k].name).1)), .s 33 (i64 (filesV r r.brs[k].name).1.length), .o 1 (.box r.enc), .o 6 (.box [.str r.brs[k].name, i64 r.brs[k].head])]) ?_) ?_
         · have ha : ∀ (a b : List (HV × HV)) i x y, subM i x y (a ++ b) = subM i x y a ++ subM i x y b := fun a b i x y => by simp [subM]
           have hmap : subM 68 (.ref (1000 + (keysE p).length)) (.mref (1000 + (keysE p).length)) (subM (1000 + (keysE p).length) .any .any (kents kk 1000 (keysE p) ++ [(.agg [.str r.name, .str fp, .str tx], .ref 68)])) = kents kk 1000 (keysE p ++ [(r.name, fp, tx)]) := by
             rw [ha, hs2, ha, hs3, kents_snoc]
             simp [subM, HV.sub, kk, show ¬ 68 = 1000 + (keysE p).length by omega]
           simp only [fits, e1]
           and_intros
           all_goals first
             | (intro id o h
                obtain ⟨i, hi, rfl, rfl⟩ := fam_some h
                rw [List.length_append, List.length_singleton] at hi
                by_cases e : (keysE p).length = i
                · subst e
                  rw [rowOn_hit (by rw [e1, List.getElem?_append_right (Nat.le_refl _), Nat.sub_self]; rfl), onE_none cfn]
                  simp (disch := first|omega|(simp<;>omega)|fail) [wr3, eqK_lo, eqK_lo', subM_kentsK, subM_fX_out, famK_lo, famX_lo, strsHV]
                · have hi' : i < (keysE p).length := by omega
                  have hne' : (keysE p)[i]? ≠ some (r.name, fp, tx) := fun h' => cfn (List.mem_of_getElem? h')
                  rw [rowOn_same hi' hne']
                  simp (disch := first|omega|(simp<;>omega)|fail) [wr3, eqK_lo, eqK_lo', subM_kentsK, subM_fX_out, famK_lo, famX_lo, e, fam_at hi', rowOn])
             | simp (disch := first|omega|(simp<;>omega)|fail) [wr3, eqK_lo, eqK_lo', subM_kentsK, subM_fX_out, famK_lo, famX_lo, hmap])
      refine HT.region ?_
      simp (disch := first|omega|(simp<;>omega)|fail) [wr3, eqK_lo, eqK_lo', subM_kentsK, subM_fX_out, famK_lo, famX_lo]
      refine Round.mk' (⟨j + 1, by omega⟩) (by dsimp only; omega) rfl ?_
      simp (disch := first|omega|(simp<;>omega)|fail) [wr3, eqK_lo, eqK_lo', subM_kentsK, subM_fX_out, famK_lo, famX_lo, hst]
      intro id o h
      obtain ⟨i, hi, rfl, rfl⟩ := fam_some h
      simp (disch := first|omega|(simp<;>omega)|fail) [wr3, eqK_lo, eqK_lo', subM_kentsK, subM_fX_out, famK_lo, famX_lo, fam_at hi]
    · skip
      obtain rfl : j = (filesV r r.brs[k].name).1.length := by omega
      refine HT.exit ?_
      simp (disch := first|omega|(simp<;>omega)|fail) [wr3, eqK_lo, eqK_lo', subM_kentsK, subM_fX_out, famK_lo, famX_lo]
      refine HT.region ?_
      simp (disch := first|omega|(simp<;>omega)|fail) [wr3, eqK_lo, eqK_lo', subM_kentsK, subM_fX_out, famK_lo, famX_lo]
      refine Round.mk' (⟨k + 1, by omega⟩) (by dsimp only; omega) rfl ?_
      simp (disch := first|omega|(simp<;>omega)|fail) [wr3, eqK_lo, eqK_lo', subM_kentsK, subM_fX_out, famK_lo, famX_lo, hev]
      intro id o h
      obtain ⟨i, hi, rfl, rfl⟩ := fam_some h
      simp (disch := first|omega|(simp<;>omega)|fail) [wr3, eqK_lo, eqK_lo', subM_kentsK, subM_fX_out, famK_lo, famX_lo, fam_at hi, rowOn]
  · skip
    obtain rfl : k = r.brs.length := by omega
    refine HT.exit ?_
    simp (disch := first|omega|(simp<;>omega)|fail) [wr3, eqK_lo, eqK_lo', subM_kentsK, subM_fX_out, famK_lo, famX_lo]
    have hnm : ∀ c ∈ keysE (evRep r), c.1 = r.name := fun c hc => by
      obtain ⟨x, hx, rfl⟩ := (keysE_mem _ _).1 hc
      exact evR_name r x hx
    have hP : List.flatMap (evBr r) r.brs = evRep r := rfl
    rw [hP]
    refine HT.seq ?_
    refine HT.region ?_
    simp (disch := first|omega|(simp<;>omega)|fail) [wr3, eqK_lo, eqK_lo', subM_kentsK, subM_fX_out, famK_lo, famX_lo]
    intro V ob
    refine stepK.mk (.callSt _ _ 900 4 _ _ _ _ _ _ _ rfl Ty.hb49 (by first | rfl | simp) (by first | rfl | simp) (by simp) (fun bB hob => KSort1_spec (n := r.name) (keysE (evRep r)) hnm (by omega) hob) rfl) ?_
    simp (disch := first|omega|(simp<;>omega)|fail) [wr3, eqK_lo, eqK_lo', subM_kentsK, subM_fX_out, famK_lo, famX_lo]
    refine HT.weaken (HS.le_ren 900 200 (by rfl) (by rfl)) ?_
    simp (disch := first|omega|(simp<;>omega)|fail) [wr3, eqK_lo, eqK_lo', subM_kentsK, subM_fX_out, famK_lo, famX_lo]
    refine HT.weaken (HS.le_frzref (id := 200) (xr := .sl 3 false (keysHV (sortedK (keysE (evRep r))))) (xm := .any) (by simp)) ?_
    refine HT.seq ?_
    refine HT.region ?_
    simp (disch := first|omega|(simp<;>omega)|fail) [wr3, eqK_lo, eqK_lo', subM_kentsK, subM_fX_out, famK_lo, famX_lo]
    have hSp := sortedK_perm (keysE (evRep r))
    have hSo := ofR_eq r hSp (sortedK_pw _)
    have hKb := evRep_kb h
    have hKn := keysE_nodup (evRep r)
    rw [kents_fX hKn (onE (evRep r))]
    generalize sortedK (keysE (evRep r)) = S at *
    have hSn := hSp.symm.nodup hKn
    have hSl := hSp.length_eq
    refine HT.weaken (HS.le_own (t := 14) 201 50 5 _ (by decide) rfl (by decide)) ?_
    refine HT.seq ?_
    refine HT.seq ?_
    refine HT.region ?_
    simp (disch := first|omega|(simp<;>omega)|fail) [wr3, eqK_lo, eqK_lo', subM_kentsK, subM_fX_out, famK_lo, famX_lo]
    refine HT.weaken (HS.le_fits (M := [.s 78 (i64 0), .s 14 (.ref 201), .o 201 (.row 50 5 (docsHV [])), .o 17 (.map (fents kk (vX (keysE (evRep r)) (onE (evRep r)) []) (keysE (evRep r)))), .os (famX (keysE (evRep r)) (onE (evRep r)) []), .s 76 (.sl 3 false (keysHV S)), .s 77 (i64 S.length), .s 3 (.mref 17)]) ?_) ?_
    · simp only [fits]
      and_intros
      all_goals first
        | (intro id o h
           obtain ⟨j, k', hk', rfl, hd, rfl⟩ := famX_some h
           have hj := getElem?_lt hk'
           obtain rfl : (keysE (evRep r))[j] = k' := by rw [List.getElem?_eq_getElem hj] at hk'; exact Option.some.inj hk'
           simp (disch := first|omega|(simp<;>omega)|fail) [wr3, eqK_lo, eqK_lo', subM_kentsK, subM_fX_out, famK_lo, famX_lo, fam_at hj, rowOn, List.getD_eq_getElem?_getD])
        | simp (disch := first|omega|(simp<;>omega)|fail) [wr3, eqK_lo, eqK_lo', subM_kentsK, subM_fX_out, famK_lo, famX_lo]
    refine HT.block ?_
    refine HT.loopK (fun i : {i : Nat // i ≤ S.length} => [.s 78 (i64 i), .s 14 (.ref 201), .o 201 (.row 50 5 (docsHV ((S.take i).map (mkD (evRep r))))), .o 17 (.map (fents kk (vX (keysE (evRep r)) (onE (evRep r)) (S.take i)) (keysE (evRep r)))), .os (famX (keysE (evRep r)) (onE (evRep r)) (S.take i))]) [3, 76, 77] [] (fun i => S.length - i) (⟨0, by omega⟩) ?_ ?_
    · skip
      simp (disch := first|omega|(simp<;>omega)|fail) [wr3, eqK_lo, eqK_lo', subM_kentsK, subM_fX_out, famK_lo, famX_lo]
      intro id o h
      obtain ⟨j, k', hk', rfl, hd, rfl⟩ := famX_some h
      simp (disch := first|omega|(simp<;>omega)|fail) [wr3, eqK_lo, eqK_lo', subM_kentsK, subM_fX_out, famK_lo, famX_lo, famX_get hk' hd]
    rintro ⟨i, hi⟩
    simp (disch := first|omega|(simp<;>omega)|fail) [wr3, eqK_lo, eqK_lo', subM_kentsK, subM_fX_out, famK_lo, famX_lo]
    refine HT.seq ?_
    refine HT.region ?_
    simp (disch := first|omega|(simp<;>omega)|fail) [wr3, eqK_lo, eqK_lo', subM_kentsK, subM_fX_out, famK_lo, famX_lo]
    refine HT.seq ?_
    refine HT.cond' ?_
    simp (disch := first|omega|(simp<;>omega)|fail) [wr3, eqK_lo, eqK_lo', subM_kentsK, subM_fX_out, famK_lo, famX_lo]
    refine ⟨fun h79 => ?_, fun h79 => ?_⟩
    · skip
      have hi' : i < S.length := by omega
      have hki : S[i] ∈ keysE (evRep r) := (hSp.mem_iff).1 (List.getElem_mem hi')
      have hnd : S[i] ∉ S.take i := fun hm => by
        obtain ⟨j, hj, he⟩ := List.mem_iff_getElem.1 hm
        rw [List.length_take] at hj
        rw [List.getElem_take] at he
        have := (List.getElem_inj hSn).1 he
        omega
      have hst : S.take (i + 1) = S.take i ++ [S[i]] := List.take_succ_eq_append_getElem hi'
      have hkb := hKb _ hki
      have hko : keyH Tryz.prog 10 63 [.str S[i].1, .str S[i].2.1, .str S[i].2.2] = some [.string S[i].1, .string S[i].2.1, .string S[i].2.2] := key85 hkb
      have hf1 : findHV Tryz.prog 63 (.agg [.str S[i].1, .str S[i].2.1, .str S[i].2.2]) (fents kk (vX (keysE (evRep r)) (onE (evRep r)) (S.take i)) (keysE (evRep r))) 0 = some (some ((keysE (evRep r)).idxOf S[i], .ref (1000 + (keysE (evRep r)).idxOf S[i]))) := (find_fk hkb hKb _).trans (by rw [if_pos hki]; simp [vX, hnd])
      have hf2 : findHV Tryz.prog 63 (.agg [.str S[i].1, .str S[i].2.1, .str S[i].2.2]) (fents kk (vX (keysE (evRep r)) (onE (evRep r)) (S.take (i + 1))) (keysE (evRep r))) 0 = some (some ((keysE (evRep r)).idxOf S[i], .sl 1 false (strsHV (onE (evRep r) S[i])))) := (find_fk hkb hKb _).trans (by rw [if_pos hki, hst, vX, if_pos (List.mem_append_right _ (List.mem_singleton.2 rfl))])
      have hfa := famX_at (g := onE (evRep r)) hki hnd
      have hst2 : (S.map (mkD (evRep r))).take (i + 1) = (S.map (mkD (evRep r))).take i ++ [⟨0, S[i].1, S[i].2.1, S[i].2.2, onE (evRep r) S[i]⟩] := by
        rw [List.take_succ_eq_append_getElem (by simpa using hi'), List.getElem_map]; rfl
      have hs1 := subM_fX (g := onE (evRep r)) (dn := S.take i) hki
      rw [← hst] at hs1
      have hol := onE_length (evRep r) S[i]
      have hso := srt_on h S[i]
      refine HT.skip ?_
      simp (disch := first|omega|(simp<;>omega)|fail) [wr3, eqK_lo, eqK_lo', subM_kentsK, subM_fX_out, famK_lo, famX_lo]
      refine HT.seq ?_
      refine HT.block ?_
      refine HT.seq ?_
      refine HT.region ?_
      simp (disch := first|omega|(simp<;>omega)|fail) [wr3, eqK_lo, eqK_lo', subM_kentsK, subM_fX_out, famK_lo, famX_lo]
      refine HT.seq ?_
      refine HT.region ?_
      simp (disch := first|omega|(simp<;>omega)|fail) [wr3, eqK_lo, eqK_lo', subM_kentsK, subM_fX_out, famK_lo, famX_lo, hf1, hko]
      refine stepK.mk (.callS _ _ _ _ _ _ _ rfl Ty.hb51 (by simp [hfa, eqK_lo, eqK_lo']) (by simp) (by first | rfl | simp) (SortS_spec (onE (evRep r) S[i]) (by omega)) rfl) ?_
      simp (disch := first|omega|(simp<;>omega)|fail) [wr3, eqK_lo, eqK_lo', subM_kentsK, subM_fX_out, famK_lo, famX_lo, hf1, hko]
      refine HT.weaken (HS.le_frzref (id := 1000 + (keysE (evRep r)).idxOf S[i]) (xr := .sl 1 false (strsHV (onE (evRep r) S[i]))) (xm := .any) (by simp [hso])) ?_
      refine HT.draw [.take 0, .take 7, .batch [1, 2, 3, 4, 5, 6, 8, 9, 10, 11], .one 12, .batch [13]] (by kernel_rfl) ?_
      simp (disch := first|omega|(simp<;>omega)|fail) [wr3, eqK_lo, eqK_lo', subM_kentsK, subM_fX_out, famK_lo, famX_lo, hf2, hko, hs1]
      refine HT.region ?_
      simp (disch := first|omega|(simp<;>omega)|fail) [wr3, eqK_lo, eqK_lo', subM_kentsK, subM_fX_out, famK_lo, famX_lo]
      refine Round.mk' (⟨i + 1, by omega⟩) (by dsimp only; omega) rfl ?_
      simp only [fits, hst2]
      and_intros
      all_goals first
        | (intro id o h
           obtain ⟨j, k', hk', rfl, hd, rfl⟩ := famX_some h
           have hd1 : k' ∉ S.take i := fun hm => hd (by rw [hst]; exact List.mem_append_left _ hm)
           have hne : ¬ (keysE (evRep r)).idxOf S[i] = j := fun e => hd (by
             have hlt := List.idxOf_lt_length_iff.2 hki
             have h2 := List.getElem_idxOf hlt
             subst e
             rw [List.getElem?_eq_getElem hlt, h2] at hk'
             rw [hst, ← Option.some.inj hk']
             exact List.mem_append_right _ (List.mem_singleton.2 rfl))
           simp (disch := first|omega|(simp<;>omega)|fail) [wr3, eqK_lo, eqK_lo', subM_kentsK, subM_fX_out, famK_lo, famX_lo, famX_get hk' hd1, hne])
        | simp (disch := first|omega|(simp<;>omega)|fail) [wr3, eqK_lo, eqK_lo', subM_kentsK, subM_fX_out, famK_lo, famX_lo, hs1]
    · skip
      obtain rfl : i = S.length := by omega
      have hT : (ofR r).take S.length = ofR r := by
        rw [← hSo, show S.length = (S.map (mkD (evRep r))).length by simp, List.take_length]
      refine HT.exit ?_
      simp (disch := first|omega|(simp<;>omega)|fail) [wr3, eqK_lo, eqK_lo', subM_kentsK, subM_fX_out, famK_lo, famX_lo]
      refine HT.seq ?_
      refine HT.region ?_
      simp (disch := first|omega|(simp<;>omega)|fail) [wr3, eqK_lo, eqK_lo', subM_kentsK, subM_fX_out, famK_lo, famX_lo]
      refine HT.ret ?_
      simp (disch := first|omega|(simp<;>omega)|fail) [wr3, eqK_lo, eqK_lo', subM_kentsK, subM_fX_out, famK_lo, famX_lo, hSo, hT]
end Go.Hv
set_option linter.unusedVariables false
set_option linter.unusedSimpArgs false
/- The change of a table: the program (layer 28). -/
namespace Go.Hv
open Go Go.Hv Go.Proofs Go.RowKit
open Go.Proofs.YtcmomegkhoggpaaGreatDoor
theorem ofR_B {r : Repo} (h : OkR r) : (ofR r).length ≤ 288 ∧ ∀ d ∈ ofR r, DocQ d ∧ d.on.length ≤ 288 := by
 have hl := evRep_len h
 have hB := add_B h (p := evRep r) (by omega) (fun e he => by
  obtain ⟨b, hb, he⟩ := List.mem_flatMap.1 he
  exact ev_ok h hb he)
 refine ⟨by have := hB.1; unfold ofR; omega, fun d hd => ?_⟩
 have := hB.2 d hd
 exact ⟨this.1, by omega⟩
theorem findD_at {now : List Doc} (hn : (now.map keyV).Nodup) {j : Nat} (hj : j < now.length) : findD now (keyV now[j]) = some now[j] := by
 unfold findD
 rw [List.find?_eq_some_iff_getElem]
 refine ⟨by simp, j, hj, rfl, fun i hi => ?_⟩
 have : keyV now[i] ≠ keyV now[j] := fun e => by
  have := (List.getElem_inj (i := i) (j := j) (h₀ := by simp; omega) (h₁ := by simp; omega) hn).1 (by simpa using e)
  omega
 simpa using this
def onK (now : List Doc) (k : KeyT) : List (List UInt8) := match findD now k with
 | some x => x.on
 | none => []
def onF (now : List Doc) (k : KeyT) : HV := .sl 1 false (strsHV (onK now k))
theorem onK_at {now : List Doc} (hn : (now.map keyV).Nodup) {j : Nat} (hj : j < now.length) : onK now (keyV now[j]) = now[j].on := by
 unfold onK; rw [findD_at hn hj]
theorem findD_in {now : List Doc} {k : KeyT} (h : k ∈ now.map keyV) : ∃ x ∈ now, keyV x = k ∧ findD now k = some x := by
 cases hf : findD now k with
 | none => exact absurd (by rw [hf]; rfl : (findD now k).isNone = true) (by rw [findD_isNone]; simpa using h)
 | some x =>
  have h1 := List.mem_of_find?_eq_some hf
  have h2 := List.find?_some hf
  exact ⟨x, h1, by simpa using h2, rfl⟩
theorem moved_in {n : List UInt8} {now : List Doc} {d : Doc} (h1 : d.repo = n) (h2 : keyV d ∈ now.map keyV) : movedV n now d = if d.on = onK now (keyV d) then none else some ⟨d.id, [], [], [], onK now (keyV d)⟩ := by
 obtain ⟨x, _, _, hf⟩ := findD_in h2
 unfold movedV onK
 rw [if_pos h1, hf]
theorem moved_out {n : List UInt8} {now : List Doc} {d : Doc} (h2 : keyV d ∉ now.map keyV) : movedV n now d = none := by
 have hf : findD now (keyV d) = none := by have := findD_isNone now (keyV d); rw [decide_eq_true h2] at this; exact Option.isNone_iff_eq_none.1 this
 unfold movedV
 rw [hf]; split <;> rfl
theorem moved_other {n : List UInt8} {now : List Doc} {d : Doc} (h1 : ¬ d.repo = n) : movedV n now d = none := by
 unfold movedV; rw [if_neg h1]
theorem gone_other {n : List UInt8} {now : List Doc} {d : Doc} (h1 : ¬ d.repo = n) : goneV n now d = false := by
 unfold goneV; rw [decide_eq_false h1]; rfl
theorem gone_out {n : List UInt8} {now : List Doc} {d : Doc} (h1 : d.repo = n) (h2 : keyV d ∉ now.map keyV) : goneV n now d = true := by
 unfold goneV; rw [decide_eq_true h1, findD_isNone, decide_eq_true h2]; rfl
theorem gone_in {n : List UInt8} {now : List Doc} {d : Doc} (h2 : keyV d ∈ now.map keyV) : goneV n now d = false := by
 unfold goneV; rw [findD_isNone, decide_eq_false (p := keyV d ∉ now.map keyV) (fun hq => hq h2), Bool.and_false]
theorem gone_step (n : List UInt8) (now l : List Doc) {k : Nat} (hk : k < l.length) : ((l.take (k + 1)).filter (goneV n now)).map Doc.id = ((l.take k).filter (goneV n now)).map Doc.id ++ (if goneV n now l[k] = true then [l[k].id] else []) := by
 rw [List.take_succ_eq_append_getElem hk, List.filter_append, List.map_append]
 cases h : goneV n now l[k] <;> simp [h]
theorem moved_step (n : List UInt8) (now l : List Doc) {k : Nat} (hk : k < l.length) : (l.take (k + 1)).filterMap (movedV n now) = (l.take k).filterMap (movedV n now) ++ (movedV n now l[k]).toList := by
 rw [List.take_succ_eq_append_getElem hk, List.filterMap_append]
 cases h : movedV n now l[k] <;> simp [h]
theorem fresh_step (l now : List Doc) {j : Nat} (hj : j < now.length) : freshV l (now.take (j + 1)) = freshV l (now.take j) ++ (if keyV now[j] ∈ l.map keyV then [] else [now[j]]) := by
 unfold freshV
 rw [List.take_succ_eq_append_getElem hj, List.filter_append]
 congr 1
 by_cases h : keyV now[j] ∈ l.map keyV
 ·rw [if_pos h, List.filter_cons_of_neg (by rw [findD_isNone]; simpa using h)]; rfl
 ·rw [if_neg h, List.filter_cons_of_pos (by rw [findD_isNone]; simpa using h)]; rfl
theorem fresh_le (l now : List Doc) (j : Nat) : (freshV l (now.take j)).length ≤ j := by
 unfold freshV
 refine Nat.le_trans (List.length_filter_le _ _) ?_
 rw [List.length_take]; omega
theorem keys_take (l : List Doc) {k : Nat} (hk : k < l.length) : (l.map keyV).take (k + 1) = (l.map keyV).take k ++ [keyV l[k]] := by
 rw [List.take_succ_eq_append_getElem (by simpa using hk)]; simp
theorem keys_fresh {l : List Doc} (hn : (l.map keyV).Nodup) {k : Nat} (hk : k < l.length) : keyV l[k] ∉ (l.map keyV).take k := fun hm => by
 obtain ⟨j, hj, he⟩ := List.mem_iff_getElem.1 hm
 rw [List.length_take, List.length_map] at hj
 rw [List.getElem_take] at he
 have := (List.getElem_inj (i := j) (j := k) (h₀ := by simp; omega) (h₁ := by simpa using hk) hn).1 (by simpa using he)
 omega
theorem subM_nil (id : Nat) (x y : HV) : subM id x y [] = [] := rfl
theorem gone_le (p : Doc → Bool) (l : List Doc) (k : Nat) : ((l.take k).filter p).length ≤ k := by
 refine Nat.le_trans (List.length_filter_le _ _) ?_
 rw [List.length_take]; omega
theorem moved_le (p : Doc → Option Doc) (l : List Doc) (k : Nat) : ((l.take k).filterMap p).length ≤ k := by
 refine Nat.le_trans (List.length_filterMap_le _ _) ?_
 rw [List.length_take]; omega
theorem subM_onF (id : Nat) (x y : HV) (now : List Doc) (ks : List KeyT) : subM id x y (fents kk (onF now) ks) = fents kk (onF now) ks := by
 unfold subM fents
 rw [List.map_map]
 exact List.map_congr_left fun k _ => by simp [HV.sub, onF]
theorem fents_snoc (g : KeyT → HV) (ks : List KeyT) (c : KeyT) : fents kk g (ks ++ [c]) = fents kk g ks ++ [(.agg [.str c.1, .str c.2.1, .str c.2.2], g c)] := by simp [fents, kk]
theorem find_seen0 {c : KeyT} (hc : KB c) {ks : List KeyT} (h : ∀ k ∈ ks, KB k) : findHV Tryz.prog 63 (kk c) (seenE ks) 0 = some (if c ∈ ks then some (ks.idxOf c, bo true) else none) := by
 rw [find_seen hc ks 0 h]
 simp
theorem keys_kb {l : List Doc} (h : ∀ d ∈ l, DocQ d) : ∀ k ∈ l.map keyV, KB k := fun k hk => by
 obtain ⟨d, hd, rfl⟩ := List.mem_map.1 hk
 exact (h d hd).kb
set_option maxRecDepth 20000 in
set_option maxHeartbeats 8000000 in
theorem Change_spec (l : List Doc) (r : Repo) (next : Int) (h : OkR r) (hr : RepoF 140737488355328 r) (hll : l.length ≤ 1000) (hlq : ∀ d ∈ l, DocQ d) (hln : (l.map keyV).Nodup) (hx0 : 0 ≤ next) (hx1 : next ≤ 1000000) : Spec1 Tryz.prog 19 [.sl 5 false (docsHV l), .agg r.enc, i64 next] (.agg (changeV l r next).enc) := by
 have hB := ofR_B h
 have hnn := ofR_nodup r
 have hcv : changeV l r next = ⟨numberV (freshV l (ofR r)) next, (l.filter (goneV r.name (ofR r))).map Doc.id, l.filterMap (movedV r.name (ofR r))⟩ := rfl
 have hnk := keys_kb fun d hd => (hB.2 d hd).1
 have hlk := keys_kb hlq
 refine Spec1.of_HT Tryz.func19 rfl (by rw [Tryz.ntmps19]; simp) rfl ?_
 rw [Tryz.ntmps19]
 refine HT.seq ?_;refine HT.region ?_;simp (disch := first|omega|(simp<;>omega)|fail) [wr3, subM_onF]
 refine HT.seq ?_;refine HT.region ?_;simp (disch := first|omega|(simp<;>omega)|fail) [wr3, subM_onF]
 refine stepK.mk (.call1f _ _ _ _ _ rfl Ty.hb16 rfl rfl (Of_spec r h hr) rfl) ?_
 simp (disch := first|omega|(simp<;>omega)|fail) [wr3, subM_onF]
 have hB1 := hB.1
 have hB2 := hB.2
 clear hB
 generalize ofR r = now at *
 refine HT.seq ?_;refine HT.region ?_;simp (disch := first|omega|(simp<;>omega)|fail) [wr3, subM_onF]
 refine HT.seq ?_;refine HT.seq ?_;refine HT.region ?_;simp (disch := first|omega|(simp<;>omega)|fail) [wr3, subM_onF]
 refine HT.block ?_;refine HT.loopK (fun j : {j : Nat // j ≤ now.length} => [.s 24 (i64 j), .o 21 (.map (fents kk (onF now) ((now.map keyV).take j)))]) [0, 2, 4, 6, 7, 8, 22, 23] [4, 6] (fun j => now.length - j) (⟨0, by omega⟩) ?_ ?_
 ·simp (disch := first|omega|(simp<;>omega)|fail) [wr3, subM_onF, fents]
 rintro ⟨j, hj⟩
 simp (disch := first|omega|(simp<;>omega)|fail) [wr3, subM_onF]
 refine HT.seq ?_;refine HT.region ?_;simp (disch := first|omega|(simp<;>omega)|fail) [wr3, subM_onF]
 refine HT.seq ?_;refine HT.cond' ?_;simp (disch := first|omega|(simp<;>omega)|fail) [wr3, subM_onF]
 refine ⟨fun h25 => ?_, fun h25 => ?_⟩
 ·have hj' : j < now.length := by omega
  have hkt := keys_take now hj'
  have hkf := keys_fresh hnn hj'
  have hkb := hnk _ (List.mem_map.2 ⟨_, List.getElem_mem hj', rfl⟩)
  have hko : keyH Tryz.prog 10 63 [.str now[j].repo, .str now[j].path, .str now[j].text] = some [.string now[j].repo, .string now[j].path, .string now[j].text] := key85 hkb
  have hf1 : findHV Tryz.prog 63 (.agg [.str now[j].repo, .str now[j].path, .str now[j].text]) (fents kk (onF now) ((now.map keyV).take j)) 0 = some none :=
   (find_fk (c := keyV now[j]) hkb (fun k hk => hnk k (List.mem_of_mem_take hk)) _).trans (by rw [if_neg hkf])
  have hoF : onF now (keyV now[j]) = .sl 1 false (strsHV now[j].on) := by unfold onF; rw [onK_at hnn hj']
  refine HT.skip ?_;simp (disch := first|omega|(simp<;>omega)|fail) [wr3, subM_onF]
  refine HT.seq ?_;refine HT.block ?_;refine HT.seq ?_;refine HT.region ?_;simp (disch := first|omega|(simp<;>omega)|fail) [wr3, subM_onF]
  refine HT.draw [.take 0, .batch [1, 2, 3, 4], .one 5] (by kernel_rfl) ?_
  simp (disch := first|omega|(simp<;>omega)|fail) [wr3, subM_onF, hf1, hko]
  refine stepK.mk (.call1 _ _ _ rfl Ty.hb40 rfl rfl (key_spec now[j])) ?_
  simp (disch := first|omega|(simp<;>omega)|fail) [wr3, subM_onF, hf1, hko]
  refine HT.region ?_;simp (disch := first|omega|(simp<;>omega)|fail) [wr3, subM_onF]
  refine Round.mk' (⟨j + 1, by omega⟩) (by dsimp only; omega) rfl ?_
  simp (disch := first|omega|(simp<;>omega)|fail) [wr3, subM_onF, hkt, fents_snoc, hoF]
  exact ⟨rfl, rfl, rfl⟩
 ·obtain rfl : j = now.length := by omega
  have hkN : (now.map keyV).take now.length = now.map keyV := List.take_of_length_le (by simp)
  refine HT.exit ?_
  simp (disch := first|omega|(simp<;>omega)|fail) [wr3, subM_onF]
  refine HT.seq ?_;refine HT.region ?_;simp (disch := first|omega|(simp<;>omega)|fail) [wr3, subM_onF]
  refine HT.seq ?_;refine HT.region ?_;simp (disch := first|omega|(simp<;>omega)|fail) [wr3, subM_onF]
  refine HT.weaken (HS.le_boxown 12 0 301 50 5 0 rfl rfl (by decide) (by decide)) ?_
  simp (disch := first|omega|(simp<;>omega)|fail) [wr3, subM_onF]
  refine HT.weaken (HS.le_boxown 12 1 302 3 1 0 (by rfl) (by rfl) (by decide) (by decide)) ?_
  simp (disch := first|omega|(simp<;>omega)|fail) [wr3, subM_onF]
  refine HT.weaken (HS.le_boxown 12 2 303 50 5 0 (by rfl) (by rfl) (by decide) (by decide)) ?_
  refine HT.seq ?_;refine HT.seq ?_;refine HT.region ?_;simp (disch := first|omega|(simp<;>omega)|fail) [wr3, subM_onF]
  refine HT.block ?_;refine HT.loopK (fun k : {k : Nat // k ≤ l.length} => [.s 37 (i64 k), .o 21 (.map (fents kk (onF now) (now.map keyV))), .o 34 (.map (seenE ((l.map keyV).take k))), .o 12 (.box [.ref 301, .ref 302, .ref 303]), .o 301 (.row 50 5 (docsHV [])), .o 302 (.row 3 1 (intsHV (((l.take k).filter (goneV r.name now)).map Doc.id))), .o 303 (.row 50 5 (docsHV ((l.take k).filterMap (movedV r.name now))))]) [2, 4, 6, 7, 8, 11, 12, 35, 36] [4, 6] (fun k => l.length - k) (⟨0, by omega⟩) ?_ ?_
  ·simp (disch := first|omega|(simp<;>omega)|fail) [wr3, subM_onF, seenE, subM_nil, hkN]
  rintro ⟨k, hk⟩
  simp (disch := first|omega|(simp<;>omega)|fail) [wr3, subM_onF]
  refine HT.seq ?_;refine HT.region ?_;simp (disch := first|omega|(simp<;>omega)|fail) [wr3, subM_onF]
  refine HT.seq ?_;refine HT.cond' ?_;simp (disch := first|omega|(simp<;>omega)|fail) [wr3, subM_onF]
  refine ⟨fun h38 => ?_, fun h38 => ?_⟩
  ·have hk' : k < l.length := by omega
   have hkt := keys_take l hk'
   have hkf := keys_fresh hln hk'
   have hkb := hlk _ (List.mem_map.2 ⟨_, List.getElem_mem hk', rfl⟩)
   have hko : keyH Tryz.prog 10 63 [.str l[k].repo, .str l[k].path, .str l[k].text] = some [.string l[k].repo, .string l[k].path, .string l[k].text] := key85 hkb
   have hf1 : findHV Tryz.prog 63 (.agg [.str l[k].repo, .str l[k].path, .str l[k].text]) (seenE ((l.map keyV).take k)) 0 = some none :=
    (find_seen0 (c := keyV l[k]) hkb (fun k hk => hlk k (List.mem_of_mem_take hk))).trans (by rw [if_neg hkf])
   have hsn : seenE ((l.map keyV).take k) ++ [(.agg [.str l[k].repo, .str l[k].path, .str l[k].text], .lit (.bool true))] = seenE ((l.map keyV).take (k + 1)) := by rw [hkt]; exact seenE_snoc _ (keyV l[k])
   have hgl := gone_le (goneV r.name now) l k
   have hml := moved_le (movedV r.name now) l k
   have hgs := gone_step r.name now l hk'
   have hms := moved_step r.name now l hk'
   refine HT.skip ?_;simp (disch := first|omega|(simp<;>omega)|fail) [wr3, subM_onF]
   refine HT.seq ?_;refine HT.block ?_;refine HT.seq ?_;refine HT.region ?_;simp (disch := first|omega|(simp<;>omega)|fail) [wr3, subM_onF]
   refine HT.seq ?_;refine HT.region ?_;simp (disch := first|omega|(simp<;>omega)|fail) [wr3, subM_onF, hf1, hko, hsn]
   refine stepK.mk (.call1f _ _ _ _ _ rfl Ty.hb40 rfl rfl (key_spec l[k]) rfl) ?_
   simp (disch := first|omega|(simp<;>omega)|fail) [wr3, subM_onF, hf1, hko, hsn]
   refine HT.seq ?_;refine HT.seq ?_
   by_cases c1 : ¬ l[k].repo = r.name
   ·have hq1 := eq_false c1
    have hg := gone_other (now := now) c1
    have hm := moved_other (now := now) c1
    refine HT.region ?_;simp (disch := first|omega|(simp<;>omega)|fail) [wr3, subM_onF, hq1]
    refine HT.cond' ?_;simp (disch := first|omega|(simp<;>omega)|fail) [wr3, subM_onF]
    refine HT.exit ?_
    simp (disch := first|omega|(simp<;>omega)|fail) [wr3, subM_onF]
    refine HT.region ?_;simp (disch := first|omega|(simp<;>omega)|fail) [wr3, subM_onF]
    refine Round.mk' (⟨k + 1, by omega⟩) (by dsimp only; omega) rfl ?_
    simp (disch := first|omega|(simp<;>omega)|fail) [wr3, subM_onF, hgs, hms, hg, hm]
   rw [Classical.not_not] at c1
   have hq1 := eq_true c1
   refine HT.region ?_;simp (disch := first|omega|(simp<;>omega)|fail) [wr3, subM_onF, hq1]
   refine HT.cond' ?_;simp (disch := first|omega|(simp<;>omega)|fail) [wr3, subM_onF]
   refine HT.skip ?_;simp (disch := first|omega|(simp<;>omega)|fail) [wr3, subM_onF]
   refine HT.seq ?_
   by_cases c2 : keyV l[k] ∈ now.map keyV
   ·have hg := gone_in (n := r.name) c2
    have hm0 := moved_in c1 c2
    have hf2 : findHV Tryz.prog 63 (.agg [.str l[k].repo, .str l[k].path, .str l[k].text]) (fents kk (onF now) (now.map keyV)) 0 = some (some ((now.map keyV).idxOf (keyV l[k]), .sl 1 false (strsHV (onK now (keyV l[k]))))) := (find_fk (c := keyV l[k]) hkb hnk _).trans (by rw [if_pos c2]; rfl)
    have hol : (onK now (keyV l[k])).length ≤ 288 := by
     obtain ⟨x, hx, _, hf⟩ := findD_in c2
     unfold onK; rw [hf]; exact (hB2 x hx).2
    refine HT.region ?_;simp (disch := first|omega|(simp<;>omega)|fail) [wr3, subM_onF, hf2, hko]
    refine stepK.mk (.call1f _ _ _ _ _ rfl Ty.hb40 rfl rfl (key_spec l[k]) rfl) ?_
    simp (disch := first|omega|(simp<;>omega)|fail) [wr3, subM_onF, hf2, hko]
    refine HT.seq ?_;refine HT.region ?_;simp (disch := first|omega|(simp<;>omega)|fail) [wr3, subM_onF]
    refine HT.cond' ?_;simp (disch := first|omega|(simp<;>omega)|fail) [wr3, subM_onF]
    refine HT.seq ?_;refine HT.region ?_;simp (disch := first|omega|(simp<;>omega)|fail) [wr3, subM_onF]
    refine stepK.mk (.call1f _ _ _ _ _ rfl Ty.hb42 rfl rfl (EqS_spec (onK now (keyV l[k])) l[k].on (by omega)) rfl) ?_
    simp (disch := first|omega|(simp<;>omega)|fail) [wr3, subM_onF]
    refine HT.cond' ?_;simp (disch := first|omega|(simp<;>omega)|fail) [wr3, subM_onF]
    refine ⟨fun h69 => ?_, fun h69 => ?_⟩
    ·have hm : movedV r.name now l[k] = some ⟨l[k].id, [], [], [], onK now (keyV l[k])⟩ := by rw [hm0, if_neg (fun e => h69 e.symm)]
     refine HT.region ?_;simp (disch := first|omega|(simp<;>omega)|fail) [wr3, subM_onF]
     refine HT.region ?_;simp (disch := first|omega|(simp<;>omega)|fail) [wr3, subM_onF]
     refine Round.mk' (⟨k + 1, by omega⟩) (by dsimp only; omega) rfl ?_
     simp (disch := first|omega|(simp<;>omega)|fail) [wr3, subM_onF, hgs, hms, hg, hm]
    ·have hm : movedV r.name now l[k] = none := by rw [hm0, if_pos h69.symm]
     refine HT.skip ?_;simp (disch := first|omega|(simp<;>omega)|fail) [wr3, subM_onF]
     refine HT.region ?_;simp (disch := first|omega|(simp<;>omega)|fail) [wr3, subM_onF]
     refine Round.mk' (⟨k + 1, by omega⟩) (by dsimp only; omega) rfl ?_
     simp (disch := first|omega|(simp<;>omega)|fail) [wr3, subM_onF, hgs, hms, hg, hm]
   have hg := gone_out c1 c2
   have hm := moved_out (n := r.name) c2
   have hf2 : findHV Tryz.prog 63 (.agg [.str l[k].repo, .str l[k].path, .str l[k].text]) (fents kk (onF now) (now.map keyV)) 0 = some none := (find_fk (c := keyV l[k]) hkb hnk _).trans (by rw [if_neg c2])
   refine HT.region ?_;simp (disch := first|omega|(simp<;>omega)|fail) [wr3, subM_onF, hf2, hko]
   refine stepK.mk (.call1f _ _ _ _ _ rfl Ty.hb40 rfl rfl (key_spec l[k]) rfl) ?_
   simp (disch := first|omega|(simp<;>omega)|fail) [wr3, subM_onF, hf2, hko]
   refine HT.seq ?_;refine HT.region ?_;simp (disch := first|omega|(simp<;>omega)|fail) [wr3, subM_onF]
   refine HT.cond' ?_;simp (disch := first|omega|(simp<;>omega)|fail) [wr3, subM_onF]
   refine HT.region ?_;simp (disch := first|omega|(simp<;>omega)|fail) [wr3, subM_onF]
   refine HT.region ?_;simp (disch := first|omega|(simp<;>omega)|fail) [wr3, subM_onF]
   refine Round.mk' (⟨k + 1, by omega⟩) (by dsimp only; omega) rfl ?_
   simp (disch := first|omega|(simp<;>omega)|fail) [wr3, subM_onF, hgs, hms, hg, hm]
  ·obtain rfl : k = l.length := by omega
   have hkT : (l.map keyV).take l.length = l.map keyV := List.take_of_length_le (by simp)
   refine HT.exit ?_
   simp (disch := first|omega|(simp<;>omega)|fail) [wr3, subM_onF]
   refine HT.seq ?_;refine HT.seq ?_;refine HT.region ?_;simp (disch := first|omega|(simp<;>omega)|fail) [wr3, subM_onF]
   refine HT.block ?_;refine HT.loopK (fun j : {j : Nat // j ≤ now.length} => [.s 82 (i64 j), .s 2 (i64 (next + (freshV l (now.take j)).length)), .o 12 (.box [.ref 301, .ref 302, .ref 303]), .o 301 (.row 50 5 (docsHV (numberV (freshV l (now.take j)) next))), .o 34 (.map (seenE (l.map keyV))), .o 302 (.row 3 1 (intsHV ((l.filter (goneV r.name now)).map Doc.id))), .o 303 (.row 50 5 (docsHV (l.filterMap (movedV r.name now))))]) [6, 11, 12, 80, 81] [6] (fun j => now.length - j) (⟨0, by omega⟩) ?_ ?_
   ·simp (disch := first|omega|(simp<;>omega)|fail) [wr3, subM_onF, hkT, freshV, numberV]
   rintro ⟨j, hj⟩
   simp (disch := first|omega|(simp<;>omega)|fail) [wr3, subM_onF]
   refine HT.seq ?_;refine HT.region ?_;simp (disch := first|omega|(simp<;>omega)|fail) [wr3, subM_onF]
   refine HT.seq ?_;refine HT.cond' ?_;simp (disch := first|omega|(simp<;>omega)|fail) [wr3, subM_onF]
   refine ⟨fun h83 => ?_, fun h83 => ?_⟩
   ·have hj' : j < now.length := by omega
    have hfs := fresh_step l now hj'
    have hfl := fresh_le l now j
    have hkb := hnk _ (List.mem_map.2 ⟨_, List.getElem_mem hj', rfl⟩)
    have hko : keyH Tryz.prog 10 63 [.str now[j].repo, .str now[j].path, .str now[j].text] = some [.string now[j].repo, .string now[j].path, .string now[j].text] := key85 hkb
    refine HT.skip ?_;simp (disch := first|omega|(simp<;>omega)|fail) [wr3, subM_onF]
    refine HT.seq ?_;refine HT.block ?_;refine HT.seq ?_;refine HT.region ?_;simp (disch := first|omega|(simp<;>omega)|fail) [wr3, subM_onF]
    refine HT.seq ?_
    by_cases c3 : keyV now[j] ∈ l.map keyV
    ·have hf3 : findHV Tryz.prog 63 (.agg [.str now[j].repo, .str now[j].path, .str now[j].text]) (seenE (l.map keyV)) 0 = some (some ((l.map keyV).idxOf (keyV now[j]), bo true)) := (find_seen0 (c := keyV now[j]) hkb hlk).trans (by rw [if_pos c3])
     rw [if_pos c3, List.append_nil] at hfs
     refine HT.region ?_;simp (disch := first|omega|(simp<;>omega)|fail) [wr3, subM_onF, hf3, hko]
     refine stepK.mk (.call1f _ _ _ _ _ rfl Ty.hb40 rfl rfl (key_spec now[j]) rfl) ?_
     simp (disch := first|omega|(simp<;>omega)|fail) [wr3, subM_onF, hf3, hko]
     refine HT.cond' ?_;simp (disch := first|omega|(simp<;>omega)|fail) [wr3, subM_onF]
     refine HT.skip ?_;simp (disch := first|omega|(simp<;>omega)|fail) [wr3, subM_onF]
     refine HT.region ?_;simp (disch := first|omega|(simp<;>omega)|fail) [wr3, subM_onF]
     refine Round.mk' (⟨j + 1, by omega⟩) (by dsimp only; omega) rfl ?_
     simp (disch := first|omega|(simp<;>omega)|fail) [wr3, subM_onF, hfs, numberV_append, numberV]
     all_goals omega
    have hf3 : findHV Tryz.prog 63 (.agg [.str now[j].repo, .str now[j].path, .str now[j].text]) (seenE (l.map keyV)) 0 = some none := (find_seen0 (c := keyV now[j]) hkb hlk).trans (by rw [if_neg c3])
    rw [if_neg c3] at hfs
    refine HT.region ?_;simp (disch := first|omega|(simp<;>omega)|fail) [wr3, subM_onF, hf3, hko]
    refine stepK.mk (.call1f _ _ _ _ _ rfl Ty.hb40 rfl rfl (key_spec now[j]) rfl) ?_
    simp (disch := first|omega|(simp<;>omega)|fail) [wr3, subM_onF, hf3, hko]
    refine HT.cond' ?_;simp (disch := first|omega|(simp<;>omega)|fail) [wr3, subM_onF]
    refine HT.seq ?_;refine HT.region ?_;simp (disch := first|omega|(simp<;>omega)|fail) [wr3, subM_onF]
    refine HT.seq ?_;refine HT.region ?_;simp (disch := first|omega|(simp<;>omega)|fail) [wr3, subM_onF]
    refine HT.region ?_;simp (disch := first|omega|(simp<;>omega)|fail) [wr3, subM_onF]
    refine HT.region ?_;simp (disch := first|omega|(simp<;>omega)|fail) [wr3, subM_onF]
    refine Round.mk' (⟨j + 1, by omega⟩) (by dsimp only; omega) rfl ?_
    simp (disch := first|omega|(simp<;>omega)|fail) [wr3, subM_onF, hfs, numberV_append, numberV]
    all_goals omega
   ·obtain rfl : j = now.length := by omega
    refine HT.exit ?_
    simp (disch := first|omega|(simp<;>omega)|fail) [wr3, subM_onF]
    refine HT.weaken (HS.le_frzref (id := 301) (xr := .sl 5 false (docsHV (numberV (freshV l now) next))) (xm := .any) (by simp)) ?_
    refine HT.weaken (HS.le_frzref (id := 302) (xr := .sl 1 false (intsHV ((l.filter (goneV r.name now)).map Doc.id))) (xm := .any) (by simp)) ?_
    refine HT.weaken (HS.le_frzref (id := 303) (xr := .sl 5 false (docsHV (l.filterMap (movedV r.name now)))) (xm := .any) (by simp)) ?_
    refine HT.seq ?_;refine HT.region ?_;simp (disch := first|omega|(simp<;>omega)|fail) [wr3, subM_onF]
    refine HT.ret ?_;simp (disch := first|omega|(simp<;>omega)|fail) [wr3, subM_onF, hcv]
end Go.Hv
set_option linter.unusedVariables false
set_option linter.unusedSimpArgs false
/- The change of a table: the reference (layer 28). -/
namespace Go.Hv
open Go Go.Hv Go.Proofs Go.RowKit
open Go.Proofs.YtcmomegkhoggpaaGreatDoor
theorem likeI_out {l : List Doc} {q : KeyT} (h : q ∉ l.map keyV) : likeI l q = -1 := by
 unfold likeI
 rw [List.findIdx?_eq_none_iff.2 fun x hx => ?_]
 simp only [decide_eq_false_iff_not]
 exact fun e => h (List.mem_map.2 ⟨x, hx, e⟩)
theorem likeI_in {l : List Doc} (hn : (l.map keyV).Nodup) {q : KeyT} (h : q ∈ l.map keyV) : ∃ (i : Nat) (hi : i < l.length), likeI l q = i ∧ keyV l[i] = q ∧ l[i].on = onK l q := by
 obtain ⟨d, hd, rfl⟩ := List.mem_map.1 h
 obtain ⟨i, hi, rfl⟩ := List.mem_iff_getElem.1 hd
 refine ⟨i, hi, ?_, rfl, (onK_at hn hi).symm⟩
 unfold likeI
 rw [List.findIdx?_eq_some_iff_getElem.2 ⟨hi, by simp, fun j hj => ?_⟩]
 have : keyV l[j] ≠ keyV l[i] := fun e => by
  have := (List.getElem_inj (i := j) (j := i) (h₀ := by simp; omega) (h₁ := by simp; omega) hn).1 (by simpa using e)
  omega
 simpa using this
end Go.Hv
set_option linter.unusedVariables false
set_option linter.unusedSimpArgs false
/- What a repository has on a branch, and the examples of the chapter (layer 28). -/
namespace Go.Hv
open Go Go.Hv Go.Proofs Go.RowKit
open Go.Proofs.YtcmomegkhoggpaaGreatDoor
/-! ### The examples -/
def exR (a b : Int) : Repo := ⟨[114], ⟨3, [⟨1, [120]⟩, ⟨2, [121]⟩]⟩, [⟨1, [], [⟨[102], a⟩], 0, 0⟩, ⟨2, [], [⟨[102], b⟩], 0, 0⟩], [⟨[100, 101, 118], 1⟩, ⟨[109, 97, 105, 110], 2⟩]⟩
theorem exC_le (a b : Int) (y z : Nat) : HLe (.sl 5 true [[i64 1, .sl y true [], .sl 2 true [[.str [102], i64 a]], i64 0, i64 0], [i64 2, .sl z true [], .sl 2 true [[.str [102], i64 b]], i64 0, i64 0]]) (.sl 5 false (cmsHV (exR a b).commits)) := by
 refine HLe.trans (HLe.sl (f := true) (es' := cmsHV (exR a b).commits) rfl (fun i x x' h h' => ?_)) (HLe.full _ _)
 match i with
 | 0 =>
  obtain rfl := Option.some.inj h
  obtain rfl := Option.some.inj h'
  exact ⟨HLe.refl _, HLe.nilf _ _ _, HLe.full _ _, HLe.refl _, HLe.refl _, trivial⟩
 | 1 =>
  obtain rfl := Option.some.inj h
  obtain rfl := Option.some.inj h'
  exact ⟨HLe.refl _, HLe.nilf _ _ _, HLe.full _ _, HLe.refl _, HLe.refl _, trivial⟩
 | i + 2 => simp at h
theorem exR_le (a b : Int) (y z : Nat) : HLe (.agg [.str [114], i64 3, .sl 2 true [[i64 1, .str [120]], [i64 2, .str [121]]], .sl 5 true [[i64 1, .sl y true [], .sl 2 true [[.str [102], i64 a]], i64 0, i64 0], [i64 2, .sl z true [], .sl 2 true [[.str [102], i64 b]], i64 0, i64 0]], .sl 2 true [[.str [100, 101, 118], i64 1], [.str [109, 97, 105, 110], i64 2]]]) (.agg (exR a b).enc) :=
 HLe.agg (HLeL.cons (HLe.refl _) (HLeL.cons (HLe.refl _) (HLeL.cons (HLe.full _ _) (HLeL.cons (exC_le a b y z) (HLeL.cons (HLe.full _ _) HLeL.nil)))))
set_option maxRecDepth 20000 in
set_option maxHeartbeats 4000000 in
theorem two_spec (a b : Int) : Spec1 Tryz.prog 37 [i64 a, i64 b] (.agg [.str [114], i64 3, .sl 2 true [[i64 1, .str [120]], [i64 2, .str [121]]], .sl 5 true [[i64 1, .sl 0 true [], .sl 2 true [[.str [102], i64 a]], i64 0, i64 0], [i64 2, .sl 0 true [], .sl 2 true [[.str [102], i64 b]], i64 0, i64 0]], .sl 2 true [[.str [100, 101, 118], i64 1], [.str [109, 97, 105, 110], i64 2]]]) := by
 refine Spec1.of_HT Tryz.func37 rfl (by rw [Tryz.ntmps37]; simp) rfl ?_
 rw [Tryz.ntmps37]
 refine HT.seq ?_;refine HT.region ?_;simp (disch := first|omega|(simp<;>omega)|fail) [wr3]
 refine HT.seq ?_;refine HT.region ?_;simp (disch := first|omega|(simp<;>omega)|fail) [wr3]
 refine HT.seq ?_;refine HT.region ?_;simp (disch := first|omega|(simp<;>omega)|fail) [wr3]
 refine HT.seq ?_;refine HT.region ?_;simp (disch := first|omega|(simp<;>omega)|fail) [wr3]
 refine HT.ret ?_;simp (disch := first|omega|(simp<;>omega)|fail) [wr3]
theorem Spec1.res {P : Program} {f : FuncId} {l : List HV} {x y : HV} (h : HLe x y) (s : Spec1 P f l x) : Spec1 P f l y := fun D w vs hD hG hn hrep =>
 (s D w vs hD hG hn hrep).mono fun e w' ⟨v, h1, h2, h3⟩ => ⟨v, h1, h2, h _ _ _ h3⟩
theorem two_of (a b : Int) : Spec1 Tryz.prog 37 [i64 a, i64 b] (.agg (exR a b).enc) := (two_spec a b).res (exR_le a b 0 0)
def dD (i : Int) (t : List UInt8) (on : List (List UInt8)) : Doc := ⟨i, [114], [102], t, on⟩
def sDev : List UInt8 := [100, 101, 118]
def sMain : List UInt8 := [109, 97, 105, 110]
def exO : List Doc := [dD 0 [120] [sDev, sMain]]
def exT : List Doc := [dD 5 [120] [sDev, sMain]]
def exA : Delta := ⟨exT, [], []⟩
def exB : Delta := ⟨[dD 6 [121] [sDev]], [], [⟨5, [], [], [], [sMain]⟩]⟩
def exU : List Doc := [dD 5 [120] [sMain], dD 6 [121] [sDev]]
def exV : Delta := ⟨[], [5], [⟨6, [], [], [], [sDev, sMain]⟩]⟩
theorem ex11 : rightR (exR 1 1) = 0 := by decide +kernel
theorem ex21 : rightR (exR 2 1) = 0 := by decide +kernel
theorem ex22 : rightR (exR 2 2) = 0 := by decide +kernel
theorem exOf : ofR (exR 1 1) = exO := by decide +kernel
theorem exAc : changeV [] (exR 1 1) 5 = exA := by decide +kernel
theorem exBc : changeV exT (exR 2 1) 6 = exB := by decide +kernel
theorem exVc : changeV exU (exR 2 2) 7 = exV := by decide +kernel
theorem exAa : applyD [] exA = (exT, 0) := by decide +kernel
theorem exBa : applyD exT exB = (exU, 0) := by decide +kernel
theorem exNa : applyD exT ⟨[], [6], []⟩ = ([], 8) := by decide +kernel
theorem exTa : applyD exT ⟨exT, [], []⟩ = ([], 2) := by decide +kernel
theorem exF (a b : Int) : RepoF 140737488355328 (exR a b) := by
 constructor <;> simp [exR, CommitF]
theorem strs_ft (a b : List (List UInt8)) (ha : a.length ≤ 140737488355328) : Spec1 Tryz.prog 33 [.sl 1 false (strsHV a), .sl 1 true (strsHV b)] (bo (decide (a = b))) :=
 (Strings_spec a b ha).args (HLeL.cons (HLe.refl _) (HLeL.cons (HLe.full _ _) HLeL.nil))
theorem ints_ft (a b : List Int) (ha : a.length ≤ 140737488355328) : Spec1 Tryz.prog 38 [.sl 1 false (intsHV a), .sl 1 true (intsHV b)] (bo (decide (a = b))) :=
 Ints_spec false true a b ha
theorem exO_spec : Spec1 Tryz.prog 16 [.agg (exR 1 1).enc] (.sl 5 false (docsHV exO)) := by
 have h := Of_spec (exR 1 1) (okR ex11) (exF 1 1)
 rwa [exOf] at h
theorem exA_spec : Spec1 Tryz.prog 19 [.sl 0 true [], .agg (exR 1 1).enc, i64 5] (.agg exA.enc) := by
 have h := (Change_spec [] (exR 1 1) 5 (okR ex11) (exF 1 1) (by simp) (by simp) (by simp) (by omega) (by omega)).args (l := [.sl 0 true [], .agg (exR 1 1).enc, i64 5]) (HLeL.cons (HLe.nilf _ _ _) (HLeL.cons (HLe.refl _) (HLeL.cons (HLe.refl _) HLeL.nil)))
 rwa [exAc] at h
theorem exT_Q : ∀ d ∈ exT, DocQ d := by simp [exT, dD, DocQ, sDev, sMain]
theorem exU_Q : ∀ d ∈ exU, DocQ d := by simp [exU, dD, DocQ, sDev, sMain]
theorem exB_spec : Spec1 Tryz.prog 19 [.sl 5 false (docsHV exT), .agg (exR 2 1).enc, i64 6] (.agg exB.enc) := by
 have h := Change_spec exT (exR 2 1) 6 (okR ex21) (exF 2 1) (by simp [exT]) exT_Q (by simp [exT]) (by omega) (by omega)
 rwa [exBc] at h
theorem exV_spec : Spec1 Tryz.prog 19 [.sl 5 false (docsHV exU), .agg (exR 2 2).enc, i64 7] (.agg exV.enc) := by
 have h := Change_spec exU (exR 2 2) 7 (okR ex22) (exF 2 2) (by simp [exU]) exU_Q (by decide) (by omega) (by omega)
 rwa [exVc] at h
theorem exA2_spec : SpecT Tryz.prog 21 [.sl 0 true [], .agg exA.enc] [.sl 5 false (docsHV exT), i64 0] := by
 have h := (dApply_spec [] exA ⟨by simp, by simp, by simp [exA, exT], exT_Q, by simp [exA], by simp [exA], by simp [exA]⟩).args (l := [.sl 0 true [], .agg exA.enc]) (HLeL.cons (HLe.nilf _ _ _) (HLeL.cons (HLe.refl _) HLeL.nil))
 rwa [exAa] at h
theorem exB2_spec : SpecT Tryz.prog 21 [.sl 5 false (docsHV exT), .agg exB.enc] [.sl 5 false (docsHV exU), i64 0] := by
 have h := dApply_spec exT exB ⟨by simp [exT], exT_Q, by simp [exB], by simp [exB, dD, DocQ, sDev], by simp [exB], by simp [exB], by simp [exB, DocQ, sMain]⟩
 rwa [exBa] at h
theorem exN_spec (y z : Nat) : SpecT Tryz.prog 21 [.sl 5 false (docsHV exT), .agg [.sl y true [], .sl 1 true [[i64 6]], .sl z true []]] [.sl 5 false (docsHV []), i64 8] := by
 have h := (dApply_spec exT ⟨[], [6], []⟩ ⟨by simp [exT], exT_Q, by simp, by simp, by simp, by simp, by simp⟩).args (l := [.sl 5 false (docsHV exT), .agg [.sl y true [], .sl 1 true [[i64 6]], .sl z true []]]) (HLeL.cons (HLe.refl _) (HLeL.cons (HLe.agg (HLeL.cons (HLe.nilf _ _ _) (HLeL.cons (HLe.full _ _) (HLeL.cons (HLe.nilf _ _ _) HLeL.nil)))) HLeL.nil))
 rwa [exNa] at h
theorem exW_spec (y z : Nat) : SpecT Tryz.prog 21 [.sl 5 false (docsHV exT), .agg [.sl 5 false (docsHV exT), .sl y true [], .sl z true []]] [.sl 5 false (docsHV []), i64 2] := by
 have h := (dApply_spec exT ⟨exT, [], []⟩ ⟨by simp [exT], exT_Q, by simp [exT], exT_Q, by simp, by simp, by simp⟩).args (l := [.sl 5 false (docsHV exT), .agg [.sl 5 false (docsHV exT), .sl y true [], .sl z true []]]) (HLeL.cons (HLe.refl _) (HLeL.cons (HLe.agg (HLeL.cons (HLe.refl _) (HLeL.cons (HLe.nilf _ _ _) (HLeL.cons (HLe.nilf _ _ _) HLeL.nil)))) HLeL.nil))
 rwa [exTa] at h
theorem exOn : onB exU [114] sDev = [dD 6 [121] [sDev]] := by decide
theorem exGet : getDV exU 6 = dD 6 [121] [sDev] := by decide
theorem exGetS : (getD' exU 6).isSome = true := by decide
theorem exOn_spec : Spec1 Tryz.prog 26 [.sl 5 false (docsHV exU), .str [114], .str [100, 101, 118]] (.sl 5 false (docsHV [dD 6 [121] [sDev]])) := by
 have h := dOn_spec exU [114] sDev (by decide) exU_Q
 rwa [exOn] at h
theorem exGet_spec : SpecT Tryz.prog 23 [.sl 5 false (docsHV exU), i64 6] [.agg (dD 6 [121] [sDev]).enc, bo true] := by
 have h := dGet_spec exU 6 (by decide)
 rwa [exGet, exGetS] at h
theorem exRt : rightV exU = 0 := by decide +kernel
theorem exRt_spec : Spec1 Tryz.prog 11 [.sl 5 false (docsHV exU)] (i64 0) := by
 have h := Right_spec exU ⟨by decide, fun d hd => exU_Q d hd⟩
 rwa [exRt] at h
theorem exS1_spec : Spec1 Tryz.prog 13 [.sl 5 false (docsHV exU), .sl 5 false (docsHV exU)] (bo true) := by
 have h := dSame_spec exU exU (by decide) exU_Q exU_Q
 rwa [decide_eq_true rfl] at h
theorem exS2_spec : Spec1 Tryz.prog 13 [.sl 5 false (docsHV exT), .sl 5 false (docsHV exU)] (bo false) := by
 have h := dSame_spec exT exU (by decide) exT_Q exU_Q
 rwa [decide_eq_false (by decide)] at h
set_option maxRecDepth 20000 in
set_option maxHeartbeats 8000000 in
theorem alive_spec  : Spec1 Tryz.prog 10 [] (bo true) := by
 refine Spec1.of_HT Tryz.func10 rfl (by rw [Tryz.ntmps10]; simp) rfl ?_
 rw [Tryz.ntmps10]
 refine HT.seq ?_;refine HT.region ?_;simp (disch := first|omega|(simp<;>omega)|fail) [wr3]
 refine HT.seq ?_;refine HT.region ?_;simp (disch := first|omega|(simp<;>omega)|fail) [wr3]
 refine stepK.mk (.call1f _ _ _ _ _ rfl Ty.hb37 rfl rfl (two_of 1 1) rfl) ?_
 simp (disch := first|omega|(simp<;>omega)|fail) [wr3]
 refine stepK.mk (.call1f _ _ _ _ _ rfl Ty.hb16 rfl rfl (exO_spec) rfl) ?_
 simp (disch := first|omega|(simp<;>omega)|fail) [wr3]
 refine HT.seq ?_;refine HT.seq ?_;refine HT.region ?_;simp (disch := first|omega|(simp<;>omega)|fail) [wr3, exO, dD]
 refine stepK.mk (.call1f _ _ _ _ _ rfl Ty.hb33 rfl rfl (strs_ft [sDev, sMain] [sDev, sMain] (by decide)) rfl) ?_
 simp (disch := first|omega|(simp<;>omega)|fail) [wr3, exO, dD]
 refine HT.cond' ?_;simp (disch := first|omega|(simp<;>omega)|fail) [wr3]
 refine HT.skip ?_;simp (disch := first|omega|(simp<;>omega)|fail) [wr3]
 refine HT.seq ?_;refine HT.region ?_;simp (disch := first|omega|(simp<;>omega)|fail) [wr3]
 refine stepK.mk (.call1f _ _ _ _ _ rfl Ty.hb37 rfl rfl (two_of 1 1) rfl) ?_
 simp (disch := first|omega|(simp<;>omega)|fail) [wr3]
 refine stepK.mk (.call1f _ _ _ _ _ rfl Ty.hb19 rfl rfl (exA_spec) rfl) ?_
 simp (disch := first|omega|(simp<;>omega)|fail) [wr3]
 refine HT.seq ?_;refine HT.region ?_;simp (disch := first|omega|(simp<;>omega)|fail) [wr3]
 refine stepK.mk (.callTf _ _ _ _ _ rfl Ty.hb21 rfl rfl (exA2_spec) rfl) ?_
 simp (disch := first|omega|(simp<;>omega)|fail) [wr3]
 refine HT.seq ?_;refine HT.seq ?_;refine HT.region ?_;simp (disch := first|omega|(simp<;>omega)|fail) [wr3, exT, dD]
 refine HT.cond' ?_;simp (disch := first|omega|(simp<;>omega)|fail) [wr3]
 refine HT.skip ?_;simp (disch := first|omega|(simp<;>omega)|fail) [wr3]
 refine HT.seq ?_;refine HT.region ?_;simp (disch := first|omega|(simp<;>omega)|fail) [wr3]
 refine stepK.mk (.call1f _ _ _ _ _ rfl Ty.hb37 rfl rfl (two_of 2 1) rfl) ?_
 simp (disch := first|omega|(simp<;>omega)|fail) [wr3]
 refine stepK.mk (.call1f _ _ _ _ _ rfl Ty.hb19 rfl rfl (exB_spec) rfl) ?_
 simp (disch := first|omega|(simp<;>omega)|fail) [wr3]
 refine HT.seq ?_;refine HT.seq ?_;refine HT.region ?_;simp (disch := first|omega|(simp<;>omega)|fail) [wr3, exB, exT, dD]
 refine stepK.mk (.call1f _ _ _ _ _ rfl Ty.hb33 rfl rfl (strs_ft [sMain] [sMain] (by decide)) rfl) ?_
 simp (disch := first|omega|(simp<;>omega)|fail) [wr3, exB, exT, dD]
 refine HT.cond' ?_;simp (disch := first|omega|(simp<;>omega)|fail) [wr3]
 refine HT.skip ?_;simp (disch := first|omega|(simp<;>omega)|fail) [wr3]
 refine HT.seq ?_;refine HT.region ?_;simp (disch := first|omega|(simp<;>omega)|fail) [wr3]
 refine stepK.mk (.callTf _ _ _ _ _ rfl Ty.hb21 rfl rfl (exB2_spec) rfl) ?_
 simp (disch := first|omega|(simp<;>omega)|fail) [wr3]
 refine HT.seq ?_;refine HT.region ?_;simp (disch := first|omega|(simp<;>omega)|fail) [wr3]
 refine stepK.mk (.call1f _ _ _ _ _ rfl Ty.hb37 rfl rfl (two_of 2 2) rfl) ?_
 simp (disch := first|omega|(simp<;>omega)|fail) [wr3]
 refine stepK.mk (.call1f _ _ _ _ _ rfl Ty.hb19 rfl rfl (exV_spec) rfl) ?_
 simp (disch := first|omega|(simp<;>omega)|fail) [wr3]
 refine HT.seq ?_;refine HT.region ?_;simp (disch := first|omega|(simp<;>omega)|fail) [wr3]
 refine stepK.mk (.callTf _ _ _ _ _ rfl Ty.hb21 rfl rfl (exN_spec _ _) rfl) ?_
 simp (disch := first|omega|(simp<;>omega)|fail) [wr3]
 refine HT.seq ?_;refine HT.region ?_;simp (disch := first|omega|(simp<;>omega)|fail) [wr3]
 refine stepK.mk (.callTf _ _ _ _ _ rfl Ty.hb21 rfl rfl (exW_spec _ _) rfl) ?_
 simp (disch := first|omega|(simp<;>omega)|fail) [wr3]
 refine HT.seq ?_;refine HT.seq ?_;refine HT.region ?_;simp (disch := first|omega|(simp<;>omega)|fail) [wr3, exV, exU, exT, dD]
 refine stepK.mk (.call1f _ _ _ _ _ rfl Ty.hb26 rfl rfl (exOn_spec) rfl) ?_
 simp (disch := first|omega|(simp<;>omega)|fail) [wr3, exV, exU, exT, dD]
 refine stepK.mk (.call1f _ _ _ _ _ rfl Ty.hb38 rfl rfl (ints_ft [5] [5] (by decide)) rfl) ?_
 simp (disch := first|omega|(simp<;>omega)|fail) [wr3, exV, exU, exT, dD]
 refine HT.cond' ?_;simp (disch := first|omega|(simp<;>omega)|fail) [wr3]
 refine HT.skip ?_;simp (disch := first|omega|(simp<;>omega)|fail) [wr3]
 refine HT.seq ?_;refine HT.region ?_;simp (disch := first|omega|(simp<;>omega)|fail) [wr3]
 refine stepK.mk (.callTf _ _ _ _ _ rfl Ty.hb23 rfl rfl (exGet_spec) rfl) ?_
 simp (disch := first|omega|(simp<;>omega)|fail) [wr3]
 refine HT.seq ?_;refine HT.region ?_;simp (disch := first|omega|(simp<;>omega)|fail) [wr3, exU, exT, dD]
 refine stepK.mk (.call1f _ _ _ _ _ rfl Ty.hb29 rfl rfl (dKeys_spec exU (by decide)) rfl) ?_
 simp (disch := first|omega|(simp<;>omega)|fail) [wr3, exU, exT, dD]
 refine stepK.mk (.call1f _ _ _ _ _ rfl Ty.hb29 rfl rfl (dKeys_spec exU (by decide)) rfl) ?_
 simp (disch := first|omega|(simp<;>omega)|fail) [wr3, exU, exT, dD]
 refine stepK.mk (.call1f _ _ _ _ _ rfl Ty.hb13 rfl rfl (exS1_spec) rfl) ?_
 simp (disch := first|omega|(simp<;>omega)|fail) [wr3, exU, exT, dD]
 refine stepK.mk (.call1f _ _ _ _ _ rfl Ty.hb13 rfl rfl (exS2_spec) rfl) ?_
 simp (disch := first|omega|(simp<;>omega)|fail) [wr3, exU, exT, dD]
 refine stepK.mk (.call1f _ _ _ _ _ rfl Ty.hb11 rfl rfl (exRt_spec) rfl) ?_
 simp (disch := first|omega|(simp<;>omega)|fail) [wr3, exU, exT, dD]
 refine HT.ret ?_;simp (disch := first|omega|(simp<;>omega)|fail) [wr3]
end Go.Hv
set_option linter.unusedVariables false
set_option linter.unusedSimpArgs false
/- The laws of layer 28 but the last two. -/
namespace Go.Hv
open Go Go.Hv Go.Proofs Go.RowKit
open Go.Proofs.YtcmomegkhoggpaaGreatDoor
theorem right_len {l : List Doc} (h : rightV l = 0) : l.length ≤ 64 := ((rightV_zero l).1 h).1
theorem right_keys {l : List Doc} (h : rightV l = 0) : (l.map keyV).Nodup := ((rightV_zero l).1 h).2.2.2.2
theorem changeV_Q {l : List Doc} {r : Repo} {next : Int} (h : OkR r) (hll : l.length ≤ 64) :
  ((changeV l r next).new.length ≤ 288 ∧ (changeV l r next).dead.length ≤ 64 ∧ (changeV l r next).moved.length ≤ 64) ∧ (∀ d ∈ (changeV l r next).new, DocQ d) ∧ ∀ d ∈ (changeV l r next).moved, DocQ d := by
 have hB := ofR_B h
 refine ⟨⟨?_, ?_, ?_⟩, fun d hd => ?_, fun d hd => ?_⟩
 ·show (numberV _ _).length ≤ _
  rw [numberV_length]
  exact Nat.le_trans (List.length_filter_le _ _) hB.1
 ·show (List.map _ (List.filter _ _)).length ≤ _
  rw [List.length_map]
  exact Nat.le_trans (List.length_filter_le _ _) hll
 ·exact Nat.le_trans (List.length_filterMap_le _ _) hll
 ·obtain ⟨x, hx, e, _⟩ := numberV_mem hd
  have hq := (hB.2 x (List.mem_filter.1 hx).1).1
  rw [e]; exact hq
 ·obtain ⟨x, hx, hm⟩ := List.mem_filterMap.1 hd
  unfold movedV at hm
  split at hm
  ·split at hm
   ·cases hm
   ·next y hf =>
    split at hm
    ·cases hm
    ·obtain rfl := Option.some.inj hm
     have hq := (hB.2 y (findD_some hf).1).1
     exact ⟨by simp, by simp, by simp, hq.2.2.2⟩
  ·cases hm
theorem getDV_Q {l : List Doc} (hl : ∀ d ∈ l, DocQ d) (i : Int) : DocQ (getDV l i) := by
 unfold getDV
 cases h : getD' l i with
 | none => simp [DocQ, zeroD]
 | some x => exact hl x (List.mem_of_find?_eq_some h)
end Go.Hv
set_option linter.unusedVariables false
set_option linter.unusedSimpArgs false
/- What is the case after a change was applied. -/
namespace Go.Hv
open Go Go.Hv Go.Proofs Go.RowKit
open Go.Proofs.YtcmomegkhoggpaaGreatDoor
structure Aft (l : List Doc) (r : Repo) (next : Int) (t : List Doc) : Prop where
 len : t.length = (l.length - countV l r.name) + (ofR r).length
 cnt : countV t r.name = (ofR r).length
 right : rightV t = 0
 Q : ∀ d ∈ t, DocQ d
 on : ∀ x ∈ ofR r, ∃ (k : Nat) (hk : k < t.length), likeI t (keyV x) = k ∧ t[k].on = x.on
 other : ∀ d ∈ l, d.repo ≠ r.name → getD' t d.id = some d
 own : ∀ d ∈ l, d.repo = r.name → (∃ x, getD' t d.id = some x ∧ keyV x = keyV d ∧ keyV d ∈ (ofR r).map keyV) ∨ (getD' t d.id = none ∧ keyV d ∉ (ofR r).map keyV)
 again : changeV t r next = ⟨[], [], []⟩
theorem fol_of {l : List Doc} {r : Repo} {next : Int} (c1 : rightV l = 0) (c2 : rightR r = 0) (c3 : ¬ next < 1) (c4 : ¬ 9999 < next) (h : ∀ (h : 0 < l.length), (l[l.length - 1]'(by omega)).id < next) : Fol l r next :=
 ⟨c1, okR c2, by omega, by omega, fun d hd => by
  obtain ⟨i, hi, rfl⟩ := List.mem_iff_getElem.1 hd
  have h1 := h (by omega)
  rcases Nat.lt_or_ge i (l.length - 1) with hlt | hge
  ·have := List.pairwise_iff_getElem.1 (right_inc c1) i (l.length - 1) hi (by omega) hlt
   omega
  ·have : i = l.length - 1 := by omega
   subst this; exact h1⟩
theorem aft {l : List Doc} {r : Repo} {next : Int} (h : Fol l r next) (hl : ∀ d ∈ l, DocQ d) (h1 : (l.length - countV l r.name) + (ofR r).length ≤ 64) (h2 : ((changeV l r next).new.length : Int) ≤ 10000 - next) :
  applyD l (changeV l r next) = (followV l r next, 0) ∧ Aft l r next (followV l r next) := by
 have hz := (follow_right h).2 ⟨h1, h2⟩
 have ha := follow_apply h
 rw [if_neg (by simp [hz])] at ha
 have hB := ofR_B h.rep
 have hk := right_keys hz
 refine ⟨ha, follow_len h, follow_count h, hz, fun d hd => ?_, fun x hx => ?_, fun d hd hn => ?_, fun d hd hn => ?_, follow_again h next⟩
 ·rcases follow_mem h hd with ⟨y, hy, _, rfl⟩ | ⟨x, hx, _, e, _⟩
  ·have hq := hl y hy
   unfold updD
   split
   ·cases hf : findD (ofR r) (keyV y) with
    | none => exact hq
    | some x =>
     have hx := (hB.2 x (findD_some hf).1).1
     exact ⟨hq.1, hq.2.1, hq.2.2.1, hx.2.2.2⟩
   ·exact hq
  ·rw [e]; exact (hB.2 x hx).1
 ·obtain ⟨y, hy, e⟩ := follow_has h hx
  obtain ⟨i, hi, g1, g2, g3⟩ := likeI_in hk (q := keyV x) (List.mem_map.2 ⟨y, hy, e⟩)
  exact ⟨i, hi, g1, follow_on h hx (List.getElem_mem hi) g2⟩
 ·rw [follow_get h hd, if_pos (keep_iff.2 (.inl hn)), updD_other hn]
 ·by_cases hm : keyV d ∈ (ofR r).map keyV
  ·refine .inl ⟨updD r.name (ofR r) d, ?_, updD_key _ _ _, hm⟩
   obtain ⟨x, hx, e⟩ := List.mem_map.1 hm
   rw [follow_get h hd, if_pos (keep_iff.2 (.inr ⟨x, hx, e⟩))]
  ·refine .inr ⟨?_, hm⟩
   rw [follow_get h hd, if_neg]
   rw [keep_iff]
   rintro (h3 | ⟨x, hx, e⟩)
   ·exact h3 hn
   ·exact hm (List.mem_map.2 ⟨x, hx, e⟩)
theorem follow_no {l : List Doc} {r : Repo} {next : Int} (h : Fol l r next) (hc : 64 < (l.length : Int) - (countV l r.name : Int) + ((ofR r).length : Int) ∨ 10000 - next < ((changeV l r next).new.length : Int)) : ((applyD l (changeV l r next)).2 = 0) = False := by
 apply eq_false
 have hz : rightV (followV l r next) ≠ 0 := fun e => by
  have := (follow_right h).1 e
  have := count_le l r.name
  omega
 rw [follow_apply h, if_pos hz]
 exact hz
theorem own_in {l : List Doc} {r : Repo} {next : Int} {t : List Doc} (h : Aft l r next t) {d : Doc} (hd : d ∈ l) (h1 : d.repo = r.name) (h2 : keyV d ∈ (ofR r).map keyV) : (getD' t d.id).isSome = true ∧ (keyV (getDV t d.id) = keyV d) = True ∧ (0 ≤ likeI (ofR r) (keyV d)) = True := by
 rcases h.own d hd h1 with ⟨x, e, k, _⟩ | ⟨_, k⟩
 ·refine ⟨by rw [e]; rfl, eq_true ?_, eq_true ?_⟩
  ·unfold getDV; rw [e]; exact k
  ·obtain ⟨i, hi, g, _⟩ := likeI_in (ofR_nodup r) h2
   rw [g]; omega
 ·exact absurd h2 k
theorem own_out {l : List Doc} {r : Repo} {next : Int} {t : List Doc} (h : Aft l r next t) {d : Doc} (hd : d ∈ l) (h1 : d.repo = r.name) (h2 : keyV d ∉ (ofR r).map keyV) : (getD' t d.id).isSome = false ∧ likeI (ofR r) (keyV d) = -1 := by
 rcases h.own d hd h1 with ⟨x, e, k, k2⟩ | ⟨e, k⟩
 ·exact absurd k2 h2
 ·exact ⟨by rw [e]; rfl, likeI_out h2⟩
theorem other_in {l : List Doc} {r : Repo} {next : Int} {t : List Doc} (h : Aft l r next t) {d : Doc} (hd : d ∈ l) (h1 : ¬ d.repo = r.name) : (getD' t d.id).isSome = true ∧ (getDV t d.id = d) = True := by
 have e := h.other d hd h1
 exact ⟨by rw [e]; rfl, eq_true (by unfold getDV; rw [e]; rfl)⟩
set_option maxRecDepth 20000 in
set_option maxHeartbeats 16000000 in
theorem follow_law (l : List Doc) (r : Repo) (next : Int) (gl : l.length ≤ 140737488355328 ∧ ∀ d ∈ l, DocQ d) (hr : RepoF 140737488355328 r) : Spec1 Tryz.prog 8 [.sl 5 false (docsHV l), .agg r.enc, i64 next] (bo true) := by
 refine Spec1.of_HT Tryz.func8 rfl (by rw [Tryz.ntmps8]; simp) rfl ?_
 rw [Tryz.ntmps8]
 refine HT.seq ?_;refine HT.region ?_;simp (disch := first|omega|(simp<;>omega)|fail) [wr3]
 refine HT.seq ?_;refine HT.seq ?_;refine HT.region ?_;simp (disch := first|omega|(simp<;>omega)|fail) [wr3]
 refine stepK.mk (.call1f _ _ _ _ _ rfl Ty.hb10 rfl rfl (alive_spec) rfl) ?_
 simp (disch := first|omega|(simp<;>omega)|fail) [wr3]
 refine HT.cond' ?_;simp (disch := first|omega|(simp<;>omega)|fail) [wr3]
 refine HT.skip ?_;simp (disch := first|omega|(simp<;>omega)|fail) [wr3]
 refine HT.joinX (fun p : {u : Unit // Fol l r next} => []) [0, 2, 4, 77, 78, 79, 80, 81, 82, 89, 90, 91, 92, 93, 94, 95, 98, 99, 100, 101, 102, 103, 104, 121, 122, 123, 124, 125, 126, 127, 128, 129, 130, 131, 132, 159, 160, 161, 162, 163, 164, 165, 166, 167, 168, 169, 180, 181, 182, 183, 184, 185, 186, 187, 188, 191, 192, 193, 194, 195, 196, 197, 198, 199, 200, 201, 202, 203, 204, 205, 206, 207, 208, 209, 210, 211, 222, 223, 224, 225, 228, 229, 230, 231] [4] ?_ ?_
 ·refine HT.seq ?_
  by_cases c1 : ¬ rightV l = 0
  ·have hq1 := eq_false c1
   refine HT.region ?_;simp (disch := first|omega|(simp<;>omega)|fail) [wr3, hq1]
   refine stepK.mk (.call1f _ _ _ _ _ rfl Ty.hb12 rfl rfl (refRight_spec l gl) rfl) ?_
   simp (disch := first|omega|(simp<;>omega)|fail) [wr3, hq1]
   refine HT.cond' ?_;simp (disch := first|omega|(simp<;>omega)|fail) [wr3]
   refine HT.seq ?_;refine HT.region ?_;simp (disch := first|omega|(simp<;>omega)|fail) [wr3]
   refine HT.ret ?_;simp (disch := first|omega|(simp<;>omega)|fail) [wr3]
  rw [Classical.not_not] at c1
  have hq1 := eq_true c1
  by_cases c2 : ¬ rightR r = 0
  ·have hq2 := eq_false c2
   refine HT.region ?_;simp (disch := first|omega|(simp<;>omega)|fail) [wr3, hq1, hq2]
   refine stepK.mk (.call1f _ _ _ _ _ rfl Ty.hb12 rfl rfl (refRight_spec l gl) rfl) ?_
   simp (disch := first|omega|(simp<;>omega)|fail) [wr3, hq1, hq2]
   refine stepK.mk (.call1f _ _ _ _ _ rfl Ty.hb15 rfl rfl (RightR_spec r hr) rfl) ?_
   simp (disch := first|omega|(simp<;>omega)|fail) [wr3, hq1, hq2]
   refine HT.cond' ?_;simp (disch := first|omega|(simp<;>omega)|fail) [wr3]
   refine HT.seq ?_;refine HT.region ?_;simp (disch := first|omega|(simp<;>omega)|fail) [wr3]
   refine HT.ret ?_;simp (disch := first|omega|(simp<;>omega)|fail) [wr3]
  rw [Classical.not_not] at c2
  have hq2 := eq_true c2
  by_cases c3 : next < 1
  ·refine HT.region ?_;simp (disch := first|omega|(simp<;>omega)|fail) [wr3, hq1, hq2]
   refine stepK.mk (.call1f _ _ _ _ _ rfl Ty.hb12 rfl rfl (refRight_spec l gl) rfl) ?_
   simp (disch := first|omega|(simp<;>omega)|fail) [wr3, hq1, hq2]
   refine stepK.mk (.call1f _ _ _ _ _ rfl Ty.hb15 rfl rfl (RightR_spec r hr) rfl) ?_
   simp (disch := first|omega|(simp<;>omega)|fail) [wr3, hq1, hq2]
   refine HT.cond' ?_;simp (disch := first|omega|(simp<;>omega)|fail) [wr3]
   refine HT.seq ?_;refine HT.region ?_;simp (disch := first|omega|(simp<;>omega)|fail) [wr3]
   refine HT.ret ?_;simp (disch := first|omega|(simp<;>omega)|fail) [wr3]
  by_cases c4 : 9999 < next
  ·refine HT.region ?_;simp (disch := first|omega|(simp<;>omega)|fail) [wr3, hq1, hq2]
   refine stepK.mk (.call1f _ _ _ _ _ rfl Ty.hb12 rfl rfl (refRight_spec l gl) rfl) ?_
   simp (disch := first|omega|(simp<;>omega)|fail) [wr3, hq1, hq2]
   refine stepK.mk (.call1f _ _ _ _ _ rfl Ty.hb15 rfl rfl (RightR_spec r hr) rfl) ?_
   simp (disch := first|omega|(simp<;>omega)|fail) [wr3, hq1, hq2]
   refine HT.cond' ?_;simp (disch := first|omega|(simp<;>omega)|fail) [wr3]
   refine HT.seq ?_;refine HT.region ?_;simp (disch := first|omega|(simp<;>omega)|fail) [wr3]
   refine HT.ret ?_;simp (disch := first|omega|(simp<;>omega)|fail) [wr3]
  by_cases c5 : l.length = 0
  ·refine HT.region ?_;simp (disch := first|omega|(simp<;>omega)|fail) [wr3, hq1, hq2]
   refine stepK.mk (.call1f _ _ _ _ _ rfl Ty.hb12 rfl rfl (refRight_spec l gl) rfl) ?_
   simp (disch := first|omega|(simp<;>omega)|fail) [wr3, hq1, hq2]
   refine stepK.mk (.call1f _ _ _ _ _ rfl Ty.hb15 rfl rfl (RightR_spec r hr) rfl) ?_
   simp (disch := first|omega|(simp<;>omega)|fail) [wr3, hq1, hq2]
   refine HT.cond' ?_;simp (disch := first|omega|(simp<;>omega)|fail) [wr3]
   refine HT.skip ?_;simp (disch := first|omega|(simp<;>omega)|fail) [wr3]
   refine Pick.mk' (⟨(), fol_of c1 c2 c3 c4 (by first | (intro hx; exfalso; omega) | (intro hx; omega))⟩) rfl ?_
   simp (disch := first|omega|(simp<;>omega)|fail) [wr3]
  have hl0 : l.length - 1 < l.length := by omega
  by_cases c6 : next ≤ l[l.length - 1].id
  ·refine HT.region ?_;simp (disch := first|omega|(simp<;>omega)|fail) [wr3, hq1, hq2]
   refine stepK.mk (.call1f _ _ _ _ _ rfl Ty.hb12 rfl rfl (refRight_spec l gl) rfl) ?_
   simp (disch := first|omega|(simp<;>omega)|fail) [wr3, hq1, hq2]
   refine stepK.mk (.call1f _ _ _ _ _ rfl Ty.hb15 rfl rfl (RightR_spec r hr) rfl) ?_
   simp (disch := first|omega|(simp<;>omega)|fail) [wr3, hq1, hq2]
   refine HT.cond' ?_;simp (disch := first|omega|(simp<;>omega)|fail) [wr3]
   refine HT.seq ?_;refine HT.region ?_;simp (disch := first|omega|(simp<;>omega)|fail) [wr3]
   refine HT.ret ?_;simp (disch := first|omega|(simp<;>omega)|fail) [wr3]
  refine HT.region ?_;simp (disch := first|omega|(simp<;>omega)|fail) [wr3, hq1, hq2]
  refine stepK.mk (.call1f _ _ _ _ _ rfl Ty.hb12 rfl rfl (refRight_spec l gl) rfl) ?_
  simp (disch := first|omega|(simp<;>omega)|fail) [wr3, hq1, hq2]
  refine stepK.mk (.call1f _ _ _ _ _ rfl Ty.hb15 rfl rfl (RightR_spec r hr) rfl) ?_
  simp (disch := first|omega|(simp<;>omega)|fail) [wr3, hq1, hq2]
  refine HT.cond' ?_;simp (disch := first|omega|(simp<;>omega)|fail) [wr3]
  refine HT.skip ?_;simp (disch := first|omega|(simp<;>omega)|fail) [wr3]
  refine Pick.mk' (⟨(), fol_of c1 c2 c3 c4 (by first | (intro hx; exfalso; omega) | (intro hx; omega))⟩) rfl ?_
  simp (disch := first|omega|(simp<;>omega)|fail) [wr3]
 ·rintro ⟨_, hF⟩
  simp (disch := first|omega|(simp<;>omega)|fail) [wr3]
  have hll := right_len hF.right
  have hB := ofR_B hF.rep
  have hlk := right_keys hF.right
  have hlo := hF.lo
  have hhi := hF.hi
  have hQ := changeV_Q (next := next) hF.rep hll
  have hcl := count_le l r.name
  refine HT.seq ?_;refine HT.region ?_;simp (disch := first|omega|(simp<;>omega)|fail) [wr3]
  refine stepK.mk (.call1f _ _ _ _ _ rfl Ty.hb16 rfl rfl (Of_spec r hF.rep hr) rfl) ?_
  simp (disch := first|omega|(simp<;>omega)|fail) [wr3]
  refine HT.seq ?_;refine HT.region ?_;simp (disch := first|omega|(simp<;>omega)|fail) [wr3]
  refine stepK.mk (.call1f _ _ _ _ _ rfl Ty.hb31 rfl rfl (count_spec l r.name (by omega)) rfl) ?_
  simp (disch := first|omega|(simp<;>omega)|fail) [wr3]
  refine HT.seq ?_;refine HT.region ?_;simp (disch := first|omega|(simp<;>omega)|fail) [wr3]
  refine stepK.mk (.call1f _ _ _ _ _ rfl Ty.hb19 rfl rfl (Change_spec l r next hF.rep hr (by omega) gl.2 hlk (by omega) (by omega)) rfl) ?_
  simp (disch := first|omega|(simp<;>omega)|fail) [wr3]
  refine HT.seq ?_;refine HT.region ?_;simp (disch := first|omega|(simp<;>omega)|fail) [wr3]
  refine stepK.mk (.callTf _ _ _ _ _ rfl Ty.hb21 rfl rfl (dApply_spec l (changeV l r next) ⟨by omega, gl.2, by omega, hQ.2.1, by omega, by omega, hQ.2.2⟩) rfl) ?_
  simp (disch := first|omega|(simp<;>omega)|fail) [wr3]
  refine HT.seq ?_;refine HT.seq ?_
  by_cases c7 : 64 < (l.length : Int) - (countV l r.name : Int) + ((ofR r).length : Int)
  ·refine HT.region ?_;simp (disch := first|omega|(simp<;>omega)|fail) [wr3]
   refine HT.cond' ?_;simp (disch := first|omega|(simp<;>omega)|fail) [wr3]
   refine HT.seq ?_;refine HT.region ?_;simp (disch := first|omega|(simp<;>omega)|fail) [wr3]
   refine HT.ret ?_
   have hno := follow_no hF (by first | exact .inl c7 | exact .inr c8)
   simp (disch := first|omega|(simp<;>omega)|fail) [wr3, hno]
  by_cases c8 : 10000 - next < ((changeV l r next).new.length : Int)
  ·refine HT.region ?_;simp (disch := first|omega|(simp<;>omega)|fail) [wr3]
   refine HT.cond' ?_;simp (disch := first|omega|(simp<;>omega)|fail) [wr3]
   refine HT.seq ?_;refine HT.region ?_;simp (disch := first|omega|(simp<;>omega)|fail) [wr3]
   refine HT.ret ?_
   have hno := follow_no hF (by first | exact .inl c7 | exact .inr c8)
   simp (disch := first|omega|(simp<;>omega)|fail) [wr3, hno]
  obtain ⟨hap, hA⟩ := aft hF gl.2 (by omega) (by omega)
  generalize followV l r next = t at *
  have hAl := hA.len
  have hAc := hA.cnt
  have htl := right_len hA.right
  have hag := hA.again
  refine HT.region ?_;simp (disch := first|omega|(simp<;>omega)|fail) [wr3]
  refine HT.cond' ?_;simp (disch := first|omega|(simp<;>omega)|fail) [wr3]
  refine HT.skip ?_;simp (disch := first|omega|(simp<;>omega)|fail) [wr3]
  refine HT.seq ?_;refine HT.seq ?_;refine HT.region ?_;simp (disch := first|omega|(simp<;>omega)|fail) [wr3, hap]
  refine stepK.mk (.call1f _ _ _ _ _ rfl Ty.hb31 rfl rfl (count_spec t r.name (by omega)) rfl) ?_
  simp (disch := first|omega|(simp<;>omega)|fail) [wr3, hap]
  refine HT.cond' ?_;simp (disch := first|omega|(simp<;>omega)|fail) [wr3]
  refine HT.skip ?_;simp (disch := first|omega|(simp<;>omega)|fail) [wr3]
  refine HT.seq ?_;refine HT.seq ?_;refine HT.region ?_;simp (disch := first|omega|(simp<;>omega)|fail) [wr3]
  refine HT.block ?_;refine HT.loopK (fun i : {i : Nat // i ≤ (ofR r).length} => [.s 12 (i64 i)]) [0, 2, 4, 7, 10, 159, 160, 161, 162, 163, 164, 165, 166, 167, 168, 169, 180, 181, 182, 183, 184, 185, 186, 187, 188, 191, 192, 193, 194, 195, 196, 197, 198, 199, 200, 201, 202, 203, 204, 205, 206, 207, 208, 209, 210, 211, 222, 223, 224, 225, 228, 229, 230, 231] [4] (fun i => (ofR r).length - i) (⟨0, by omega⟩) ?_ ?_
  ·simp (disch := first|omega|(simp<;>omega)|fail) [wr3]
  rintro ⟨i, hi⟩
  simp (disch := first|omega|(simp<;>omega)|fail) [wr3]
  refine HT.seq ?_;refine HT.seq ?_;refine HT.region ?_;simp (disch := first|omega|(simp<;>omega)|fail) [wr3]
  refine HT.cond' ?_;simp (disch := first|omega|(simp<;>omega)|fail) [wr3]
  refine ⟨fun h109 => ?_, fun h109 => ?_⟩
  ·have hi' : i < (ofR r).length := by omega
   have hBi := hB.2 _ (List.getElem_mem hi')
   obtain ⟨k, hk, hlk2, hon⟩ := hA.on _ (List.getElem_mem hi')
   refine HT.skip ?_;simp (disch := first|omega|(simp<;>omega)|fail) [wr3]
   refine HT.seq ?_;refine HT.block ?_;refine HT.seq ?_;refine HT.region ?_;simp (disch := first|omega|(simp<;>omega)|fail) [wr3]
   refine stepK.mk (.call1f _ _ _ _ _ rfl Ty.hb32 rfl rfl (like_spec t (ofR r)[i] (by omega) hA.Q hBi.1) rfl) ?_
   simp (disch := first|omega|(simp<;>omega)|fail) [wr3]
   refine HT.seq ?_;refine HT.draw [.batch [0, 1, 2, 3, 4, 5, 6, 7, 8, 9, 10, 11, 12, 13, 14, 15]] (by kernel_rfl) ?_
   simp -dsimp (disch := first|omega|(simp<;>omega)|fail) [wr3, hlk2, hon]
   refine stepK.mk (.call1 _ _ _ rfl Ty.hb33 rfl rfl (Strings_spec (ofR r)[i].on (ofR r)[i].on (by have := hBi.2; omega))) ?_
   simp -dsimp (disch := first|omega|(simp<;>omega)|fail) [wr3, hlk2, hon]
   refine HT.cond' ?_;simp (disch := first|omega|(simp<;>omega)|fail) [wr3]
   refine HT.skip ?_;simp (disch := first|omega|(simp<;>omega)|fail) [wr3]
   refine HT.region ?_;simp (disch := first|omega|(simp<;>omega)|fail) [wr3]
   refine Round.mk' (⟨i + 1, by omega⟩) (by dsimp only; omega) rfl ?_
   simp (disch := first|omega|(simp<;>omega)|fail) [wr3]
  ·obtain rfl : i = (ofR r).length := by omega
   refine HT.exit ?_
   simp (disch := first|omega|(simp<;>omega)|fail) [wr3]
   refine HT.seq ?_;refine HT.seq ?_;refine HT.region ?_;simp (disch := first|omega|(simp<;>omega)|fail) [wr3]
   refine HT.block ?_;refine HT.loopK (fun j : {j : Nat // j ≤ l.length} => [.s 14 (i64 j)]) [0, 2, 4, 7, 10, 222, 223, 224, 225, 228, 229, 230, 231] [4] (fun j => l.length - j) (⟨0, by omega⟩) ?_ ?_
   ·simp (disch := first|omega|(simp<;>omega)|fail) [wr3]
   rintro ⟨j, hj⟩
   simp (disch := first|omega|(simp<;>omega)|fail) [wr3]
   refine HT.seq ?_;refine HT.seq ?_;refine HT.region ?_;simp (disch := first|omega|(simp<;>omega)|fail) [wr3]
   refine HT.cond' ?_;simp (disch := first|omega|(simp<;>omega)|fail) [wr3]
   refine ⟨fun h137 => ?_, fun h137 => ?_⟩
   ·have hj' : j < l.length := by omega
    have hQj := gl.2 _ (List.getElem_mem hj')
    have hQg := getDV_Q hA.Q l[j].id
    have hke : aggEq Tryz.prog 63 [.str (getDV t l[j].id).repo, .str (getDV t l[j].id).path, .str (getDV t l[j].id).text] [.str l[j].repo, .str l[j].path, .str l[j].text] = some (decide (keyV (getDV t l[j].id) = keyV l[j])) := aggEq85 hQg.kb hQj.kb
    refine HT.skip ?_;simp (disch := first|omega|(simp<;>omega)|fail) [wr3]
    refine HT.seq ?_;refine HT.block ?_;refine HT.seq ?_;refine HT.region ?_;simp (disch := first|omega|(simp<;>omega)|fail) [wr3]
    refine stepK.mk (.callTf _ _ _ _ _ rfl Ty.hb23 rfl rfl (dGet_spec t l[j].id (by omega)) rfl) ?_
    simp (disch := first|omega|(simp<;>omega)|fail) [wr3]
    refine HT.seq ?_;refine HT.seq ?_
    by_cases d1 : ¬ l[j].repo = r.name
    ·have q1 := eq_false d1
     have hlk2 := Nat.add_zero 0
     have hkk := Nat.add_zero 0
     obtain ⟨hok, hsd⟩ := other_in hA (List.getElem_mem hj') d1
     refine HT.draw [.batch [0, 1, 2, 3, 4, 5, 6, 7, 8, 9, 10, 11, 12, 13, 14, 15, 16, 17, 18, 19, 20]] (by kernel_rfl) ?_
     simp -dsimp (disch := first|omega|(simp<;>omega)|fail) [wr3, q1, hok, hsd]
     refine stepK.mk (.call1 _ _ _ rfl Ty.hb25 rfl rfl (SameDoc_spec (getDV t l[j].id) l[j] hQg hQj)) ?_
     simp -dsimp (disch := first|omega|(simp<;>omega)|fail) [wr3, q1, hok, hsd]
     refine HT.cond' ?_;simp (disch := first|omega|(simp<;>omega)|fail) [wr3]
     refine HT.skip ?_;simp (disch := first|omega|(simp<;>omega)|fail) [wr3]
     refine HT.seq ?_;refine HT.draw [.batch [0, 1, 2, 3, 4, 5, 6, 7, 8, 9, 10, 11, 12, 13, 14, 15, 16, 17, 18, 19, 20, 21, 22, 23, 24, 25, 26, 27, 28, 29, 30, 31, 32, 33, 34, 35, 36, 37, 38, 39, 40, 41]] (by kernel_rfl) ?_
     simp -dsimp (disch := first|omega|(simp<;>omega)|fail) [wr3, q1, hok, hlk2, hke, hkk]
     refine HT.cond' ?_;simp (disch := first|omega|(simp<;>omega)|fail) [wr3]
     refine HT.skip ?_;simp (disch := first|omega|(simp<;>omega)|fail) [wr3]
     refine HT.region ?_;simp (disch := first|omega|(simp<;>omega)|fail) [wr3]
     refine Round.mk' (⟨j + 1, by omega⟩) (by dsimp only; omega) rfl ?_
     simp (disch := first|omega|(simp<;>omega)|fail) [wr3]
    rw [Classical.not_not] at d1
    have q1 := eq_true d1
    by_cases d2 : keyV l[j] ∉ (ofR r).map keyV
    ·have hkk := Nat.add_zero 0
     obtain ⟨hok, hlk2⟩ := own_out hA (List.getElem_mem hj') d1 d2
     refine HT.draw [.batch [0, 1, 2, 3, 4, 5, 6, 7, 8, 9, 10, 11, 12, 13, 14, 15, 16, 17, 18, 19, 20]] (by kernel_rfl) ?_
     simp -dsimp (disch := first|omega|(simp<;>omega)|fail) [wr3, q1, hok]
     refine HT.cond' ?_;simp (disch := first|omega|(simp<;>omega)|fail) [wr3]
     refine HT.skip ?_;simp (disch := first|omega|(simp<;>omega)|fail) [wr3]
     refine HT.seq ?_;refine HT.draw [.batch [0, 1, 2, 3, 4, 5, 6, 7, 8, 9, 10, 11, 12, 13, 14, 15, 16, 17, 18, 19, 20, 21, 22, 23, 24, 25, 26, 27, 28, 29, 30, 31, 32, 33, 34, 35, 36, 37, 38, 39, 40, 41]] (by kernel_rfl) ?_
     simp -dsimp (disch := first|omega|(simp<;>omega)|fail) [wr3, q1, hok, hlk2, hke, hkk]
     refine stepK.mk (.call1 _ _ _ rfl Ty.hb32 rfl rfl (like_spec (ofR r) l[j] (by omega) (fun d hd => (hB.2 d hd).1) hQj)) ?_
     simp -dsimp (disch := first|omega|(simp<;>omega)|fail) [wr3, q1, hok, hlk2, hke, hkk]
     refine HT.cond' ?_;simp (disch := first|omega|(simp<;>omega)|fail) [wr3]
     refine HT.skip ?_;simp (disch := first|omega|(simp<;>omega)|fail) [wr3]
     refine HT.region ?_;simp (disch := first|omega|(simp<;>omega)|fail) [wr3]
     refine Round.mk' (⟨j + 1, by omega⟩) (by dsimp only; omega) rfl ?_
     simp (disch := first|omega|(simp<;>omega)|fail) [wr3]
    rw [Classical.not_not] at d2
    obtain ⟨hok, hkk, hlk2⟩ := own_in hA (List.getElem_mem hj') d1 d2
    refine HT.draw [.batch [0, 1, 2, 3, 4, 5, 6, 7, 8, 9, 10, 11, 12, 13, 14, 15, 16, 17, 18, 19, 20]] (by kernel_rfl) ?_
    simp -dsimp (disch := first|omega|(simp<;>omega)|fail) [wr3, q1, hok]
    refine HT.cond' ?_;simp (disch := first|omega|(simp<;>omega)|fail) [wr3]
    refine HT.skip ?_;simp (disch := first|omega|(simp<;>omega)|fail) [wr3]
    refine HT.seq ?_;refine HT.draw [.batch [0, 1, 2, 3, 4, 5, 6, 7, 8, 9, 10, 11, 12, 13, 14, 15, 16, 17, 18, 19, 20, 21, 22, 23, 24, 25, 26, 27, 28, 29, 30, 31, 32, 33, 34, 35, 36, 37, 38, 39, 40, 41]] (by kernel_rfl) ?_
    simp -dsimp (disch := first|omega|(simp<;>omega)|fail) [wr3, q1, hok, hlk2, hke, hkk]
    refine stepK.mk (.call1 _ _ _ rfl Ty.hb32 rfl rfl (like_spec (ofR r) l[j] (by omega) (fun d hd => (hB.2 d hd).1) hQj)) ?_
    simp -dsimp (disch := first|omega|(simp<;>omega)|fail) [wr3, q1, hok, hlk2, hke, hkk]
    refine stepK.mk (.call1 _ _ _ rfl Ty.hb34 rfl rfl (rKey_spec (getDV t l[j].id))) ?_
    simp -dsimp (disch := first|omega|(simp<;>omega)|fail) [wr3, q1, hok, hlk2, hke, hkk]
    refine stepK.mk (.call1 _ _ _ rfl Ty.hb34 rfl rfl (rKey_spec l[j])) ?_
    simp -dsimp (disch := first|omega|(simp<;>omega)|fail) [wr3, q1, hok, hlk2, hke, hkk]
    refine HT.cond' ?_;simp (disch := first|omega|(simp<;>omega)|fail) [wr3]
    refine HT.skip ?_;simp (disch := first|omega|(simp<;>omega)|fail) [wr3]
    refine HT.region ?_;simp (disch := first|omega|(simp<;>omega)|fail) [wr3]
    refine Round.mk' (⟨j + 1, by omega⟩) (by dsimp only; omega) rfl ?_
    simp (disch := first|omega|(simp<;>omega)|fail) [wr3]
   ·obtain rfl : j = l.length := by omega
    refine HT.exit ?_
    simp (disch := first|omega|(simp<;>omega)|fail) [wr3]
    refine HT.seq ?_;refine HT.region ?_;simp (disch := first|omega|(simp<;>omega)|fail) [wr3]
    refine stepK.mk (.call1f _ _ _ _ _ rfl Ty.hb19 rfl rfl (Change_spec t r next hF.rep hr (by omega) hA.Q (right_keys hA.right) (by omega) (by omega)) rfl) ?_
    simp (disch := first|omega|(simp<;>omega)|fail) [wr3]
    refine HT.seq ?_;refine HT.region ?_;simp (disch := first|omega|(simp<;>omega)|fail) [wr3, hag]
    refine HT.ret ?_;simp (disch := first|omega|(simp<;>omega)|fail) [wr3]
end Go.Hv
set_option linter.unusedVariables false
set_option linter.unusedSimpArgs false
/- What is on a branch: the law (layer 28). -/
namespace Go.Hv
open Go Go.Hv Go.Proofs Go.RowKit
open Go.Proofs.YtcmomegkhoggpaaGreatDoor
end Go.Hv
set_option linter.unusedVariables false
set_option linter.unusedSimpArgs false
/- The laws of layer 28, in the form in which their rows ask for them. -/
namespace Go.Hv
open Go Go.Hv Go.Proofs Go.RowKit
open Go.Proofs.YtcmomegkhoggpaaGreatDoor
theorem followR (l : List Doc) (r : Repo) (n : Int) (gl : l.length ≤ 140737488355328 ∧ ∀ d ∈ l, DocF 140737488355328 d) (g : RepoF 140737488355328 r) : Spec1 Tryz.prog 8 [.sl 5 false (docsHV l), .agg r.enc, i64 n] (bo true) := follow_law l r n gl g
end Go.Hv
set_option linter.unusedVariables false
/- What the laws of this seat lean on besides their arguments: out of the world's shape; the wrap of a listed row, the shape kept. -/
namespace Go.Hv
open Go Go.Proofs
open Go.Proofs.YtcmomegkhoggpaaGreatDoor
theorem gok {w : World} (h : w.ShapedOpen Tryz.prog) : GI.G w :=
 Go.Proofs.cell_of_shapedOpen_int (g := 0) (zero := #[.int .i64 0]) (t := 3) h (of_decide_eq_true (by kernel_rfl)) (by kernel_rfl) rfl (by kernel_rfl) (by kernel_rfl) Tryz.underlying3
end Go.Hv
namespace Go
variable {H : Type} {enc : TypeId × Value → H}
theorem returnsInHanded_and_shaped {a : Assume} {C : Checked} {os : Os} {f : FuncId} {fn : Func} {s : ChangeSpec} {conds : List PathCond} {apart fresh handsOn again : Bool} {X : World → Array Value → Prop}
  (hX : ∀ (w w' : World) (args : Array Value), w.heap = w'.heap → X w args → X w' args)
  (own : ownKnob C.prog.godebug = none) (started : os.Started) (noInit : C.prog.inits.idxOf? f = none) (hfn : C.prog.funcs[f]? = some fn)
  (witness : ∃ (w : World) (tape : Tape) (i : Input), w.os = os ∧ (w.forCall tape i).Shaped C.prog ∧ i.vars = [] ∧ Input.okWide C.prog (w.forCall tape i) .any w.heap.size f i ∧
   ((s.pre enc C.prog fn conds apart (w.forCall tape i).memory i.args ∧ X (w.forCall tape i).memory i.args) ∧ sizedMet enc C.prog fn (OpenSpec.ofChange s) apart (w.forCall tape i).memory i.args) ∧ a.holds C.prog (lone (Frame.enter C.prog f i.args .normal) [] (w.forCall tape i)))
  (contract : ∀ (W : World) (base : Nat) (args : Array Value) (ds gs : List (DataW H)) (before : List MemPlace),
   (∀ (j : Nat) t v, fn.params[j]? = some t → args[j]? = some v → Value.okWide C.prog W .any base t v) →
   DataW.Whole enc C.prog fn.params.toList s.vars apart W args.toList ds gs before →
   conds.all (PathCond.test C.prog ⟨fn.params.toList, ds, s.plain.varTypes C.prog, gs⟩) = true →
   (DataW.weightsEach C.prog (fn.params.toList ++ s.plain.varTypes C.prog) (ds ++ gs)).all (· ≤ reachBytes) = true → X W args → W.ShapedOpen C.prog →
   a.holds C.prog (lone (Frame.enter C.prog f args .normal) [] W) →
   Calls C.prog f args W fun e W' => ∃ v, e = .returned v ∧ s.post enc C.prog fn apart fresh handsOn again W args v W') :
  ReturnsInHanded a C os f .any (fun w args => (s.pre enc C.prog fn conds apart w args ∧ X w args) ∧ sizedMet enc C.prog fn (OpenSpec.ofChange s) apart w args) (s.post enc C.prog fn apart fresh handsOn again) := by
 refine returnsInHanded_of_calls own started noInit witness ?_
 intro w tape i _ hsh _ hok hpre hholds
 obtain ⟨_, _, _, fn', hfn', _, _, _, _, hval⟩ := hok
 have e : fn' = fn := Option.some.inj (hfn'.symm.trans hfn)
 subst e
 obtain ⟨⟨⟨ds, gs, before, hw, hc⟩, hx⟩, hz⟩ := hpre
 have hw' := DataW.Whole.of_heap (w' := w.forCall tape i) (by rfl) hw
 refine (contract (w.forCall tape i) w.heap.size i.args ds gs before hval hw' hc (hz.weights hw) (hX _ _ _ (by rfl) hx) hsh hholds).mono fun e W' ⟨v, he, hp⟩ => ?_
 subst he
 exact ChangeSpec.post_blind hp
end Go
