import Derived.Test.YtmpgljmmjipioaaPlaceSplitsW0
set_option linter.unusedVariables false
set_option linter.unusedSimpArgs false
namespace Go.Hv
open Go Go.Hv
def row3 (B k : Nat) : List HV := [.ref (B + k * 3), .ref (B + (k * 3 + 1)), .ref (B + (k * 3 + 2))]
theorem refs3_row (B k : Nat) : ((List.range 3).map fun j => HV.ref (B + (k * 3 + j))) = row3 B k := by simp [row3]
theorem refs3_get {B n k : Nat} (h : k < n) : (refs B 3 n)[k]? = some (row3 B k) := by
  unfold refs
  rw [List.getElem?_map, List.getElem?_range h, Option.map_some, refs3_row]
@[simp] theorem refs3_getElem {B n k : Nat} (h : k < (refs B 3 n).length) : (refs B 3 n)[k] = row3 B k := by
  have := refs3_get (B := B) (n := n) (k := k) (by simpa using h)
  rw [List.getElem?_eq_getElem h] at this
  exact Option.some.inj this
theorem refs3_sub {B n k j : Nat} (h : k < n) (hj : j < 3) : subLL (B + (k * 3 + j)) .any .any (refs B 3 n) = (refs B 3 n).set k ((row3 B k).set j .any) := by
  rw [subLL_refs (by omega) (by decide)]
  have e1 : (k * 3 + j) / 3 = k := by omega
  have e2 : (k * 3 + j) % 3 = j := by omega
  rw [e1, e2, List.getD_eq_getElem?_getD, refs3_get h]; rfl
theorem refs3_sub0 {B n k : Nat} (h : k < n) : subLL (B + k * 3) .any .any (refs B 3 n) = (refs B 3 n).set k ((row3 B k).set 0 .any) := refs3_sub (j := 0) h (by decide)
theorem refs3_back {B n k : Nat} (h : k < n) : (refs B 3 n).set k (row3 B k) = refs B 3 n := by
  apply List.ext_getElem?
  intro i
  rw [List.getElem?_set]
  split
  · next e => subst e; rw [if_pos (by simpa using h), refs3_get h]
  · rfl
theorem refs3_back' {B n k : Nat} (h : k < n) : (refs B 3 n).set k [.ref (B + k * 3), .ref (B + (k * 3 + 1)), .ref (B + (k * 3 + 2))] = refs B 3 n := refs3_back h
theorem div3_0 (k : Nat) : k * 3 / 3 = k := by omega
theorem div3_1 (k : Nat) : (k * 3 + 1) / 3 = k := by omega
theorem div3_2 (k : Nat) : (k * 3 + 2) / 3 = k := by omega
theorem mod3_0 (k : Nat) : k * 3 % 3 = 0 := by omega
theorem mod3_1 (k : Nat) : (k * 3 + 1) % 3 = 1 := by omega
theorem mod3_2 (k : Nat) : (k * 3 + 2) % 3 = 2 := by omega
end Go.Hv
set_option linter.unusedVariables false
set_option linter.unusedSimpArgs false
namespace Go.Hv
open Go Go.Hv Go.Proofs
open Go.Proofs.Ytmpgljmmjipioaa
theorem f26_spec (full : Bool) (l : List Doc) (id : Int) (hl : l.length < 2 ^ 40) : SpecT Try.prog 26 [.sl 5 full (docsHV l), i64 id] [.agg ((getV l id).getD .zero).enc, bo (getV l id).isSome] := by
  refine SpecT.of_HT Try.func26 rfl (by rw [Try.ntmps26]; simp) (rs := [.cell 4 48, .tmp 5]) rfl (by decide) ?_
  rw [Try.ntmps26]
  refine HT.seq ?_
  refine HT.region ?_   -- R0
  simp
  refine HT.seq ?_
  refine HT.seq ?_
  refine HT.region ?_   -- R1
  simp
  refine HT.block ?_
  refine HT.loop (fun k : {k : Nat // k ≤ l.length ∧ getV l id = getV (l.drop k) id} => ⟨[.s 0 (.sl 5 full (docsHV l)), .s 1 (i64 id), .s 4 (.ptr 4 0), .o 4 (.box Doc.zero.enc), .s 6 (i64 k)], 25⟩) (fun k => l.length - k) ⟨0, by simp⟩ (HS.le_fits ?_) ?_
  · simp [Doc.zero, strsHV]
  rintro ⟨k, hk, hg⟩
  refine HT.seq ?_
  refine HT.seq ?_
  refine HT.region ?_   -- R2
  simp
  refine HT.cond' ?_
  simp
  constructor
  · intro h
    have hk' : k < l.length := by omega
    rw [getV_drop hk'] at hg
    refine HT.skip ?_
    simp
    refine HT.seq ?_
    refine HT.block ?_
    refine HT.seq ?_
    refine HT.region ?_   -- R4
    simp [h, hk']
    refine HT.cond' ?_
    simp
    constructor
    · intro he
      refine HT.seq ?_
      refine HT.region ?_   -- R5
      simp [h, hk']
      refine HT.ret ?_
      simp [hg, he]
    · intro he
      refine HT.skip ?_
      simp
      refine HT.region ?_   -- R3
      simp
      refine ⟨k + 1, by omega, ⟨by omega, by rw [hg, if_neg he]⟩, HS.le_fits ?_⟩
      simp
      rw [wrap_i64] <;> omega
  · intro h
    obtain rfl : k = l.length := by omega
    rw [List.drop_length] at hg
    have hg0 : getV l id = none := by rw [hg]; rfl
    refine HT.exit ?_
    simp
    refine HT.seq ?_
    refine HT.region ?_   -- R6
    simp
    refine HT.ret ?_
    simp [hg0, Doc.zero, strsHV]
/-- The shard of a document's number. -/
def whereV (l : List Doc) (id n : Int) : Int := match getV l id with
  | some d => ofV d.repo d.path n
  | none => -1
theorem getV_mem {l : List Doc} {id : Int} {d : Doc} (h : getV l id = some d) : d ∈ l := List.mem_of_find?_eq_some h
theorem f27_spec (full : Bool) (l : List Doc) (id n : Int) (hl : l.length < 2 ^ 40) (hs : Short l) (hn : n ≤ 400) : Spec1 Try.prog 27 [.sl 5 full (docsHV l), i64 id, i64 n] (i64 (whereV l id n)) := by
  refine Spec1.of_HT Try.func27 rfl (by rw [Try.ntmps27]; simp) rfl ?_
  rw [Try.ntmps27]
  refine HT.seq ?_
  refine HT.region ?_   -- R0
  simp
  refine HT.seq ?_
  refine HT.region ?_   -- R1
  simp
  refine stepK.mk (.callTf _ _ _ _ _ rfl Ty.hb26 rfl rfl (f26_spec full l id hl) rfl) ?_
  cases hg : getV l id with
  | none =>
    simp [Doc.zero, strsHV]
    refine HT.seq ?_
    refine HT.seq ?_
    refine HT.region ?_   -- R2
    simp
    refine HT.cond' ?_
    simp
    refine HT.seq ?_
    refine HT.region ?_   -- R3
    simp
    refine HT.ret ?_
    simp [whereV, hg]
  | some d =>
    have hd := hs d (getV_mem hg)
    simp
    refine HT.seq ?_
    refine HT.seq ?_
    refine HT.region ?_   -- R2
    simp
    refine HT.cond' ?_
    simp
    refine HT.skip ?_
    simp
    refine HT.seq ?_
    refine HT.region ?_   -- R4
    simp
    refine stepK.mk (.call1 _ _ _ _ rfl Ty.hb12 rfl (f12_spec _ _ n hd.1 hd.2 hn) rfl rfl) ?_
    simp
    refine HT.ret ?_
    simp [whereV, hg]
theorem f18_spec (f1 f2 f3 g1 g2 g3 : Bool) (a1 b1 : List Doc) (a2 b2 : List Int) (a3 b3 : List Doc) (h1 : a1.length < 2 ^ 40) (h2 : a2.length < 2 ^ 40) (h3 : a3.length < 2 ^ 40)
    (k1 : ∀ d ∈ a1, DocK d) (k2 : ∀ d ∈ b1, DocK d) (k3 : ∀ d ∈ a3, DocK d) (k4 : ∀ d ∈ b3, DocK d) :
    Spec1 Try.prog 18 [.agg [.sl 5 f1 (docsHV a1), .sl 1 f2 (intsHV a2), .sl 5 f3 (docsHV a3)], .agg [.sl 5 g1 (docsHV b1), .sl 1 g2 (intsHV b2), .sl 5 g3 (docsHV b3)]] (bo (sameL a1 b1 && (decide (a2 = b2) && sameL a3 b3))) := by
  refine Spec1.of_HT Try.func18 rfl (by rw [Try.ntmps18]; simp) rfl ?_
  rw [Try.ntmps18]
  refine HT.seq ?_
  refine HT.region ?_   -- R0
  simp
  refine HT.seq ?_
  refine HT.region ?_   -- R1
  simp
  refine stepK.mk (.call1 _ _ _ _ rfl Ty.hb15 rfl (f15_spec f1 g1 a1 b1 h1 k1 k2) rfl rfl) ?_
  by_cases e1 : sameL a1 b1 = true
  · simp [e1]
    refine stepK.mk (.call1 _ _ _ _ rfl Ty.hb19 rfl (f19_spec f2 g2 a2 b2 h2) rfl rfl) ?_
    by_cases e2 : a2 = b2
    · simp [e2]
      refine stepK.mk (.call1 _ _ _ _ rfl Ty.hb15 rfl (f15_spec f3 g3 a3 b3 h3 k3 k4) rfl rfl) ?_
      simp
      refine HT.ret ?_
      simp [*]
    · simp [e2]
      refine HT.ret ?_
      simp [*]
  · simp [e1]
    refine HT.ret ?_
    simp [*]
end Go.Hv
set_option linter.unusedVariables false
set_option linter.unusedSimpArgs false
namespace Go.Hv
open Go Go.Hv Go.Proofs
open Go.Proofs.Ytmpgljmmjipioaa
structure Delta where
  fn : Bool
  fd : Bool
  fm : Bool
  new : List Doc
  dead : List Int
  moved : List Doc
@[simp] def Delta.enc (d : Delta) : List HV := [.sl 5 d.fn (docsHV d.new), .sl 1 d.fd (intsHV d.dead), .sl 5 d.fm (docsHV d.moved)]
/-- Three own rows of each of n elements. -/
def obj3 (p0 : Nat → List Doc) (p1 : Nat → List Int) (p2 : Nat → List Doc) (m : Nat) : HObj :=
  if m % 3 = 0 then .row 48 5 (docsHV (p0 (m / 3))) else if m % 3 = 1 then .row 3 1 (intsHV (p1 (m / 3))) else .row 48 5 (docsHV (p2 (m / 3)))
def fam3 (n : Nat) (p0 : Nat → List Doc) (p1 : Nat → List Int) (p2 : Nat → List Doc) : Nat → Option HObj := fam 1000 (n * 3) (obj3 p0 p1 p2)
theorem fam3_0 {n k : Nat} (h : k < n) (p0 : Nat → List Doc) (p1 : Nat → List Int) (p2 : Nat → List Doc) : fam3 n p0 p1 p2 (1000 + k * 3) = some (.row 48 5 (docsHV (p0 k))) := by
  unfold fam3 fam obj3
  rw [if_pos (by omega), show 1000 + k * 3 - 1000 = k * 3 by omega, div3_0, mod3_0]; rfl
theorem fam3_1 {n k : Nat} (h : k < n) (p0 : Nat → List Doc) (p1 : Nat → List Int) (p2 : Nat → List Doc) : fam3 n p0 p1 p2 (1000 + (k * 3 + 1)) = some (.row 3 1 (intsHV (p1 k))) := by
  unfold fam3 fam obj3
  rw [if_pos (by omega), show 1000 + (k * 3 + 1) - 1000 = k * 3 + 1 by omega, div3_1, mod3_1]; rfl
theorem fam3_2 {n k : Nat} (h : k < n) (p0 : Nat → List Doc) (p1 : Nat → List Int) (p2 : Nat → List Doc) : fam3 n p0 p1 p2 (1000 + (k * 3 + 2)) = some (.row 48 5 (docsHV (p2 k))) := by
  unfold fam3 fam obj3
  rw [if_pos (by omega), show 1000 + (k * 3 + 2) - 1000 = k * 3 + 2 by omega, div3_2, mod3_2]; rfl
@[simp] theorem fam3_low {n m : Nat} (h : m < 1000) (p0 : Nat → List Doc) (p1 : Nat → List Int) (p2 : Nat → List Doc) : fam3 n p0 p1 p2 m = none := by
  unfold fam3 fam; rw [if_neg (by omega)]
theorem fam3_some {n id : Nat} {o : HObj} {p0 : Nat → List Doc} {p1 : Nat → List Int} {p2 : Nat → List Doc} (h : fam3 n p0 p1 p2 id = some o) :
    ∃ k, k < n ∧ ((id = 1000 + k * 3 ∧ o = .row 48 5 (docsHV (p0 k))) ∨ (id = 1000 + (k * 3 + 1) ∧ o = .row 3 1 (intsHV (p1 k))) ∨ (id = 1000 + (k * 3 + 2) ∧ o = .row 48 5 (docsHV (p2 k)))) := by
  have hb : 1000 ≤ id ∧ id < 1000 + n * 3 := by
    unfold fam3 fam at h
    simp only [Option.ite_none_right_eq_some] at h
    exact h.1
  refine ⟨(id - 1000) / 3, by omega, ?_⟩
  have hc : (id - 1000) % 3 = 0 ∨ (id - 1000) % 3 = 1 ∨ (id - 1000) % 3 = 2 := by omega
  have hk : (id - 1000) / 3 < n := by omega
  rcases hc with hc | hc | hc
  · have e : id = 1000 + (id - 1000) / 3 * 3 := by omega
    exact .inl ⟨e, by rw [e, fam3_0 hk] at h; exact (Option.some.inj h).symm⟩
  · have e : id = 1000 + ((id - 1000) / 3 * 3 + 1) := by omega
    exact .inr (.inl ⟨e, by rw [e, fam3_1 hk] at h; exact (Option.some.inj h).symm⟩)
  · have e : id = 1000 + ((id - 1000) / 3 * 3 + 2) := by omega
    exact .inr (.inr ⟨e, by rw [e, fam3_2 hk] at h; exact (Option.some.inj h).symm⟩)
def deadP (l : List Doc) (dead : List Int) (n : Int) (i : Nat) : List Int := dead.filter fun id => decide (whereV l id n = (i : Int))
def movedP (l : List Doc) (moved : List Doc) (n : Int) (i : Nat) : List Doc := moved.filter fun m => decide (whereV l m.id n = (i : Int))
theorem deadP_succ {l : List Doc} {dead : List Int} {k : Nat} (h : k < dead.length) (n : Int) (i : Nat) : deadP l (dead.take (k + 1)) n i = deadP l (dead.take k) n i ++ (if whereV l dead[k] n = (i : Int) then [dead[k]] else []) := by
  rw [List.take_succ_eq_append_getElem h]
  unfold deadP
  rw [List.filter_append]
  congr 1
  by_cases e : whereV l dead[k] n = (i : Int) <;> simp [e]
theorem movedP_succ {l moved : List Doc} {k : Nat} (h : k < moved.length) (n : Int) (i : Nat) : movedP l (moved.take (k + 1)) n i = movedP l (moved.take k) n i ++ (if whereV l moved[k].id n = (i : Int) then [moved[k]] else []) := by
  rw [List.take_succ_eq_append_getElem h]
  unfold movedP
  rw [List.filter_append]
  congr 1
  by_cases e : whereV l moved[k].id n = (i : Int) <;> simp [e]
/-- What Split hands back, shard by shard. -/
def deltasH (l : List Doc) (d : Delta) (n : Int) (m : Nat) : List (List HV) := (List.range m).map fun i =>
  [.sl 5 false (docsHV (partV d.new n i)), .sl 1 false (intsHV (deadP l d.dead n i)), .sl 5 false (docsHV (movedP l d.moved n i))]
def lost (l : List Doc) (d : Delta) : Prop := (∃ id ∈ d.dead, getV l id = none) ∨ ∃ m ∈ d.moved, getV l m.id = none
end Go.Hv
set_option linter.unusedVariables false
set_option linter.unusedSimpArgs false
namespace Go.Hv
open Go Go.Hv Go.Proofs
open Go.Proofs.Ytmpgljmmjipioaa
theorem f16_lost (full : Bool) (l : List Doc) (d : Delta) (n : Int) (hl : l.length < 2 ^ 40) (h2 : d.dead.length < 2 ^ 40) (h3 : d.moved.length < 2 ^ 40) (hlost : lost l d) :
    SpecT Try.prog 16 [.sl 5 full (docsHV l), .agg d.enc, i64 n] [.sl 0 true [], i64 8] := by
  refine SpecT.of_HT Try.func16 rfl (by rw [Try.ntmps16]; simp) (rs := [.tmp 6, .tmp 7]) rfl (by decide) ?_
  rw [Try.ntmps16]
  refine HT.seq ?_
  refine HT.region ?_   -- R0
  simp
  refine HT.seq ?_
  refine HT.seq ?_
  refine HT.region ?_   -- R1
  simp
  refine HT.block ?_
  refine HT.loop (fun k : {k : Nat // k ≤ d.dead.length ∧ ∀ id ∈ d.dead.take k, getV l id ≠ none} => ⟨[.s 0 (.sl 5 full (docsHV l)), .s 4 (.ptr 4 0), .o 4 (.box d.enc), .s 31 (.sl 1 d.fd (intsHV d.dead)), .s 32 (i64 d.dead.length), .s 33 (i64 k)], 163⟩) (fun k => d.dead.length - k) ⟨0, by simp⟩ (HS.le_fits ?_) ?_
  · simp
  rintro ⟨k, hk, hg⟩
  refine HT.seq ?_
  refine HT.region ?_   -- R2
  simp
  refine HT.seq ?_
  refine HT.cond' ?_
  simp
  constructor
  · intro h
    have hk' : k < d.dead.length := by omega
    refine HT.skip ?_
    simp
    refine HT.seq ?_
    refine HT.block ?_
    refine HT.seq ?_
    refine HT.region ?_   -- R3
    simp [h, hk']
    refine HT.seq ?_
    refine HT.region ?_   -- R4 calls [25]
    simp
    refine stepK.mk (.callTf _ _ _ _ _ rfl Ty.hb25 rfl rfl (f25_spec full l d.dead[k] hl) rfl) ?_
    cases hgk : getV l d.dead[k] with
    | none =>
      simp [Doc.zero, strsHV]
      refine HT.seq ?_
      refine HT.region ?_   -- R5
      simp
      refine HT.cond' ?_
      simp
      refine HT.seq ?_
      refine HT.region ?_   -- R6
      simp
      refine HT.ret ?_
      simp
    | some x =>
      simp
      refine HT.seq ?_
      refine HT.region ?_   -- R5
      simp
      refine HT.cond' ?_
      simp
      refine HT.skip ?_
      simp
      refine HT.region ?_   -- R7
      simp
      refine ⟨k + 1, by omega, ⟨by omega, fun id hid => ?_⟩, HS.le_fits ?_⟩
      · rw [List.take_succ_eq_append_getElem hk'] at hid
        rcases List.mem_append.1 hid with hid | hid
        · exact hg id hid
        · simp at hid; subst hid; simp [hgk]
      simp
      rw [wrap_i64] <;> omega
  · intro h
    obtain rfl : k = d.dead.length := by omega
    rw [List.take_length] at hg
    refine HT.exit ?_
    simp
    refine HT.seq ?_
    refine HT.seq ?_
    refine HT.region ?_   -- R8
    simp
    refine HT.block ?_
    refine HT.loop (fun k : {k : Nat // k ≤ d.moved.length ∧ ∀ m ∈ d.moved.take k, getV l m.id ≠ none} => ⟨[.s 0 (.sl 5 full (docsHV l)), .s 47 (.sl 5 d.fm (docsHV d.moved)), .s 48 (i64 d.moved.length), .s 49 (i64 k)], 163⟩) (fun k => d.moved.length - k) ⟨0, by simp⟩ (HS.le_fits ?_) ?_
    · simp
    rintro ⟨k, hk, hg2⟩
    refine HT.seq ?_
    refine HT.region ?_   -- R9
    simp
    refine HT.seq ?_
    refine HT.cond' ?_
    simp
    constructor
    · intro h
      have hk' : k < d.moved.length := by omega
      refine HT.skip ?_
      simp
      refine HT.seq ?_
      refine HT.block ?_
      refine HT.seq ?_
      refine HT.region ?_   -- R10
      simp [h, hk']
      refine HT.seq ?_
      refine HT.region ?_   -- R11 calls [25]
      simp
      refine stepK.mk (.callTf _ _ _ _ _ rfl Ty.hb25 rfl rfl (f25_spec full l d.moved[k].id hl) rfl) ?_
      cases hgk : getV l d.moved[k].id with
      | none =>
        simp [Doc.zero, strsHV]
        refine HT.seq ?_
        refine HT.region ?_   -- R12
        simp
        refine HT.cond' ?_
        simp
        refine HT.seq ?_
        refine HT.region ?_   -- R13
        simp
        refine HT.ret ?_
        simp
      | some x =>
        simp
        refine HT.seq ?_
        refine HT.region ?_   -- R12
        simp
        refine HT.cond' ?_
        simp
        refine HT.skip ?_
        simp
        refine HT.region ?_   -- R14
        simp
        refine ⟨k + 1, by omega, ⟨by omega, fun m hm => ?_⟩, HS.le_fits ?_⟩
        · rw [List.take_succ_eq_append_getElem hk'] at hm
          rcases List.mem_append.1 hm with hm | hm
          · exact hg2 m hm
          · simp at hm; subst hm; simp [hgk]
        simp
        rw [wrap_i64] <;> omega
    · intro h
      obtain rfl : k = d.moved.length := by omega
      rw [List.take_length] at hg2
      exfalso
      rcases hlost with ⟨id, h1, h2⟩ | ⟨m, h1, h2⟩
      · exact hg id h1 h2
      · exact hg2 m h1 h2
end Go.Hv
set_option linter.unusedVariables false
set_option linter.unusedSimpArgs false
namespace Go.Hv
open Go Go.Hv Go.Proofs
open Go.Proofs.Ytmpgljmmjipioaa
theorem f16_out (full : Bool) (l : List Doc) (d : Delta) (n : Int) (hl : l.length < 2 ^ 40) (h2 : d.dead.length < 2 ^ 40) (h3 : d.moved.length < 2 ^ 40) (hnl : ¬ lost l d) (hr : n < 1 ∨ 4 < n) :
    SpecT Try.prog 16 [.sl 5 full (docsHV l), .agg d.enc, i64 n] [.sl 0 true [], i64 2] := by
  refine SpecT.of_HT Try.func16 rfl (by rw [Try.ntmps16]; simp) (rs := [.tmp 6, .tmp 7]) rfl (by decide) ?_
  rw [Try.ntmps16]
  refine HT.seq ?_
  refine HT.region ?_   -- R0
  simp
  refine HT.seq ?_
  refine HT.seq ?_
  refine HT.region ?_   -- R1
  simp
  refine HT.block ?_
  refine HT.loop (fun k : {k : Nat // k ≤ d.dead.length} => ⟨[.s 0 (.sl 5 full (docsHV l)), .s 2 (i64 n), .s 4 (.ptr 4 0), .o 4 (.box d.enc), .s 31 (.sl 1 d.fd (intsHV d.dead)), .s 32 (i64 d.dead.length), .s 33 (i64 k)], 163⟩) (fun k => d.dead.length - k) ⟨0, by simp⟩ (HS.le_fits ?_) ?_
  · simp
  rintro ⟨k, hk⟩
  refine HT.seq ?_
  refine HT.region ?_   -- R2
  simp
  refine HT.seq ?_
  refine HT.cond' ?_
  simp
  constructor
  · intro h
    have hk' : k < d.dead.length := by omega
    obtain ⟨x, hgk⟩ : ∃ x, getV l d.dead[k] = some x := Option.ne_none_iff_exists'.1 (fun e => hnl (.inl ⟨_, List.getElem_mem hk', e⟩))
    refine HT.skip ?_
    simp
    refine HT.seq ?_
    refine HT.block ?_
    refine HT.seq ?_
    refine HT.region ?_   -- R3
    simp [h, hk']
    refine HT.seq ?_
    refine HT.region ?_   -- R4 calls [25]
    simp
    refine stepK.mk (.callTf _ _ _ _ _ rfl Ty.hb25 rfl rfl (f25_spec full l d.dead[k] hl) rfl) ?_
    simp [hgk]
    refine HT.seq ?_
    refine HT.region ?_   -- R5
    simp
    refine HT.cond' ?_
    simp
    refine HT.skip ?_
    simp
    refine HT.region ?_   -- R7
    simp
    refine ⟨k + 1, by omega, by omega, HS.le_fits ?_⟩
    simp
    rw [wrap_i64] <;> omega
  intro h0
  refine HT.exit ?_
  simp
  refine HT.seq ?_
  refine HT.seq ?_
  refine HT.region ?_   -- R8
  simp
  refine HT.block ?_
  refine HT.loop (fun k : {k : Nat // k ≤ d.moved.length} => ⟨[.s 0 (.sl 5 full (docsHV l)), .s 2 (i64 n), .s 4 (.ptr 4 0), .o 4 (.box d.enc), .s 47 (.sl 5 d.fm (docsHV d.moved)), .s 48 (i64 d.moved.length), .s 49 (i64 k)], 163⟩) (fun k => d.moved.length - k) ⟨0, by simp⟩ (HS.le_fits ?_) ?_
  · simp
  rintro ⟨j, hj⟩
  refine HT.seq ?_
  refine HT.region ?_   -- R9
  simp
  refine HT.seq ?_
  refine HT.cond' ?_
  simp
  constructor
  · intro h
    have hk' : j < d.moved.length := by omega
    obtain ⟨x, hgk⟩ : ∃ x, getV l d.moved[j].id = some x := Option.ne_none_iff_exists'.1 (fun e => hnl (.inr ⟨_, List.getElem_mem hk', e⟩))
    refine HT.skip ?_
    simp
    refine HT.seq ?_
    refine HT.block ?_
    refine HT.seq ?_
    refine HT.region ?_   -- R10
    simp [h, hk']
    refine HT.seq ?_
    refine HT.region ?_   -- R11 calls [25]
    simp
    refine stepK.mk (.callTf _ _ _ _ _ rfl Ty.hb25 rfl rfl (f25_spec full l d.moved[j].id hl) rfl) ?_
    simp [hgk]
    refine HT.seq ?_
    refine HT.region ?_   -- R12
    simp
    refine HT.cond' ?_
    simp
    refine HT.skip ?_
    simp
    refine HT.region ?_   -- R14
    simp
    refine ⟨j + 1, by omega, by omega, HS.le_fits ?_⟩
    simp
    rw [wrap_i64] <;> omega
  intro h0'
  refine HT.exit ?_
  simp
  refine HT.seq ?_
  refine HT.seq ?_
  refine HT.region ?_   -- R15
  by_cases h1 : n < 1
  · simp [h1]
    refine HT.cond' ?_
    simp
    refine HT.seq ?_
    refine HT.region ?_   -- R16
    simp
    refine HT.ret ?_
    simp
  · have h4 : 4 < n := by omega
    simp [h1, h4]
    refine HT.cond' ?_
    simp
    refine HT.seq ?_
    refine HT.region ?_   -- R16
    simp
    refine HT.ret ?_
    simp
end Go.Hv
set_option linter.unusedVariables false
set_option linter.unusedSimpArgs false
namespace Go.Hv
open Go Go.Hv Go.Proofs
open Go.Proofs.Ytmpgljmmjipioaa
theorem docsHV_getD (l : List Doc) (k : Nat) (h : k < l.length) : (docsHV l)[k]?.getD [] = l[k].enc := by simp [docsHV, h]
theorem intsHV_getD (l : List Int) (k : Nat) (h : k < l.length) : (intsHV l)[k]?.getD [] = [i64 l[k]] := by simp [intsHV, h]
theorem deadP_length (l : List Doc) (x : List Int) (n : Int) (i : Nat) : (deadP l x n i).length ≤ x.length := List.length_filter_le _ _
theorem movedP_length (l x : List Doc) (n : Int) (i : Nat) : (movedP l x n i).length ≤ x.length := List.length_filter_le _ _
theorem fam_congr {B m : Nat} {g g' : Nat → HObj} {id : Nat} (h : B ≤ id → g (id - B) = g' (id - B)) : fam B m g id = fam B m g' id := by
  unfold fam
  by_cases c : B ≤ id ∧ id < B + m
  · rw [if_pos c, if_pos c, h c.1]
  · rw [if_neg c, if_neg c]
theorem obj3_congr {p0 p0' : Nat → List Doc} {p1 p1' : Nat → List Int} {p2 p2' : Nat → List Doc} {m : Nat} (h0 : m % 3 = 0 → p0 (m / 3) = p0' (m / 3)) (h1 : m % 3 = 1 → p1 (m / 3) = p1' (m / 3)) (h2 : m % 3 = 2 → p2 (m / 3) = p2' (m / 3)) : obj3 p0 p1 p2 m = obj3 p0' p1' p2' m := by
  have h : m % 3 = 0 ∨ m % 3 = 1 ∨ m % 3 = 2 := by omega
  unfold obj3
  rcases h with h | h | h
  · rw [if_pos h, if_pos h, h0 h]
  · rw [if_neg (by omega), if_pos h, if_neg (by omega), if_pos h, h1 h]
  · rw [if_neg (by omega), if_neg (by omega), if_neg (by omega), if_neg (by omega), h2 h]
theorem fam3_stepN {n q : Nat} (p0 p0' : Nat → List Doc) (p1 : Nat → List Int) (p2 : Nat → List Doc) (h : ∀ m, m ≠ q → p0' m = p0 m) (id : Nat) (hid : id ≠ 1000 + q * 3) : fam3 n p0' p1 p2 id = fam3 n p0 p1 p2 id :=
  fam_congr fun hB => obj3_congr (fun h0 => h _ (by omega)) (fun _ => rfl) (fun _ => rfl)
theorem fam3_stepD {n q : Nat} (p0 : Nat → List Doc) (p1 p1' : Nat → List Int) (p2 : Nat → List Doc) (h : ∀ m, m ≠ q → p1' m = p1 m) (id : Nat) (hid : id ≠ 1000 + (q * 3 + 1)) : fam3 n p0 p1' p2 id = fam3 n p0 p1 p2 id :=
  fam_congr fun hB => obj3_congr (fun _ => rfl) (fun h0 => h _ (by omega)) (fun _ => rfl)
theorem fam3_stepM {n q : Nat} (p0 : Nat → List Doc) (p1 : Nat → List Int) (p2 p2' : Nat → List Doc) (h : ∀ m, m ≠ q → p2' m = p2 m) (id : Nat) (hid : id ≠ 1000 + (q * 3 + 2)) : fam3 n p0 p1 p2' id = fam3 n p0 p1 p2 id :=
  fam_congr fun hB => obj3_congr (fun _ => rfl) (fun _ => rfl) (fun h0 => h _ (by omega))
theorem fam3_row {n id : Nat} {o : HObj} {p0 : Nat → List Doc} {p1 : Nat → List Int} {p2 : Nat → List Doc} (h : fam3 n p0 p1 p2 id = some o) : 1000 ≤ id ∧ ∃ e sz es, o = .row e sz es ∧ isILL es = true := by
  obtain ⟨k, hk, h⟩ := fam3_some h
  rcases h with ⟨rfl, rfl⟩ | ⟨rfl, rfl⟩ | ⟨rfl, rfl⟩
  · exact ⟨by omega, _, _, _, rfl, by simp⟩
  · exact ⟨by omega, _, _, _, rfl, by simp⟩
  · exact ⟨by omega, _, _, _, rfl, by simp⟩
theorem frzs3 (l : List Doc) (d : Delta) (n : Nat) : (frzs 3 n fun m =>
      if m % 3 = 0 then (5, docsHV (partV d.new (↑n) (m / 3)))
      else
        if m % 3 = 1 then (1, intsHV (deadP l d.dead (↑n) (m / 3))) else (5, docsHV (movedP l d.moved (↑n) (m / 3)))) =
    deltasH l d (↑n) n := by
  unfold frzs deltasH
  refine List.map_congr_left fun i _ => ?_
  simp [div3_0, div3_1, div3_2, mod3_0, mod3_1, mod3_2]
@[simp] theorem isILL_deltasH (l : List Doc) (d : Delta) (n : Int) (m : Nat) : isILL (deltasH l d n m) = true := by simp [isILL, deltasH, isIL, isI]
@[simp] theorem deltasH_length (l : List Doc) (d : Delta) (n : Int) (m : Nat) : (deltasH l d n m).length = m := by simp [deltasH]
theorem deltasH_succ (l : List Doc) (d : Delta) (n : Int) (m : Nat) : deltasH l d n (m + 1) = deltasH l d n m ++ [[.sl 5 false (docsHV (partV d.new n m)), .sl 1 false (intsHV (deadP l d.dead n m)), .sl 5 false (docsHV (movedP l d.moved n m))]] := by
  unfold deltasH; rw [List.range_succ, List.map_append]; rfl
theorem deltasH_getD (l : List Doc) (d : Delta) (n : Int) (m k : Nat) (h : k < m) : (deltasH l d n m)[k]?.getD [] = [.sl 5 false (docsHV (partV d.new n k)), .sl 1 false (intsHV (deadP l d.dead n k)), .sl 5 false (docsHV (movedP l d.moved n k))] := by
  simp [deltasH, h]
set_option maxHeartbeats 4000000 in
theorem f16_ok (full : Bool) (l : List Doc) (d : Delta) (n : Nat) (hl : l.length ≤ 1048576) (hs : Short l) (hsn : Short d.new) (h1 : d.new.length ≤ 1048576) (h2 : d.dead.length ≤ 1048576) (h3 : d.moved.length ≤ 1048576) (hnl : ¬ lost l d) (hn1 : 1 ≤ n) (hn4 : n ≤ 4) : SpecT Try.prog 16 [.sl 5 full (docsHV l), .agg d.enc, i64 n] [.sl 3 false (deltasH l d n n), i64 0] := by
  refine SpecT.of_HT Try.func16 rfl (by rw [Try.ntmps16]; simp) (rs := [.tmp 6, .tmp 7]) rfl (by decide) ?_
  rw [Try.ntmps16]
  refine HT.seq ?_
  refine HT.region ?_   -- R0
  simp (disch := first | omega | (simp <;> omega) | fail) [wrap_i64, wrap_u64, wrap_u8', docsHV_getD, intsHV_getD]
  refine HT.seq ?_
  refine HT.seq ?_
  refine HT.region ?_   -- R1
  simp (disch := first | omega | (simp <;> omega) | fail) [wrap_i64, wrap_u64, wrap_u8', docsHV_getD, intsHV_getD]
  refine HT.block ?_
  refine HT.loopK (fun k : {k : Nat // k ≤ d.dead.length} => [.s 33 (i64 k)]) [0, 2, 4, 31, 32, 66, 67] [4] (fun k => d.dead.length - k) (⟨0, by simp⟩) ?_ ?_   -- block 0 turned [33]
  · simp (disch := first | omega | (simp <;> omega) | fail) [wrap_i64, wrap_u64, wrap_u8', docsHV_getD, intsHV_getD]
  rintro ⟨k, hk⟩
  simp (disch := first | omega | (simp <;> omega) | fail) [wrap_i64, wrap_u64, wrap_u8', docsHV_getD, intsHV_getD]
  refine HT.seq ?_
  refine HT.region ?_   -- R2
  simp (disch := first | omega | (simp <;> omega) | fail) [wrap_i64, wrap_u64, wrap_u8', docsHV_getD, intsHV_getD]
  refine HT.seq ?_
  refine HT.cond' ?_   -- if 34
  simp (disch := first | omega | (simp <;> omega) | fail) [wrap_i64, wrap_u64, wrap_u8', docsHV_getD, intsHV_getD]
  refine ⟨fun h34 => ?_, fun h34 => ?_⟩
  · skip
    have hk' : k < d.dead.length := by omega
    obtain ⟨x, hgk⟩ : ∃ x, getV l d.dead[k] = some x := Option.ne_none_iff_exists'.1 (fun e => hnl (.inl ⟨_, List.getElem_mem hk', e⟩))
    refine HT.skip ?_
    simp (disch := first | omega | (simp <;> omega) | fail) [wrap_i64, wrap_u64, wrap_u8', docsHV_getD, intsHV_getD]
    refine HT.seq ?_
    refine HT.block ?_
    refine HT.seq ?_
    refine HT.region ?_   -- R3
    simp (disch := first | omega | (simp <;> omega) | fail) [wrap_i64, wrap_u64, wrap_u8', docsHV_getD, intsHV_getD]
    refine HT.seq ?_
    refine HT.region ?_   -- R4
    simp (disch := first | omega | (simp <;> omega) | fail) [wrap_i64, wrap_u64, wrap_u8', docsHV_getD, intsHV_getD]
    refine stepK.mk (.callTf _ _ _ _ _ rfl Ty.hb25 rfl rfl (f25_spec full l d.dead[k] (by omega)) rfl) ?_
    simp (disch := first | omega | (simp <;> omega) | fail) [wrap_i64, wrap_u64, wrap_u8', docsHV_getD, intsHV_getD, hgk]
    refine HT.seq ?_
    refine HT.region ?_   -- R5
    simp (disch := first | omega | (simp <;> omega) | fail) [wrap_i64, wrap_u64, wrap_u8', docsHV_getD, intsHV_getD]
    refine HT.cond' ?_   -- if 44
    simp (disch := first | omega | (simp <;> omega) | fail) [wrap_i64, wrap_u64, wrap_u8', docsHV_getD, intsHV_getD]
    refine HT.skip ?_
    simp (disch := first | omega | (simp <;> omega) | fail) [wrap_i64, wrap_u64, wrap_u8', docsHV_getD, intsHV_getD]
    refine HT.region ?_   -- R7
    simp (disch := first | omega | (simp <;> omega) | fail) [wrap_i64, wrap_u64, wrap_u8', docsHV_getD, intsHV_getD]
    refine Round.mk' (⟨k + 1, by omega⟩) (by dsimp only; omega) rfl ?_
    simp (disch := first | omega | (simp <;> omega) | fail) [wrap_i64, wrap_u64, wrap_u8', docsHV_getD, intsHV_getD]
  · skip
    refine HT.exit ?_
    simp (disch := first | omega | (simp <;> omega) | fail) [wrap_i64, wrap_u64, wrap_u8', docsHV_getD, intsHV_getD]
    refine HT.seq ?_
    refine HT.seq ?_
    refine HT.region ?_   -- R8
    simp (disch := first | omega | (simp <;> omega) | fail) [wrap_i64, wrap_u64, wrap_u8', docsHV_getD, intsHV_getD]
    refine HT.block ?_
    refine HT.loopK (fun k : {k : Nat // k ≤ d.moved.length} => [.s 49 (i64 k)]) [0, 2, 4, 47, 48, 66, 67] [4] (fun k => d.moved.length - k) (⟨0, by simp⟩) ?_ ?_   -- block 2 turned [49]
    · simp (disch := first | omega | (simp <;> omega) | fail) [wrap_i64, wrap_u64, wrap_u8', docsHV_getD, intsHV_getD]
    rintro ⟨k, hk⟩
    simp (disch := first | omega | (simp <;> omega) | fail) [wrap_i64, wrap_u64, wrap_u8', docsHV_getD, intsHV_getD]
    refine HT.seq ?_
    refine HT.region ?_   -- R9
    simp (disch := first | omega | (simp <;> omega) | fail) [wrap_i64, wrap_u64, wrap_u8', docsHV_getD, intsHV_getD]
    refine HT.seq ?_
    refine HT.cond' ?_   -- if 50
    simp (disch := first | omega | (simp <;> omega) | fail) [wrap_i64, wrap_u64, wrap_u8', docsHV_getD, intsHV_getD]
    refine ⟨fun h50 => ?_, fun h50 => ?_⟩
    · skip
      have hk' : k < d.moved.length := by omega
      obtain ⟨x, hgk⟩ : ∃ x, getV l d.moved[k].id = some x := Option.ne_none_iff_exists'.1 (fun e => hnl (.inr ⟨_, List.getElem_mem hk', e⟩))
      refine HT.skip ?_
      simp (disch := first | omega | (simp <;> omega) | fail) [wrap_i64, wrap_u64, wrap_u8', docsHV_getD, intsHV_getD]
      refine HT.seq ?_
      refine HT.block ?_
      refine HT.seq ?_
      refine HT.region ?_   -- R10
      simp (disch := first | omega | (simp <;> omega) | fail) [wrap_i64, wrap_u64, wrap_u8', docsHV_getD, intsHV_getD]
      refine HT.seq ?_
      refine HT.region ?_   -- R11
      simp (disch := first | omega | (simp <;> omega) | fail) [wrap_i64, wrap_u64, wrap_u8', docsHV_getD, intsHV_getD]
      refine stepK.mk (.callTf _ _ _ _ _ rfl Ty.hb25 rfl rfl (f25_spec full l d.moved[k].id (by omega)) rfl) ?_
      simp (disch := first | omega | (simp <;> omega) | fail) [wrap_i64, wrap_u64, wrap_u8', docsHV_getD, intsHV_getD, hgk]
      refine HT.seq ?_
      refine HT.region ?_   -- R12
      simp (disch := first | omega | (simp <;> omega) | fail) [wrap_i64, wrap_u64, wrap_u8', docsHV_getD, intsHV_getD]
      refine HT.cond' ?_   -- if 61
      simp (disch := first | omega | (simp <;> omega) | fail) [wrap_i64, wrap_u64, wrap_u8', docsHV_getD, intsHV_getD]
      refine HT.skip ?_
      simp (disch := first | omega | (simp <;> omega) | fail) [wrap_i64, wrap_u64, wrap_u8', docsHV_getD, intsHV_getD]
      refine HT.region ?_   -- R14
      simp (disch := first | omega | (simp <;> omega) | fail) [wrap_i64, wrap_u64, wrap_u8', docsHV_getD, intsHV_getD]
      refine Round.mk' (⟨k + 1, by omega⟩) (by dsimp only; omega) rfl ?_
      simp (disch := first | omega | (simp <;> omega) | fail) [wrap_i64, wrap_u64, wrap_u8', docsHV_getD, intsHV_getD]
    · skip
      refine HT.exit ?_
      simp (disch := first | omega | (simp <;> omega) | fail) [wrap_i64, wrap_u64, wrap_u8', docsHV_getD, intsHV_getD]
      refine HT.seq ?_
      refine HT.seq ?_
      refine HT.region ?_   -- R15
      simp (disch := first | omega | (simp <;> omega) | fail) [wrap_i64, wrap_u64, wrap_u8', docsHV_getD, intsHV_getD]
      refine HT.cond' ?_   -- if 68
      simp (disch := first | omega | (simp <;> omega) | fail) [wrap_i64, wrap_u64, wrap_u8', docsHV_getD, intsHV_getD]
      refine HT.skip ?_
      simp (disch := first | omega | (simp <;> omega) | fail) [wrap_i64, wrap_u64, wrap_u8', docsHV_getD, intsHV_getD]
      refine HT.seq ?_
      refine HT.region ?_   -- R17
      simp (disch := first | omega | (simp <;> omega) | fail) [wrap_i64, wrap_u64, wrap_u8', docsHV_getD, intsHV_getD]
      refine HT.seq ?_
      refine HT.seq ?_
      refine HT.region ?_   -- R18
      simp (disch := first | omega | (simp <;> omega) | fail) [wrap_i64, wrap_u64, wrap_u8', docsHV_getD, intsHV_getD]
      refine HT.weaken (HS.le_rows (id := 70) (e := 34) (sz := 3) (es := List.replicate n [.sl 0 true [], .sl 0 true [], .sl 0 true []]) 1000 (fun j => if j = 0 then (48, 5) else if j = 1 then (3, 1) else (48, 5)) ?_ ?_ ?_ ?_) ?_
      · simp [evB, lowR, belowO, lowRL]
      · simp
      · intro x hx c hc
        obtain ⟨_, rfl⟩ := List.mem_replicate.1 hx
        simp at hc
        exact ⟨0, hc⟩
      · intro j
        show 0 < (if j = 0 then ((48, 5) : Nat × Nat) else if j = 1 then (3, 1) else (48, 5)).2
        split
        · decide
        · split <;> decide
      simp only [List.length_replicate]
      refine HT.block ?_
      refine HT.loopK (fun k : {k : Nat // k ≤ d.new.length} => [.s 74 (i64 k), .o 70 (.row 34 3 (refs 1000 3 n)), .os (fam3 n (partV (d.new.take k) n) (deadP l [] n) (movedP l [] n))]) [0, 2, 4, 16, 72, 73] [4] (fun k => d.new.length - k) (⟨0, by omega⟩) ?_ ?_   -- block 4 turned [74]
      · skip
        simp [fam_low]
        intro id o h
        obtain ⟨k, hk, h⟩ := fam3_some h
        rcases h with ⟨rfl, rfl⟩ | ⟨rfl, rfl⟩ | ⟨rfl, rfl⟩
        · simp [fam, show ¬ 70 = 1000 + k * 3 by omega, show k * 3 < n * 3 by omega, mod3_0, partV]
        · simp [fam, show ¬ 70 = 1000 + (k * 3 + 1) by omega, show k * 3 + 1 < n * 3 by omega, mod3_1, deadP]
        · simp [fam, show ¬ 70 = 1000 + (k * 3 + 2) by omega, show k * 3 + 2 < n * 3 by omega, mod3_2, movedP]
      rintro ⟨k, hk⟩
      simp (disch := first | omega | (simp <;> omega) | fail) [wrap_i64, wrap_u64, wrap_u8', docsHV_getD, intsHV_getD]
      refine HT.seq ?_
      refine HT.region ?_   -- R19
      simp (disch := first | omega | (simp <;> omega) | fail) [wrap_i64, wrap_u64, wrap_u8', docsHV_getD, intsHV_getD]
      refine HT.seq ?_
      refine HT.cond' ?_   -- if 75
      simp (disch := first | omega | (simp <;> omega) | fail) [wrap_i64, wrap_u64, wrap_u8', docsHV_getD, intsHV_getD]
      refine ⟨fun h75 => ?_, fun h75 => ?_⟩
      · skip
        have hk' : k < d.new.length := by omega
        have hsk := hsn _ (List.getElem_mem hk')
        obtain ⟨q, hq, hqn⟩ := ofV_range d.new[k].repo d.new[k].path hn1
        have b1 : (partV (d.new.take k) n q).length ≤ 1048576 := by have := partV_length (d.new.take k) n q; simp at this; omega
        have i1 : ∀ m, m < 1000 → ¬ m = 1000 + q * 3 := by intro m h; omega
        have i2 : ∀ m, m < 1000 → ¬ 1000 + q * 3 = m := by intro m h; omega
        refine HT.skip ?_
        simp (disch := first | omega | (simp <;> omega) | fail) [wrap_i64, wrap_u64, wrap_u8', docsHV_getD, intsHV_getD]
        refine HT.seq ?_
        refine HT.block ?_
        refine HT.seq ?_
        refine HT.region ?_   -- R20
        simp (disch := first | omega | (simp <;> omega) | fail) [wrap_i64, wrap_u64, wrap_u8', docsHV_getD, intsHV_getD]
        refine HT.seq ?_
        refine HT.region ?_   -- R21
        simp (disch := first | omega | (simp <;> omega) | fail) [wrap_i64, wrap_u64, wrap_u8', docsHV_getD, intsHV_getD]
        refine stepK.mk (.call1 _ _ _ _ rfl Ty.hb11 rfl (f11_spec _ _ n hsk.1 hsk.2 (by omega)) rfl rfl) ?_
        simp (disch := first | omega | (simp <;> omega) | fail) [wrap_i64, wrap_u64, wrap_u8', docsHV_getD, intsHV_getD, hq]
        refine HT.draw [.take 0, .take 1, .take 2, .take 3, .batch [4, 5, 6, 7, 8], .one 9, .batch [10, 11], .one 12] (by kernel_rfl) ?_   -- R22
        simp (disch := first | omega | (simp <;> omega) | fail) [wrap_i64, wrap_u64, wrap_u8', docsHV_getD, intsHV_getD, hqn, refs3_get hqn, refs3_sub0 hqn, refs3_back hqn, fam3_0 hqn, div3_0, mod3_0, row3, i1, i2]
        refine HT.region ?_   -- R23
        simp (disch := first | omega | (simp <;> omega) | fail) [wrap_i64, wrap_u64, wrap_u8', docsHV_getD, intsHV_getD]
        refine Round.mk' (⟨k + 1, by omega⟩) (by dsimp only; omega) rfl ?_
        simp (disch := first | omega | (simp <;> omega) | fail) [wrap_i64, wrap_u64, wrap_u8', docsHV_getD, intsHV_getD, refs3_back' hqn, i1, i2]
        intro id o h
        by_cases e : id = 1000 + q * 3
        · subst e
          rw [fam3_0 hqn] at h
          simp only [Option.some.injEq] at h
          subst h
          rw [partV_succ hk']
          simp [hq, docsHV_append, docsHV_cons]
          omega
        · rw [fam3_stepN (q := q) (partV (d.new.take k) n) _ _ _ (fun m hm => by rw [partV_succ hk', hq, if_neg (by omega), List.append_nil]) id e] at h
          obtain ⟨hge, e0, sz, es, rfl, hI⟩ := fam3_row h
          simp [h, hI, Ne.symm e, show ¬ 70 = id by omega, show ¬ 18 = id by omega]
      · skip
        refine HT.exit ?_
        simp (disch := first | omega | (simp <;> omega) | fail) [wrap_i64, wrap_u64, wrap_u8', docsHV_getD, intsHV_getD]
        refine HT.seq ?_
        refine HT.seq ?_
        refine HT.region ?_   -- R24
        simp (disch := first | omega | (simp <;> omega) | fail) [wrap_i64, wrap_u64, wrap_u8', docsHV_getD, intsHV_getD]
        refine HT.block ?_
        refine HT.loopK (fun k : {k : Nat // k ≤ d.dead.length} => [.s 100 (i64 k), .o 70 (.row 34 3 (refs 1000 3 n)), .os (fam3 n (partV d.new n) (deadP l (d.dead.take k) n) (movedP l [] n))]) [0, 2, 4, 16, 98, 99] [4] (fun k => d.dead.length - k) (⟨0, by omega⟩) ?_ ?_   -- block 6 turned [100]
        · skip
          simp (disch := first | omega | (simp <;> omega) | fail) [deadP, List.take_of_length_le]
          intro id o h
          have := (fam3_row h).1
          simp [h, show ¬ 70 = id by omega]
        rintro ⟨k, hk⟩
        simp (disch := first | omega | (simp <;> omega) | fail) [wrap_i64, wrap_u64, wrap_u8', docsHV_getD, intsHV_getD]
        refine HT.seq ?_
        refine HT.region ?_   -- R25
        simp (disch := first | omega | (simp <;> omega) | fail) [wrap_i64, wrap_u64, wrap_u8', docsHV_getD, intsHV_getD]
        refine HT.seq ?_
        refine HT.cond' ?_   -- if 101
        simp (disch := first | omega | (simp <;> omega) | fail) [wrap_i64, wrap_u64, wrap_u8', docsHV_getD, intsHV_getD]
        refine ⟨fun h101 => ?_, fun h101 => ?_⟩
        · skip
          have hk' : k < d.dead.length := by omega
          obtain ⟨x, hgk⟩ : ∃ x, getV l d.dead[k] = some x := Option.ne_none_iff_exists'.1 (fun e => hnl (.inl ⟨_, List.getElem_mem hk', e⟩))
          have hsk := hs x (getV_mem hgk)
          obtain ⟨q, hq, hqn⟩ := ofV_range x.repo x.path hn1
          have hq' : whereV l d.dead[k] n = q := by simp [whereV, hgk, hq]
          have b1 : (deadP l (d.dead.take k) n q).length ≤ 1048576 := by have := deadP_length l (d.dead.take k) n q; simp at this; omega
          have i1 : ∀ m, m < 1000 → ¬ m = 1000 + (q * 3 + 1) := by intro m h; omega
          have i2 : ∀ m, m < 1000 → ¬ 1000 + (q * 3 + 1) = m := by intro m h; omega
          refine HT.skip ?_
          simp (disch := first | omega | (simp <;> omega) | fail) [wrap_i64, wrap_u64, wrap_u8', docsHV_getD, intsHV_getD]
          refine HT.seq ?_
          refine HT.block ?_
          refine HT.seq ?_
          refine HT.region ?_   -- R26
          simp (disch := first | omega | (simp <;> omega) | fail) [wrap_i64, wrap_u64, wrap_u8', docsHV_getD, intsHV_getD]
          refine HT.seq ?_
          refine HT.region ?_   -- R27
          simp (disch := first | omega | (simp <;> omega) | fail) [wrap_i64, wrap_u64, wrap_u8', docsHV_getD, intsHV_getD]
          refine stepK.mk (.callTf _ _ _ _ _ rfl Ty.hb25 rfl rfl (f25_spec full l d.dead[k] (by omega)) rfl) ?_
          simp (disch := first | omega | (simp <;> omega) | fail) [wrap_i64, wrap_u64, wrap_u8', docsHV_getD, intsHV_getD, hgk]
          refine HT.seq ?_
          refine HT.region ?_   -- R28
          simp (disch := first | omega | (simp <;> omega) | fail) [wrap_i64, wrap_u64, wrap_u8', docsHV_getD, intsHV_getD]
          refine stepK.mk (.call1 _ _ _ _ rfl Ty.hb11 rfl (f11_spec _ _ n hsk.1 hsk.2 (by omega)) rfl rfl) ?_
          simp (disch := first | omega | (simp <;> omega) | fail) [wrap_i64, wrap_u64, wrap_u8', docsHV_getD, intsHV_getD, hq]
          refine HT.region ?_   -- R29
          simp (disch := first | omega | (simp <;> omega) | fail) [wrap_i64, wrap_u64, wrap_u8', docsHV_getD, intsHV_getD, hqn, refs3_get hqn, refs3_sub hqn (show 1 < 3 by decide), refs3_back hqn, fam3_1 hqn, div3_1, mod3_1, row3, i1, i2]
          refine HT.region ?_   -- R30
          simp (disch := first | omega | (simp <;> omega) | fail) [wrap_i64, wrap_u64, wrap_u8', docsHV_getD, intsHV_getD]
          refine Round.mk' (⟨k + 1, by omega⟩) (by dsimp only; omega) rfl ?_
          simp (disch := first | omega | (simp <;> omega) | fail) [wrap_i64, wrap_u64, wrap_u8', docsHV_getD, intsHV_getD, refs3_back' hqn, i1, i2]
          intro id o h
          by_cases e : id = 1000 + (q * 3 + 1)
          · subst e
            rw [fam3_1 hqn] at h
            simp only [Option.some.injEq] at h
            subst h
            rw [deadP_succ hk']
            simp [hq', intsHV_append, intsHV_cons]
            omega
          · rw [fam3_stepD (q := q) _ (deadP l (d.dead.take k) n) _ _ (fun m hm => by rw [deadP_succ hk', hq', if_neg (by omega), List.append_nil]) id e] at h
            obtain ⟨hge, e0, sz, es, rfl, hI⟩ := fam3_row h
            simp [h, hI, Ne.symm e, show ¬ 18 = id by omega, show ¬ 70 = id by omega, show ¬ 21 = id by omega, show ¬ 22 = id by omega]
        · skip
          refine HT.exit ?_
          simp (disch := first | omega | (simp <;> omega) | fail) [wrap_i64, wrap_u64, wrap_u8', docsHV_getD, intsHV_getD]
          refine HT.seq ?_
          refine HT.seq ?_
          refine HT.region ?_   -- R31
          simp (disch := first | omega | (simp <;> omega) | fail) [wrap_i64, wrap_u64, wrap_u8', docsHV_getD, intsHV_getD]
          refine HT.block ?_
          refine HT.loopK (fun k : {k : Nat // k ≤ d.moved.length} => [.s 132 (i64 k), .o 70 (.row 34 3 (refs 1000 3 n)), .os (fam3 n (partV d.new n) (deadP l d.dead n) (movedP l (d.moved.take k) n))]) [0, 2, 16, 130, 131] [] (fun k => d.moved.length - k) (⟨0, by omega⟩) ?_ ?_   -- block 8 turned [132]
          · skip
            simp (disch := first | omega | (simp <;> omega) | fail) [movedP, List.take_of_length_le]
            intro id o h
            have := (fam3_row h).1
            simp [h, show ¬ 70 = id by omega]
          rintro ⟨k, hk⟩
          simp (disch := first | omega | (simp <;> omega) | fail) [wrap_i64, wrap_u64, wrap_u8', docsHV_getD, intsHV_getD]
          refine HT.seq ?_
          refine HT.region ?_   -- R32
          simp (disch := first | omega | (simp <;> omega) | fail) [wrap_i64, wrap_u64, wrap_u8', docsHV_getD, intsHV_getD]
          refine HT.seq ?_
          refine HT.cond' ?_   -- if 133
          simp (disch := first | omega | (simp <;> omega) | fail) [wrap_i64, wrap_u64, wrap_u8', docsHV_getD, intsHV_getD]
          refine ⟨fun h133 => ?_, fun h133 => ?_⟩
          · skip
            have hk' : k < d.moved.length := by omega
            obtain ⟨x, hgk⟩ : ∃ x, getV l d.moved[k].id = some x := Option.ne_none_iff_exists'.1 (fun e => hnl (.inr ⟨_, List.getElem_mem hk', e⟩))
            have hsk := hs x (getV_mem hgk)
            obtain ⟨q, hq, hqn⟩ := ofV_range x.repo x.path hn1
            have hq' : whereV l d.moved[k].id n = q := by simp [whereV, hgk, hq]
            have b1 : (movedP l (d.moved.take k) n q).length ≤ 1048576 := by have := movedP_length l (d.moved.take k) n q; simp at this; omega
            have i1 : ∀ m, m < 1000 → ¬ m = 1000 + (q * 3 + 2) := by intro m h; omega
            have i2 : ∀ m, m < 1000 → ¬ 1000 + (q * 3 + 2) = m := by intro m h; omega
            refine HT.skip ?_
            simp (disch := first | omega | (simp <;> omega) | fail) [wrap_i64, wrap_u64, wrap_u8', docsHV_getD, intsHV_getD]
            refine HT.seq ?_
            refine HT.block ?_
            refine HT.seq ?_
            refine HT.region ?_   -- R33
            simp (disch := first | omega | (simp <;> omega) | fail) [wrap_i64, wrap_u64, wrap_u8', docsHV_getD, intsHV_getD]
            refine HT.seq ?_
            refine HT.region ?_   -- R34
            simp (disch := first | omega | (simp <;> omega) | fail) [wrap_i64, wrap_u64, wrap_u8', docsHV_getD, intsHV_getD]
            refine stepK.mk (.callTf _ _ _ _ _ rfl Ty.hb25 rfl rfl (f25_spec full l d.moved[k].id (by omega)) rfl) ?_
            simp (disch := first | omega | (simp <;> omega) | fail) [wrap_i64, wrap_u64, wrap_u8', docsHV_getD, intsHV_getD, hgk]
            refine HT.seq ?_
            refine HT.region ?_   -- R35
            simp (disch := first | omega | (simp <;> omega) | fail) [wrap_i64, wrap_u64, wrap_u8', docsHV_getD, intsHV_getD]
            refine stepK.mk (.call1 _ _ _ _ rfl Ty.hb11 rfl (f11_spec _ _ n hsk.1 hsk.2 (by omega)) rfl rfl) ?_
            simp (disch := first | omega | (simp <;> omega) | fail) [wrap_i64, wrap_u64, wrap_u8', docsHV_getD, intsHV_getD, hq]
            refine HT.draw [.take 0, .take 1, .take 2, .take 3, .batch [4, 5, 6, 7, 8], .one 9, .batch [10, 11], .one 12] (by kernel_rfl) ?_   -- R36
            simp (disch := first | omega | (simp <;> omega) | fail) [wrap_i64, wrap_u64, wrap_u8', docsHV_getD, intsHV_getD, hqn, refs3_get hqn, refs3_sub hqn (show 2 < 3 by decide), refs3_back hqn, fam3_2 hqn, div3_2, mod3_2, row3, i1, i2]
            refine HT.region ?_   -- R37
            simp (disch := first | omega | (simp <;> omega) | fail) [wrap_i64, wrap_u64, wrap_u8', docsHV_getD, intsHV_getD]
            refine Round.mk' (⟨k + 1, by omega⟩) (by dsimp only; omega) rfl ?_
            simp (disch := first | omega | (simp <;> omega) | fail) [wrap_i64, wrap_u64, wrap_u8', docsHV_getD, intsHV_getD, refs3_back' hqn, i1, i2]
            intro id o h
            by_cases e : id = 1000 + (q * 3 + 2)
            · subst e
              rw [fam3_2 hqn] at h
              simp only [Option.some.injEq] at h
              subst h
              rw [movedP_succ hk']
              simp [hq', docsHV_append, docsHV_cons]
              omega
            · rw [fam3_stepM (q := q) _ _ (movedP l (d.moved.take k) n) _ (fun m hm => by rw [movedP_succ hk', hq', if_neg (by omega), List.append_nil]) id e] at h
              obtain ⟨hge, e0, sz, es, rfl, hI⟩ := fam3_row h
              simp [h, hI, Ne.symm e, show ¬ 18 = id by omega, show ¬ 70 = id by omega, show ¬ 21 = id by omega, show ¬ 22 = id by omega, show ¬ 26 = id by omega, show ¬ 27 = id by omega]
          · skip
            refine HT.exit ?_
            simp (disch := first | omega | (simp <;> omega) | fail) [wrap_i64, wrap_u64, wrap_u8', docsHV_getD, intsHV_getD]
            refine HT.weaken (HS.le_frz (id := 70) (e := 34) (sz := 3) (m := n) 1000 (fun m => if m % 3 = 0 then (5, docsHV (partV d.new n (m / 3))) else if m % 3 = 1 then (1, intsHV (deadP l d.dead n (m / 3))) else (5, docsHV (movedP l d.moved n (m / 3)))) ?_ (by decide) ?_) ?_
            · simp
            · intro m hm
              have hf : fam3 n (partV d.new n) (deadP l d.dead n) (movedP l d.moved n) (1000 + m) = some (obj3 (partV d.new n) (deadP l d.dead n) (movedP l d.moved n) m) := by
                unfold fam3 fam; rw [if_pos (by omega), Nat.add_sub_cancel_left]
              have ht : d.moved.take k = d.moved := List.take_of_length_le (by omega)
              simp [ht, hf, show ¬ 70 = 1000 + m by omega]
              have h : m % 3 = 0 ∨ m % 3 = 1 ∨ m % 3 = 2 := by omega
              unfold obj3
              rcases h with h | h | h
              · exact ⟨⟨48, by simp [h]⟩, by simp [h]⟩
              · exact ⟨⟨3, by simp [h]⟩, by simp [h]⟩
              · exact ⟨⟨48, by simp [h]⟩, by simp [h]⟩
            refine HT.seq ?_
            refine HT.region ?_   -- R38
            simp (disch := first | omega | (simp <;> omega) | fail) [wrap_i64, wrap_u64, wrap_u8', docsHV_getD, intsHV_getD]
            refine HT.ret ?_
            simp (disch := first | omega | (simp <;> omega) | fail) [frzs3]
end Go.Hv
set_option linter.unusedVariables false
set_option linter.unusedSimpArgs false
namespace Go.Hv
open Go Go.Hv Go.Proofs
open Go.Proofs.Ytmpgljmmjipioaa
open Classical in
noncomputable def splitE (l : List Doc) (d : Delta) (n : Int) : Int := if lost l d then 8 else if n < 1 ∨ 4 < n then 2 else 0
noncomputable def splitH (l : List Doc) (d : Delta) (n : Int) : HV := if splitE l d n = 0 then .sl 3 false (deltasH l d n n.toNat) else .sl 0 true []
theorem splitH_0 {l : List Doc} {d : Delta} {n : Int} (h : splitE l d n = 0) : splitH l d n = .sl 3 false (deltasH l d n n.toNat) := by unfold splitH; rw [if_pos h]
theorem splitH_1 {l : List Doc} {d : Delta} {n : Int} (h : splitE l d n ≠ 0) : splitH l d n = .sl 0 true [] := by unfold splitH; rw [if_neg h]
theorem splitE_8 {l : List Doc} {d : Delta} {n : Int} (h : lost l d) : splitE l d n = 8 := by unfold splitE; rw [if_pos h]
theorem splitE_2 {l : List Doc} {d : Delta} {n : Int} (h : ¬ lost l d) (hn : n < 1 ∨ 4 < n) : splitE l d n = 2 := by unfold splitE; rw [if_neg h, if_pos hn]
theorem splitE_0 {l : List Doc} {d : Delta} {n : Int} (h : ¬ lost l d) (hn : 1 ≤ n ∧ n ≤ 4) : splitE l d n = 0 := by unfold splitE; rw [if_neg h, if_neg (by omega)]
theorem f16_spec (full : Bool) (l : List Doc) (d : Delta) (n : Int) (hl : l.length ≤ 1048576) (hs : Short l) (hsn : Short d.new) (h1 : d.new.length ≤ 1048576) (h2 : d.dead.length ≤ 1048576) (h3 : d.moved.length ≤ 1048576) :
    SpecT Try.prog 16 [.sl 5 full (docsHV l), .agg d.enc, i64 n] [splitH l d n, i64 (splitE l d n)] := by
  by_cases hlost : lost l d
  · have h := splitE_8 (n := n) hlost
    rw [splitH_1 (by rw [h]; decide), h]
    exact f16_lost full l d n (by omega) (by omega) (by omega) hlost
  by_cases hn : n < 1 ∨ 4 < n
  · have h := splitE_2 hlost hn
    rw [splitH_1 (by rw [h]; decide), h]
    exact f16_out full l d n (by omega) (by omega) (by omega) hlost hn
  · have h := splitE_0 (n := n) hlost (by omega)
    rw [splitH_0 h, h]
    obtain ⟨m, rfl⟩ : ∃ m : Nat, n = m := ⟨n.toNat, by omega⟩
    exact f16_ok full l d m hl hs hsn h1 h2 h3 hlost (by omega) (by omega)
set_option maxHeartbeats 4000000 in
theorem f17_spec (full : Bool) (l : List Doc) (d : Delta) (n : Int) (hl : l.length ≤ 1048576) (hs : Short l) (hsn : Short d.new) (h1 : d.new.length ≤ 1048576) (h2 : d.dead.length ≤ 1048576) (h3 : d.moved.length ≤ 1048576) : SpecT Try.prog 17 [.sl 5 full (docsHV l), .agg d.enc, i64 n] [splitH l d n, i64 (splitE l d n)] := by
  refine SpecT.of_HT Try.func17 rfl (by rw [Try.ntmps17]; simp) (rs := [.tmp 6, .tmp 7]) rfl (by decide) ?_
  rw [Try.ntmps17]
  refine HT.seq ?_
  refine HT.region ?_   -- R0
  simp (disch := first | omega | (simp <;> omega) | fail) [wrap_i64, wrap_u64, wrap_u8', docsHV_getD, intsHV_getD]
  refine HT.seq ?_
  refine HT.seq ?_
  refine HT.region ?_   -- R1
  simp (disch := first | omega | (simp <;> omega) | fail) [wrap_i64, wrap_u64, wrap_u8', docsHV_getD, intsHV_getD]
  refine HT.block ?_
  refine HT.loopK (fun k : {k : Nat // k ≤ d.dead.length ∧ ∀ id ∈ d.dead.take k, getV l id ≠ none} => [.s 8 (i64 k)]) [0, 2, 4, 62, 63] [4] (fun k => d.dead.length - k) (⟨0, by simp⟩) ?_ ?_   -- block 0 turned [8]
  · simp (disch := first | omega | (simp <;> omega) | fail) [wrap_i64, wrap_u64, wrap_u8', docsHV_getD, intsHV_getD]
  rintro ⟨k, hk, hg⟩
  simp (disch := first | omega | (simp <;> omega) | fail) [wrap_i64, wrap_u64, wrap_u8', docsHV_getD, intsHV_getD]
  refine HT.seq ?_
  refine HT.seq ?_
  refine HT.region ?_   -- R2
  simp (disch := first | omega | (simp <;> omega) | fail) [wrap_i64, wrap_u64, wrap_u8', docsHV_getD, intsHV_getD]
  refine HT.cond' ?_   -- if 24
  simp (disch := first | omega | (simp <;> omega) | fail) [wrap_i64, wrap_u64, wrap_u8', docsHV_getD, intsHV_getD]
  refine ⟨fun h24 => ?_, fun h24 => ?_⟩
  · skip
    have hk' : k < d.dead.length := by omega
    refine HT.skip ?_
    simp (disch := first | omega | (simp <;> omega) | fail) [wrap_i64, wrap_u64, wrap_u8', docsHV_getD, intsHV_getD]
    refine HT.seq ?_
    refine HT.block ?_
    refine HT.seq ?_
    refine HT.region ?_   -- R4
    simp (disch := first | omega | (simp <;> omega) | fail) [wrap_i64, wrap_u64, wrap_u8', docsHV_getD, intsHV_getD]
    refine stepK.mk (.callTf _ _ _ _ _ rfl Ty.hb26 rfl rfl (f26_spec full l d.dead[k] (by omega)) rfl) ?_
    simp (disch := first | omega | (simp <;> omega) | fail) [wrap_i64, wrap_u64, wrap_u8', docsHV_getD, intsHV_getD]
    refine HT.seq ?_
    refine HT.region ?_   -- R5
    simp (disch := first | omega | (simp <;> omega) | fail) [wrap_i64, wrap_u64, wrap_u8', docsHV_getD, intsHV_getD]
    refine HT.cond' ?_   -- if 38
    simp (disch := first | omega | (simp <;> omega) | fail) [wrap_i64, wrap_u64, wrap_u8', docsHV_getD, intsHV_getD]
    refine ⟨fun h38 => ?_, fun h38 => ?_⟩
    · skip
      have hlost : lost l d := .inl ⟨_, List.getElem_mem hk', by simpa using h38⟩
      have he := splitE_8 (n := n) hlost
      refine HT.seq ?_
      refine HT.region ?_   -- R6
      simp (disch := first | omega | (simp <;> omega) | fail) [wrap_i64, wrap_u64, wrap_u8', docsHV_getD, intsHV_getD]
      refine HT.ret ?_
      simp (disch := first | omega | (simp <;> omega) | fail) [wrap_i64, wrap_u64, wrap_u8', docsHV_getD, intsHV_getD, he, splitH]
    · skip
      have h38 : getV l d.dead[k] ≠ none := by simpa [Option.isSome_iff_ne_none] using h38
      refine HT.skip ?_
      simp (disch := first | omega | (simp <;> omega) | fail) [wrap_i64, wrap_u64, wrap_u8', docsHV_getD, intsHV_getD]
      refine HT.region ?_   -- R3
      simp (disch := first | omega | (simp <;> omega) | fail) [wrap_i64, wrap_u64, wrap_u8', docsHV_getD, intsHV_getD]
      refine Round.mk' (⟨k + 1, by omega, fun id hid => by rw [List.take_succ_eq_append_getElem hk'] at hid; rcases List.mem_append.1 hid with hid | hid; exact hg id hid; simp at hid; subst hid; exact h38⟩) (by dsimp only; omega) rfl ?_
      simp (disch := first | omega | (simp <;> omega) | fail) [wrap_i64, wrap_u64, wrap_u8', docsHV_getD, intsHV_getD]
  · skip
    obtain rfl : k = d.dead.length := by omega
    rw [List.take_length] at hg
    refine HT.exit ?_
    simp (disch := first | omega | (simp <;> omega) | fail) [wrap_i64, wrap_u64, wrap_u8', docsHV_getD, intsHV_getD]
    refine HT.seq ?_
    refine HT.seq ?_
    refine HT.region ?_   -- R7
    simp (disch := first | omega | (simp <;> omega) | fail) [wrap_i64, wrap_u64, wrap_u8', docsHV_getD, intsHV_getD]
    refine HT.block ?_
    refine HT.loopK (fun k : {k : Nat // k ≤ d.moved.length ∧ ∀ m ∈ d.moved.take k, getV l m.id ≠ none} => [.s 11 (i64 k)]) [0, 2, 4, 62, 63] [4] (fun k => d.moved.length - k) (⟨0, by simp⟩) ?_ ?_   -- block 2 turned [11]
    · simp (disch := first | omega | (simp <;> omega) | fail) [wrap_i64, wrap_u64, wrap_u8', docsHV_getD, intsHV_getD]
    rintro ⟨k, hk, hg2⟩
    simp (disch := first | omega | (simp <;> omega) | fail) [wrap_i64, wrap_u64, wrap_u8', docsHV_getD, intsHV_getD]
    refine HT.seq ?_
    refine HT.seq ?_
    refine HT.region ?_   -- R8
    simp (disch := first | omega | (simp <;> omega) | fail) [wrap_i64, wrap_u64, wrap_u8', docsHV_getD, intsHV_getD]
    refine HT.cond' ?_   -- if 43
    simp (disch := first | omega | (simp <;> omega) | fail) [wrap_i64, wrap_u64, wrap_u8', docsHV_getD, intsHV_getD]
    refine ⟨fun h43 => ?_, fun h43 => ?_⟩
    · skip
      have hk' : k < d.moved.length := by omega
      refine HT.skip ?_
      simp (disch := first | omega | (simp <;> omega) | fail) [wrap_i64, wrap_u64, wrap_u8', docsHV_getD, intsHV_getD]
      refine HT.seq ?_
      refine HT.block ?_
      refine HT.seq ?_
      refine HT.region ?_   -- R10
      simp (disch := first | omega | (simp <;> omega) | fail) [wrap_i64, wrap_u64, wrap_u8', docsHV_getD, intsHV_getD]
      refine stepK.mk (.callTf _ _ _ _ _ rfl Ty.hb26 rfl rfl (f26_spec full l d.moved[k].id (by omega)) rfl) ?_
      simp (disch := first | omega | (simp <;> omega) | fail) [wrap_i64, wrap_u64, wrap_u8', docsHV_getD, intsHV_getD]
      refine HT.seq ?_
      refine HT.region ?_   -- R11
      simp (disch := first | omega | (simp <;> omega) | fail) [wrap_i64, wrap_u64, wrap_u8', docsHV_getD, intsHV_getD]
      refine HT.cond' ?_   -- if 58
      simp (disch := first | omega | (simp <;> omega) | fail) [wrap_i64, wrap_u64, wrap_u8', docsHV_getD, intsHV_getD]
      refine ⟨fun h58 => ?_, fun h58 => ?_⟩
      · skip
        have hlost : lost l d := .inr ⟨_, List.getElem_mem hk', by simpa using h58⟩
        have he := splitE_8 (n := n) hlost
        refine HT.seq ?_
        refine HT.region ?_   -- R12
        simp (disch := first | omega | (simp <;> omega) | fail) [wrap_i64, wrap_u64, wrap_u8', docsHV_getD, intsHV_getD]
        refine HT.ret ?_
        simp (disch := first | omega | (simp <;> omega) | fail) [wrap_i64, wrap_u64, wrap_u8', docsHV_getD, intsHV_getD, he, splitH]
      · skip
        have h58 : getV l d.moved[k].id ≠ none := by simpa [Option.isSome_iff_ne_none] using h58
        refine HT.skip ?_
        simp (disch := first | omega | (simp <;> omega) | fail) [wrap_i64, wrap_u64, wrap_u8', docsHV_getD, intsHV_getD]
        refine HT.region ?_   -- R9
        simp (disch := first | omega | (simp <;> omega) | fail) [wrap_i64, wrap_u64, wrap_u8', docsHV_getD, intsHV_getD]
        refine Round.mk' (⟨k + 1, by omega, fun m hm => by rw [List.take_succ_eq_append_getElem hk'] at hm; rcases List.mem_append.1 hm with hm | hm; exact hg2 m hm; simp at hm; subst hm; exact h58⟩) (by dsimp only; omega) rfl ?_
        simp (disch := first | omega | (simp <;> omega) | fail) [wrap_i64, wrap_u64, wrap_u8', docsHV_getD, intsHV_getD]
    · skip
      obtain rfl : k = d.moved.length := by omega
      rw [List.take_length] at hg2
      have hnl : ¬ lost l d := by rintro (⟨id, h1, h2⟩ | ⟨m, h1, h2⟩); exact hg id h1 h2; exact hg2 m h1 h2
      refine HT.exit ?_
      simp (disch := first | omega | (simp <;> omega) | fail) [wrap_i64, wrap_u64, wrap_u8', docsHV_getD, intsHV_getD]
      refine HT.seq ?_
      refine HT.seq ?_
      by_cases hn : n < 1 ∨ 4 < n
      · have he := splitE_2 hnl hn
        by_cases hn1 : n < 1
        · refine HT.region ?_
          simp (disch := first | omega | (simp <;> omega) | fail) [wrap_i64, wrap_u64, wrap_u8', docsHV_getD, intsHV_getD]
          refine HT.cond' ?_
          simp (disch := first | omega | (simp <;> omega) | fail) [wrap_i64, wrap_u64, wrap_u8', docsHV_getD, intsHV_getD]
          refine HT.seq (HT.region ?_)
          simp (disch := first | omega | (simp <;> omega) | fail) [wrap_i64, wrap_u64, wrap_u8', docsHV_getD, intsHV_getD]
          refine HT.ret ?_
          simp (disch := first | omega | (simp <;> omega) | fail) [wrap_i64, wrap_u64, wrap_u8', docsHV_getD, intsHV_getD, he, splitH]
        · refine HT.region ?_
          simp (disch := first | omega | (simp <;> omega) | fail) [wrap_i64, wrap_u64, wrap_u8', docsHV_getD, intsHV_getD]
          refine HT.cond' ?_
          simp (disch := first | omega | (simp <;> omega) | fail) [wrap_i64, wrap_u64, wrap_u8', docsHV_getD, intsHV_getD]
          refine HT.seq (HT.region ?_)
          simp (disch := first | omega | (simp <;> omega) | fail) [wrap_i64, wrap_u64, wrap_u8', docsHV_getD, intsHV_getD]
          refine HT.ret ?_
          simp (disch := first | omega | (simp <;> omega) | fail) [wrap_i64, wrap_u64, wrap_u8', docsHV_getD, intsHV_getD, he, splitH]
      obtain ⟨m, rfl⟩ : ∃ m : Nat, n = m := ⟨n.toNat, by omega⟩
      refine HT.region ?_   -- R13
      simp (disch := first | omega | (simp <;> omega) | fail) [wrap_i64, wrap_u64, wrap_u8', docsHV_getD, intsHV_getD]
      refine HT.cond' ?_   -- if 64
      simp (disch := first | omega | (simp <;> omega) | fail) [wrap_i64, wrap_u64, wrap_u8', docsHV_getD, intsHV_getD]
      refine HT.skip ?_
      simp (disch := first | omega | (simp <;> omega) | fail) [wrap_i64, wrap_u64, wrap_u8', docsHV_getD, intsHV_getD]
      refine HT.seq ?_
      refine HT.region ?_   -- R15
      simp (disch := first | omega | (simp <;> omega) | fail) [wrap_i64, wrap_u64, wrap_u8', docsHV_getD, intsHV_getD]
      refine HT.seq ?_
      refine HT.seq ?_
      refine HT.region ?_   -- R16
      simp (disch := first | omega | (simp <;> omega) | fail) [wrap_i64, wrap_u64, wrap_u8', docsHV_getD, intsHV_getD]
      refine HT.weaken (HS.le_own (t := 14) 203 34 3 _ (by decide) rfl (by decide)) ?_
      refine HT.block ?_
      refine HT.loopK (fun i : {i : Nat // i ≤ m} => [.s 15 (i64 i), .s 14 (.ref 203), .o 203 (.row 34 3 (deltasH l d m i))]) [0, 2, 4] [4] (fun i => m - i) (⟨0, by omega⟩) ?_ ?_   -- block 4 turned [14, 15]
      · simp (disch := first | omega | (simp <;> omega) | fail) [wrap_i64, wrap_u64, wrap_u8', docsHV_getD, intsHV_getD, show deltasH l d m 0 = [] from rfl]
      rintro ⟨i, hi⟩
      simp (disch := first | omega | (simp <;> omega) | fail) [wrap_i64, wrap_u64, wrap_u8', docsHV_getD, intsHV_getD]
      refine HT.seq ?_
      refine HT.seq ?_
      refine HT.region ?_   -- R17
      simp (disch := first | omega | (simp <;> omega) | fail) [wrap_i64, wrap_u64, wrap_u8', docsHV_getD, intsHV_getD]
      refine HT.cond' ?_   -- if 67
      simp (disch := first | omega | (simp <;> omega) | fail) [wrap_i64, wrap_u64, wrap_u8', docsHV_getD, intsHV_getD]
      refine ⟨fun h67 => ?_, fun h67 => ?_⟩
      · skip
        refine HT.skip ?_
        simp (disch := first | omega | (simp <;> omega) | fail) [wrap_i64, wrap_u64, wrap_u8', docsHV_getD, intsHV_getD]
        refine HT.seq ?_
        refine HT.block ?_
        refine HT.seq ?_
        refine HT.region ?_   -- R19
        simp (disch := first | omega | (simp <;> omega) | fail) [wrap_i64, wrap_u64, wrap_u8', docsHV_getD, intsHV_getD]
        refine HT.seq ?_
        refine HT.seq ?_
        refine HT.region ?_   -- R20
        simp (disch := first | omega | (simp <;> omega) | fail) [wrap_i64, wrap_u64, wrap_u8', docsHV_getD, intsHV_getD]
        refine HT.weaken (HS.le_boxown 16 0 200 48 5 0 rfl rfl (by decide) (by decide)) ?_
        refine HT.weaken (HS.le_boxown 16 1 201 3 1 0 rfl rfl (by decide) (by decide)) ?_
        refine HT.weaken (HS.le_boxown 16 2 202 48 5 0 rfl rfl (by decide) (by decide)) ?_
        refine HT.block ?_
        refine HT.loopK (fun k : {k : Nat // k ≤ d.new.length} => [.s 17 (i64 k), .o 16 (.box [.ref 200, .ref 201, .ref 202]), .o 200 (.row 48 5 (docsHV (partV (d.new.take k) m i))), .o 201 (.row 3 1 []), .o 202 (.row 48 5 [])]) [0, 2, 4, 14, 15, 16] [4, 203] (fun k => d.new.length - k) (⟨0, by omega⟩) ?_ ?_   -- block 6 turned [17]
        · simp (disch := first | omega | (simp <;> omega) | fail) [wrap_i64, wrap_u64, wrap_u8', docsHV_getD, intsHV_getD, partV]
        rintro ⟨k, hk⟩
        simp (disch := first | omega | (simp <;> omega) | fail) [wrap_i64, wrap_u64, wrap_u8', docsHV_getD, intsHV_getD]
        refine HT.seq ?_
        refine HT.seq ?_
        refine HT.region ?_   -- R21
        simp (disch := first | omega | (simp <;> omega) | fail) [wrap_i64, wrap_u64, wrap_u8', docsHV_getD, intsHV_getD]
        refine HT.cond' ?_   -- if 74
        simp (disch := first | omega | (simp <;> omega) | fail) [wrap_i64, wrap_u64, wrap_u8', docsHV_getD, intsHV_getD]
        refine ⟨fun h74 => ?_, fun h74 => ?_⟩
        · skip
          have hk' : k < d.new.length := by omega
          have hsk := hsn _ (List.getElem_mem hk')
          have b1 : (partV (d.new.take k) m i).length ≤ 1048576 := by have := partV_length (d.new.take k) m i; simp at this; omega
          refine HT.skip ?_
          simp (disch := first | omega | (simp <;> omega) | fail) [wrap_i64, wrap_u64, wrap_u8', docsHV_getD, intsHV_getD]
          refine HT.seq ?_
          refine HT.block ?_
          refine HT.seq ?_
          refine HT.draw [.batch [0, 1, 2, 3, 4, 5, 6, 7, 8, 9, 10, 11, 12, 13, 14, 15]] (by kernel_rfl) ?_   -- R23
          simp (disch := first | omega | (simp <;> omega) | fail) [wrap_i64, wrap_u64, wrap_u8', docsHV_getD, intsHV_getD]
          refine stepK.mk (.call1 _ _ _ rfl Ty.hb12 rfl rfl (f12_spec _ _ m hsk.1 hsk.2 (by omega))) ?_
          simp (disch := first | omega | (simp <;> omega) | fail) [wrap_i64, wrap_u64, wrap_u8', docsHV_getD, intsHV_getD]
          refine HT.cond' ?_   -- if 92
          simp (disch := first | omega | (simp <;> omega) | fail) [wrap_i64, wrap_u64, wrap_u8', docsHV_getD, intsHV_getD]
          refine ⟨fun h92 => ?_, fun h92 => ?_⟩
          · skip
            refine HT.draw [.take 4, .batch [0, 1, 2, 3, 5, 6, 7], .one 8, .batch [9], .one 10] (by kernel_rfl) ?_   -- R24
            simp (disch := first | omega | (simp <;> omega) | fail) [wrap_i64, wrap_u64, wrap_u8', docsHV_getD, intsHV_getD]
            refine HT.region ?_   -- R22
            simp (disch := first | omega | (simp <;> omega) | fail) [wrap_i64, wrap_u64, wrap_u8', docsHV_getD, intsHV_getD]
            refine Round.mk' (⟨k + 1, by omega⟩) (by dsimp only; omega) rfl ?_
            simp (disch := first | omega | (simp <;> omega) | fail) [wrap_i64, wrap_u64, wrap_u8', docsHV_getD, intsHV_getD, partV_succ hk', docsHV_append, docsHV_cons, h92]
          · skip
            refine HT.skip ?_
            simp (disch := first | omega | (simp <;> omega) | fail) [wrap_i64, wrap_u64, wrap_u8', docsHV_getD, intsHV_getD]
            refine HT.region ?_   -- R22
            simp (disch := first | omega | (simp <;> omega) | fail) [wrap_i64, wrap_u64, wrap_u8', docsHV_getD, intsHV_getD]
            refine Round.mk' (⟨k + 1, by omega⟩) (by dsimp only; omega) rfl ?_
            simp (disch := first | omega | (simp <;> omega) | fail) [wrap_i64, wrap_u64, wrap_u8', docsHV_getD, intsHV_getD, partV_succ hk', docsHV_append, docsHV_cons, h92]
        · skip
          obtain rfl : k = d.new.length := by omega
          refine HT.exit ?_
          simp (disch := first | omega | (simp <;> omega) | fail) [wrap_i64, wrap_u64, wrap_u8', docsHV_getD, intsHV_getD]
          refine HT.seq ?_
          refine HT.seq ?_
          refine HT.region ?_   -- R25
          simp (disch := first | omega | (simp <;> omega) | fail) [wrap_i64, wrap_u64, wrap_u8', docsHV_getD, intsHV_getD]
          refine HT.block ?_
          refine HT.loopK (fun k : {k : Nat // k ≤ d.dead.length} => [.s 18 (i64 k), .o 16 (.box [.ref 200, .ref 201, .ref 202]), .o 200 (.row 48 5 (docsHV (partV d.new m i))), .o 201 (.row 3 1 (intsHV (deadP l (d.dead.take k) m i))), .o 202 (.row 48 5 [])]) [0, 2, 4, 14, 15, 16] [4, 203] (fun k => d.dead.length - k) (⟨0, by omega⟩) ?_ ?_   -- block 8 turned [18]
          · simp (disch := first | omega | (simp <;> omega) | fail) [wrap_i64, wrap_u64, wrap_u8', docsHV_getD, intsHV_getD, deadP]
          rintro ⟨k, hk⟩
          simp (disch := first | omega | (simp <;> omega) | fail) [wrap_i64, wrap_u64, wrap_u8', docsHV_getD, intsHV_getD]
          refine HT.seq ?_
          refine HT.seq ?_
          refine HT.region ?_   -- R26
          simp (disch := first | omega | (simp <;> omega) | fail) [wrap_i64, wrap_u64, wrap_u8', docsHV_getD, intsHV_getD]
          refine HT.cond' ?_   -- if 107
          simp (disch := first | omega | (simp <;> omega) | fail) [wrap_i64, wrap_u64, wrap_u8', docsHV_getD, intsHV_getD]
          refine ⟨fun h107 => ?_, fun h107 => ?_⟩
          · skip
            have hk' : k < d.dead.length := by omega
            have b1 : (deadP l (d.dead.take k) m i).length ≤ 1048576 := by have := deadP_length l (d.dead.take k) m i; simp at this; omega
            refine HT.skip ?_
            simp (disch := first | omega | (simp <;> omega) | fail) [wrap_i64, wrap_u64, wrap_u8', docsHV_getD, intsHV_getD]
            refine HT.seq ?_
            refine HT.block ?_
            refine HT.seq ?_
            refine HT.region ?_   -- R28
            simp (disch := first | omega | (simp <;> omega) | fail) [wrap_i64, wrap_u64, wrap_u8', docsHV_getD, intsHV_getD]
            refine stepK.mk (.call1 _ _ _ _ rfl Ty.hb27 rfl (f27_spec full l d.dead[k] m (by omega) hs (by omega)) rfl rfl) ?_
            simp (disch := first | omega | (simp <;> omega) | fail) [wrap_i64, wrap_u64, wrap_u8', docsHV_getD, intsHV_getD]
            refine HT.cond' ?_   -- if 119
            simp (disch := first | omega | (simp <;> omega) | fail) [wrap_i64, wrap_u64, wrap_u8', docsHV_getD, intsHV_getD]
            refine ⟨fun h119 => ?_, fun h119 => ?_⟩
            · skip
              refine HT.draw [.take 4, .batch [0, 1, 2, 3, 5, 6, 7], .one 8, .batch [9], .one 10] (by kernel_rfl) ?_   -- R29
              simp (disch := first | omega | (simp <;> omega) | fail) [wrap_i64, wrap_u64, wrap_u8', docsHV_getD, intsHV_getD]
              refine HT.region ?_   -- R27
              simp (disch := first | omega | (simp <;> omega) | fail) [wrap_i64, wrap_u64, wrap_u8', docsHV_getD, intsHV_getD]
              refine Round.mk' (⟨k + 1, by omega⟩) (by dsimp only; omega) rfl ?_
              simp (disch := first | omega | (simp <;> omega) | fail) [wrap_i64, wrap_u64, wrap_u8', docsHV_getD, intsHV_getD, deadP_succ hk', intsHV_append, intsHV_cons, h119]
            · skip
              refine HT.skip ?_
              simp (disch := first | omega | (simp <;> omega) | fail) [wrap_i64, wrap_u64, wrap_u8', docsHV_getD, intsHV_getD]
              refine HT.region ?_   -- R27
              simp (disch := first | omega | (simp <;> omega) | fail) [wrap_i64, wrap_u64, wrap_u8', docsHV_getD, intsHV_getD]
              refine Round.mk' (⟨k + 1, by omega⟩) (by dsimp only; omega) rfl ?_
              simp (disch := first | omega | (simp <;> omega) | fail) [wrap_i64, wrap_u64, wrap_u8', docsHV_getD, intsHV_getD, deadP_succ hk', intsHV_append, intsHV_cons, h119]
          · skip
            obtain rfl : k = d.dead.length := by omega
            refine HT.exit ?_
            simp (disch := first | omega | (simp <;> omega) | fail) [wrap_i64, wrap_u64, wrap_u8', docsHV_getD, intsHV_getD]
            refine HT.seq ?_
            refine HT.seq ?_
            refine HT.region ?_   -- R30
            simp (disch := first | omega | (simp <;> omega) | fail) [wrap_i64, wrap_u64, wrap_u8', docsHV_getD, intsHV_getD]
            refine HT.block ?_
            refine HT.loopK (fun k : {k : Nat // k ≤ d.moved.length} => [.s 19 (i64 k), .o 16 (.box [.ref 200, .ref 201, .ref 202]), .o 200 (.row 48 5 (docsHV (partV d.new m i))), .o 201 (.row 3 1 (intsHV (deadP l d.dead m i))), .o 202 (.row 48 5 (docsHV (movedP l (d.moved.take k) m i)))]) [0, 2, 4, 14, 15, 16] [4, 203] (fun k => d.moved.length - k) (⟨0, by omega⟩) ?_ ?_   -- block 10 turned [19]
            · simp (disch := first | omega | (simp <;> omega) | fail) [wrap_i64, wrap_u64, wrap_u8', docsHV_getD, intsHV_getD, movedP]
            rintro ⟨k, hk⟩
            simp (disch := first | omega | (simp <;> omega) | fail) [wrap_i64, wrap_u64, wrap_u8', docsHV_getD, intsHV_getD]
            refine HT.seq ?_
            refine HT.seq ?_
            refine HT.region ?_   -- R31
            simp (disch := first | omega | (simp <;> omega) | fail) [wrap_i64, wrap_u64, wrap_u8', docsHV_getD, intsHV_getD]
            refine HT.cond' ?_   -- if 134
            simp (disch := first | omega | (simp <;> omega) | fail) [wrap_i64, wrap_u64, wrap_u8', docsHV_getD, intsHV_getD]
            refine ⟨fun h134 => ?_, fun h134 => ?_⟩
            · skip
              have hk' : k < d.moved.length := by omega
              have b1 : (movedP l (d.moved.take k) m i).length ≤ 1048576 := by have := movedP_length l (d.moved.take k) m i; simp at this; omega
              refine HT.skip ?_
              simp (disch := first | omega | (simp <;> omega) | fail) [wrap_i64, wrap_u64, wrap_u8', docsHV_getD, intsHV_getD]
              refine HT.seq ?_
              refine HT.block ?_
              refine HT.seq ?_
              refine HT.region ?_   -- R33
              simp (disch := first | omega | (simp <;> omega) | fail) [wrap_i64, wrap_u64, wrap_u8', docsHV_getD, intsHV_getD]
              refine stepK.mk (.call1 _ _ _ _ rfl Ty.hb27 rfl (f27_spec full l d.moved[k].id m (by omega) hs (by omega)) rfl rfl) ?_
              simp (disch := first | omega | (simp <;> omega) | fail) [wrap_i64, wrap_u64, wrap_u8', docsHV_getD, intsHV_getD]
              refine HT.cond' ?_   -- if 147
              simp (disch := first | omega | (simp <;> omega) | fail) [wrap_i64, wrap_u64, wrap_u8', docsHV_getD, intsHV_getD]
              refine ⟨fun h147 => ?_, fun h147 => ?_⟩
              · skip
                refine HT.draw [.take 4, .batch [0, 1, 2, 3, 5, 6, 7], .one 8, .batch [9], .one 10] (by kernel_rfl) ?_   -- R34
                simp (disch := first | omega | (simp <;> omega) | fail) [wrap_i64, wrap_u64, wrap_u8', docsHV_getD, intsHV_getD]
                refine HT.region ?_   -- R32
                simp (disch := first | omega | (simp <;> omega) | fail) [wrap_i64, wrap_u64, wrap_u8', docsHV_getD, intsHV_getD]
                refine Round.mk' (⟨k + 1, by omega⟩) (by dsimp only; omega) rfl ?_
                simp (disch := first | omega | (simp <;> omega) | fail) [wrap_i64, wrap_u64, wrap_u8', docsHV_getD, intsHV_getD, movedP_succ hk', docsHV_append, docsHV_cons, h147]
              · skip
                refine HT.skip ?_
                simp (disch := first | omega | (simp <;> omega) | fail) [wrap_i64, wrap_u64, wrap_u8', docsHV_getD, intsHV_getD]
                refine HT.region ?_   -- R32
                simp (disch := first | omega | (simp <;> omega) | fail) [wrap_i64, wrap_u64, wrap_u8', docsHV_getD, intsHV_getD]
                refine Round.mk' (⟨k + 1, by omega⟩) (by dsimp only; omega) rfl ?_
                simp (disch := first | omega | (simp <;> omega) | fail) [wrap_i64, wrap_u64, wrap_u8', docsHV_getD, intsHV_getD, movedP_succ hk', docsHV_append, docsHV_cons, h147]
            · skip
              obtain rfl : k = d.moved.length := by omega
              refine HT.exit ?_
              simp (disch := first | omega | (simp <;> omega) | fail) [wrap_i64, wrap_u64, wrap_u8', docsHV_getD, intsHV_getD]
              refine HT.region ?_   -- R35
              simp (disch := first | omega | (simp <;> omega) | fail) [wrap_i64, wrap_u64, wrap_u8', docsHV_getD, intsHV_getD]
              refine HT.region ?_   -- R18
              simp (disch := first | omega | (simp <;> omega) | fail) [wrap_i64, wrap_u64, wrap_u8', docsHV_getD, intsHV_getD]
              refine Round.mk' (⟨i + 1, by omega⟩) (by dsimp only; omega) rfl ?_
              simp (disch := first | omega | (simp <;> omega) | fail) [wrap_i64, wrap_u64, wrap_u8', docsHV_getD, intsHV_getD, deltasH_succ]
      · skip
        obtain rfl : i = m := by omega
        refine HT.exit ?_
        simp (disch := first | omega | (simp <;> omega) | fail) [wrap_i64, wrap_u64, wrap_u8', docsHV_getD, intsHV_getD]
        refine HT.seq ?_
        refine HT.region ?_   -- R36
        simp (disch := first | omega | (simp <;> omega) | fail) [wrap_i64, wrap_u64, wrap_u8', docsHV_getD, intsHV_getD]
        refine HT.ret ?_
        have he := splitE_0 hnl (n := i) (by omega)
        simp (disch := first | omega | (simp <;> omega) | fail) [wrap_i64, wrap_u64, wrap_u8', docsHV_getD, intsHV_getD, he, splitH]
end Go.Hv
set_option linter.unusedVariables false
set_option linter.unusedSimpArgs false
namespace Go.Hv
open Go Go.Hv Go.Proofs
open Go.Proofs.Ytmpgljmmjipioaa
theorem splitE_range {l : List Doc} {d : Delta} {n : Int} (h : splitE l d n = 0) : 1 ≤ n ∧ n ≤ 4 := by
  unfold splitE at h
  split at h
  · cases h
  · split at h
    · cases h
    · omega
@[simp] theorem deltasH_getElem (l : List Doc) (d : Delta) (n : Int) (m k : Nat) (h : k < (deltasH l d n m).length) : (deltasH l d n m)[k] = [.sl 5 false (docsHV (partV d.new n k)), .sl 1 false (intsHV (deadP l d.dead n k)), .sl 5 false (docsHV (movedP l d.moved n k))] := by
  simp [deltasH]
set_option maxHeartbeats 4000000 in
theorem f5_ok (full : Bool) (l : List Doc) (d : Delta) (n : Nat) (hl : l.length ≤ 1048576) (kl : ∀ x ∈ l, DocK x) (h1 : d.new.length ≤ 1048576) (k1 : ∀ x ∈ d.new, DocK x) (h2 : d.dead.length ≤ 1048576) (h3 : d.moved.length ≤ 1048576) (k3 : ∀ x ∈ d.moved, DocK x) (he : splitE l d n = 0) : Spec1 Try.prog 5 [.sl 5 full (docsHV l), .agg d.enc, i64 n] (bo true) := by
  have hr := splitE_range he
  have hH : splitH l d n = .sl 3 false (deltasH l d n n) := splitH_0 he
  have hs : Short l := fun d hd => ⟨(kl d hd).1, (kl d hd).2.1⟩
  have hsn : Short d.new := fun d hd => ⟨(k1 d hd).1, (k1 d hd).2.1⟩
  refine Spec1.of_HT Try.func5 rfl (by rw [Try.ntmps5]; simp) rfl ?_
  rw [Try.ntmps5]
  refine HT.seq ?_
  refine HT.region ?_   -- R0
  simp (disch := first | omega | (simp <;> omega) | fail) [wrap_i64, wrap_u64, wrap_u8']
  refine HT.seq ?_
  refine HT.seq ?_
  refine HT.region ?_   -- R1
  simp (disch := first | omega | (simp <;> omega) | fail) [wrap_i64, wrap_u64, wrap_u8']
  refine stepK.mk (.call1 _ _ _ _ rfl Ty.hb8 rfl (f8_spec) rfl rfl) ?_
  simp (disch := first | omega | (simp <;> omega) | fail) [wrap_i64, wrap_u64, wrap_u8']
  refine HT.cond' ?_   -- if 13
  simp (disch := first | omega | (simp <;> omega) | fail) [wrap_i64, wrap_u64, wrap_u8']
  refine HT.skip ?_
  simp (disch := first | omega | (simp <;> omega) | fail) [wrap_i64, wrap_u64, wrap_u8']
  refine HT.seq ?_
  refine HT.seq ?_
  by_cases c1 : 80 < l.length
  · skip
    refine HT.region ?_   -- R3
    simp (disch := first | omega | (simp <;> omega) | fail) [wrap_i64, wrap_u64, wrap_u8']
    refine HT.cond' ?_   -- if 34
    simp (disch := first | omega | (simp <;> omega) | fail) [wrap_i64, wrap_u64, wrap_u8']
    refine HT.seq ?_
    refine HT.region ?_   -- R4
    simp (disch := first | omega | (simp <;> omega) | fail) [wrap_i64, wrap_u64, wrap_u8']
    refine HT.ret ?_
    simp (disch := first | omega | (simp <;> omega) | fail) [wrap_i64, wrap_u64, wrap_u8']
  by_cases c2 : 80 < d.new.length
  · skip
    refine HT.region ?_   -- R3
    simp (disch := first | omega | (simp <;> omega) | fail) [wrap_i64, wrap_u64, wrap_u8']
    refine HT.cond' ?_   -- if 34
    simp (disch := first | omega | (simp <;> omega) | fail) [wrap_i64, wrap_u64, wrap_u8']
    refine HT.seq ?_
    refine HT.region ?_   -- R4
    simp (disch := first | omega | (simp <;> omega) | fail) [wrap_i64, wrap_u64, wrap_u8']
    refine HT.ret ?_
    simp (disch := first | omega | (simp <;> omega) | fail) [wrap_i64, wrap_u64, wrap_u8']
  by_cases c3 : 80 < d.dead.length
  · skip
    refine HT.region ?_   -- R3
    simp (disch := first | omega | (simp <;> omega) | fail) [wrap_i64, wrap_u64, wrap_u8']
    refine HT.cond' ?_   -- if 34
    simp (disch := first | omega | (simp <;> omega) | fail) [wrap_i64, wrap_u64, wrap_u8']
    refine HT.seq ?_
    refine HT.region ?_   -- R4
    simp (disch := first | omega | (simp <;> omega) | fail) [wrap_i64, wrap_u64, wrap_u8']
    refine HT.ret ?_
    simp (disch := first | omega | (simp <;> omega) | fail) [wrap_i64, wrap_u64, wrap_u8']
  by_cases c4 : 80 < d.moved.length
  · skip
    refine HT.region ?_   -- R3
    simp (disch := first | omega | (simp <;> omega) | fail) [wrap_i64, wrap_u64, wrap_u8']
    refine HT.cond' ?_   -- if 34
    simp (disch := first | omega | (simp <;> omega) | fail) [wrap_i64, wrap_u64, wrap_u8']
    refine HT.seq ?_
    refine HT.region ?_   -- R4
    simp (disch := first | omega | (simp <;> omega) | fail) [wrap_i64, wrap_u64, wrap_u8']
    refine HT.ret ?_
    simp (disch := first | omega | (simp <;> omega) | fail) [wrap_i64, wrap_u64, wrap_u8']
  refine HT.region ?_   -- R3
  simp (disch := first | omega | (simp <;> omega) | fail) [wrap_i64, wrap_u64, wrap_u8']
  refine HT.cond' ?_   -- if 34
  simp (disch := first | omega | (simp <;> omega) | fail) [wrap_i64, wrap_u64, wrap_u8']
  refine HT.skip ?_
  simp (disch := first | omega | (simp <;> omega) | fail) [wrap_i64, wrap_u64, wrap_u8']
  refine HT.seq ?_
  refine HT.region ?_   -- R5
  simp (disch := first | omega | (simp <;> omega) | fail) [wrap_i64, wrap_u64, wrap_u8']
  refine stepK.mk (.callTf _ _ _ _ _ rfl Ty.hb16 rfl rfl (f16_spec full l d n hl hs hsn h1 h2 h3) rfl) ?_
  simp (disch := first | omega | (simp <;> omega) | fail) [wrap_i64, wrap_u64, wrap_u8', he, hH]
  refine HT.seq ?_
  refine HT.region ?_   -- R6
  simp (disch := first | omega | (simp <;> omega) | fail) [wrap_i64, wrap_u64, wrap_u8']
  refine stepK.mk (.callTf _ _ _ _ _ rfl Ty.hb17 rfl rfl (f17_spec full l d n hl hs hsn h1 h2 h3) rfl) ?_
  simp (disch := first | omega | (simp <;> omega) | fail) [wrap_i64, wrap_u64, wrap_u8', he, hH]
  refine HT.seq ?_
  refine HT.seq ?_
  refine HT.region ?_   -- R7
  simp (disch := first | omega | (simp <;> omega) | fail) [wrap_i64, wrap_u64, wrap_u8']
  refine HT.cond' ?_   -- if 58
  simp (disch := first | omega | (simp <;> omega) | fail) [wrap_i64, wrap_u64, wrap_u8']
  refine HT.skip ?_
  simp (disch := first | omega | (simp <;> omega) | fail) [wrap_i64, wrap_u64, wrap_u8']
  refine HT.seq ?_
  refine HT.seq ?_
  refine HT.region ?_   -- R9
  simp (disch := first | omega | (simp <;> omega) | fail) [wrap_i64, wrap_u64, wrap_u8']
  refine HT.block ?_
  refine HT.loopK (fun k : {k : Nat // k ≤ n} => [.s 11 (i64 k)]) [7, 9] [] (fun k => n - k) (⟨0, by omega⟩) ?_ ?_   -- block 0 turned [11]
  · simp (disch := first | omega | (simp <;> omega) | fail) [wrap_i64, wrap_u64, wrap_u8']
  rintro ⟨k, hk⟩
  simp (disch := first | omega | (simp <;> omega) | fail) [wrap_i64, wrap_u64, wrap_u8']
  refine HT.seq ?_
  refine HT.seq ?_
  refine HT.region ?_   -- R10
  simp (disch := first | omega | (simp <;> omega) | fail) [wrap_i64, wrap_u64, wrap_u8']
  refine HT.cond' ?_   -- if 62
  simp (disch := first | omega | (simp <;> omega) | fail) [wrap_i64, wrap_u64, wrap_u8']
  refine ⟨fun h62 => ?_, fun h62 => ?_⟩
  · skip
    have kk1 : ∀ x ∈ partV d.new n k, DocK x := fun x hd => k1 x (List.mem_filter.1 hd).1
    have kk3 : ∀ x ∈ movedP l d.moved n k, DocK x := fun x hd => k3 x (List.mem_filter.1 hd).1
    have b1 := partV_length d.new n k
    have b2 := deadP_length l d.dead n k
    have b3 := movedP_length l d.moved n k
    refine HT.skip ?_
    simp (disch := first | omega | (simp <;> omega) | fail) [wrap_i64, wrap_u64, wrap_u8']
    refine HT.seq ?_
    refine HT.block ?_
    refine HT.seq ?_
    refine HT.draw [.batch [0, 1, 2, 3, 4, 5, 6, 7, 8, 9]] (by kernel_rfl) ?_   -- R12
    simp (disch := first | omega | (simp <;> omega) | fail) [wrap_i64, wrap_u64, wrap_u8', deltasH_getD]
    refine stepK.mk (.call1 _ _ _ rfl Ty.hb18 rfl rfl (f18_spec false false false false false false (partV d.new n k) (partV d.new n k) (deadP l d.dead n k) (deadP l d.dead n k) (movedP l d.moved n k) (movedP l d.moved n k) (by omega) (by omega) (by omega) kk1 kk1 kk3 kk3)) ?_
    simp (disch := first | omega | (simp <;> omega) | fail) [wrap_i64, wrap_u64, wrap_u8', sameL_refl]
    refine HT.cond' ?_   -- if 74
    simp (disch := first | omega | (simp <;> omega) | fail) [wrap_i64, wrap_u64, wrap_u8']
    refine HT.skip ?_
    simp (disch := first | omega | (simp <;> omega) | fail) [wrap_i64, wrap_u64, wrap_u8']
    refine HT.region ?_   -- R11
    simp (disch := first | omega | (simp <;> omega) | fail) [wrap_i64, wrap_u64, wrap_u8']
    refine Round.mk' (⟨k + 1, by omega⟩) (by dsimp only; omega) rfl ?_
    simp (disch := first | omega | (simp <;> omega) | fail) [wrap_i64, wrap_u64, wrap_u8']
  · skip
    refine HT.exit ?_
    simp (disch := first | omega | (simp <;> omega) | fail) [wrap_i64, wrap_u64, wrap_u8']
    refine HT.seq ?_
    refine HT.region ?_   -- R14
    simp (disch := first | omega | (simp <;> omega) | fail) [wrap_i64, wrap_u64, wrap_u8']
    refine HT.ret ?_
    simp (disch := first | omega | (simp <;> omega) | fail) [wrap_i64, wrap_u64, wrap_u8']
set_option maxHeartbeats 4000000 in
theorem f5_err (full : Bool) (l : List Doc) (d : Delta) (n : Int) (hl : l.length ≤ 1048576) (kl : ∀ x ∈ l, DocK x) (h1 : d.new.length ≤ 1048576) (k1 : ∀ x ∈ d.new, DocK x) (h2 : d.dead.length ≤ 1048576) (h3 : d.moved.length ≤ 1048576) (he : splitE l d n ≠ 0) : Spec1 Try.prog 5 [.sl 5 full (docsHV l), .agg d.enc, i64 n] (bo true) := by
  have hH : splitH l d n = .sl 0 true [] := splitH_1 he
  have hs : Short l := fun d hd => ⟨(kl d hd).1, (kl d hd).2.1⟩
  have hsn : Short d.new := fun d hd => ⟨(k1 d hd).1, (k1 d hd).2.1⟩
  refine Spec1.of_HT Try.func5 rfl (by rw [Try.ntmps5]; simp) rfl ?_
  rw [Try.ntmps5]
  refine HT.seq ?_
  refine HT.region ?_   -- R0
  simp (disch := first | omega | (simp <;> omega) | fail) [wrap_i64, wrap_u64, wrap_u8']
  refine HT.seq ?_
  refine HT.seq ?_
  refine HT.region ?_   -- R1
  simp (disch := first | omega | (simp <;> omega) | fail) [wrap_i64, wrap_u64, wrap_u8']
  refine stepK.mk (.call1 _ _ _ _ rfl Ty.hb8 rfl (f8_spec) rfl rfl) ?_
  simp (disch := first | omega | (simp <;> omega) | fail) [wrap_i64, wrap_u64, wrap_u8']
  refine HT.cond' ?_   -- if 13
  simp (disch := first | omega | (simp <;> omega) | fail) [wrap_i64, wrap_u64, wrap_u8']
  refine HT.skip ?_
  simp (disch := first | omega | (simp <;> omega) | fail) [wrap_i64, wrap_u64, wrap_u8']
  refine HT.seq ?_
  refine HT.seq ?_
  by_cases c1 : 80 < l.length
  · skip
    refine HT.region ?_   -- R3
    simp (disch := first | omega | (simp <;> omega) | fail) [wrap_i64, wrap_u64, wrap_u8']
    refine HT.cond' ?_   -- if 34
    simp (disch := first | omega | (simp <;> omega) | fail) [wrap_i64, wrap_u64, wrap_u8']
    refine HT.seq ?_
    refine HT.region ?_   -- R4
    simp (disch := first | omega | (simp <;> omega) | fail) [wrap_i64, wrap_u64, wrap_u8']
    refine HT.ret ?_
    simp (disch := first | omega | (simp <;> omega) | fail) [wrap_i64, wrap_u64, wrap_u8']
  by_cases c2 : 80 < d.new.length
  · skip
    refine HT.region ?_   -- R3
    simp (disch := first | omega | (simp <;> omega) | fail) [wrap_i64, wrap_u64, wrap_u8']
    refine HT.cond' ?_   -- if 34
    simp (disch := first | omega | (simp <;> omega) | fail) [wrap_i64, wrap_u64, wrap_u8']
    refine HT.seq ?_
    refine HT.region ?_   -- R4
    simp (disch := first | omega | (simp <;> omega) | fail) [wrap_i64, wrap_u64, wrap_u8']
    refine HT.ret ?_
    simp (disch := first | omega | (simp <;> omega) | fail) [wrap_i64, wrap_u64, wrap_u8']
  by_cases c3 : 80 < d.dead.length
  · skip
    refine HT.region ?_   -- R3
    simp (disch := first | omega | (simp <;> omega) | fail) [wrap_i64, wrap_u64, wrap_u8']
    refine HT.cond' ?_   -- if 34
    simp (disch := first | omega | (simp <;> omega) | fail) [wrap_i64, wrap_u64, wrap_u8']
    refine HT.seq ?_
    refine HT.region ?_   -- R4
    simp (disch := first | omega | (simp <;> omega) | fail) [wrap_i64, wrap_u64, wrap_u8']
    refine HT.ret ?_
    simp (disch := first | omega | (simp <;> omega) | fail) [wrap_i64, wrap_u64, wrap_u8']
  by_cases c4 : 80 < d.moved.length
  · skip
    refine HT.region ?_   -- R3
    simp (disch := first | omega | (simp <;> omega) | fail) [wrap_i64, wrap_u64, wrap_u8']
    refine HT.cond' ?_   -- if 34
    simp (disch := first | omega | (simp <;> omega) | fail) [wrap_i64, wrap_u64, wrap_u8']
    refine HT.seq ?_
    refine HT.region ?_   -- R4
    simp (disch := first | omega | (simp <;> omega) | fail) [wrap_i64, wrap_u64, wrap_u8']
    refine HT.ret ?_
    simp (disch := first | omega | (simp <;> omega) | fail) [wrap_i64, wrap_u64, wrap_u8']
  refine HT.region ?_   -- R3
  simp (disch := first | omega | (simp <;> omega) | fail) [wrap_i64, wrap_u64, wrap_u8']
  refine HT.cond' ?_   -- if 34
  simp (disch := first | omega | (simp <;> omega) | fail) [wrap_i64, wrap_u64, wrap_u8']
  refine HT.skip ?_
  simp (disch := first | omega | (simp <;> omega) | fail) [wrap_i64, wrap_u64, wrap_u8']
  refine HT.seq ?_
  refine HT.region ?_   -- R5
  simp (disch := first | omega | (simp <;> omega) | fail) [wrap_i64, wrap_u64, wrap_u8']
  refine stepK.mk (.callTf _ _ _ _ _ rfl Ty.hb16 rfl rfl (f16_spec full l d n hl hs hsn h1 h2 h3) rfl) ?_
  simp (disch := first | omega | (simp <;> omega) | fail) [wrap_i64, wrap_u64, wrap_u8', hH]
  refine HT.seq ?_
  refine HT.region ?_   -- R6
  simp (disch := first | omega | (simp <;> omega) | fail) [wrap_i64, wrap_u64, wrap_u8']
  refine stepK.mk (.callTf _ _ _ _ _ rfl Ty.hb17 rfl rfl (f17_spec full l d n hl hs hsn h1 h2 h3) rfl) ?_
  simp (disch := first | omega | (simp <;> omega) | fail) [wrap_i64, wrap_u64, wrap_u8', hH]
  refine HT.seq ?_
  refine HT.seq ?_
  refine HT.region ?_   -- R7
  simp (disch := first | omega | (simp <;> omega) | fail) [wrap_i64, wrap_u64, wrap_u8']
  refine HT.cond' ?_   -- if 58
  simp (disch := first | omega | (simp <;> omega) | fail) [wrap_i64, wrap_u64, wrap_u8']
  refine HT.skip ?_
  simp (disch := first | omega | (simp <;> omega) | fail) [wrap_i64, wrap_u64, wrap_u8']
  refine HT.seq ?_
  refine HT.seq ?_
  refine HT.region ?_   -- R9
  simp (disch := first | omega | (simp <;> omega) | fail) [wrap_i64, wrap_u64, wrap_u8']
  refine HT.block ?_
  refine HT.loopK (fun k : Unit => [.s 11 (i64 0)]) [7, 9] [] (fun k => 0) (()) ?_ ?_   -- block 0 turned [11]
  · simp (disch := first | omega | (simp <;> omega) | fail) [wrap_i64, wrap_u64, wrap_u8']
  rintro _
  simp (disch := first | omega | (simp <;> omega) | fail) [wrap_i64, wrap_u64, wrap_u8']
  refine HT.seq ?_
  refine HT.seq ?_
  refine HT.region ?_   -- R10
  simp (disch := first | omega | (simp <;> omega) | fail) [wrap_i64, wrap_u64, wrap_u8']
  refine HT.cond' ?_   -- if 62
  simp (disch := first | omega | (simp <;> omega) | fail) [wrap_i64, wrap_u64, wrap_u8']
  refine HT.exit ?_
  simp (disch := first | omega | (simp <;> omega) | fail) [wrap_i64, wrap_u64, wrap_u8']
  refine HT.seq ?_
  refine HT.region ?_   -- R14
  simp (disch := first | omega | (simp <;> omega) | fail) [wrap_i64, wrap_u64, wrap_u8']
  refine HT.ret ?_
  simp (disch := first | omega | (simp <;> omega) | fail) [wrap_i64, wrap_u64, wrap_u8']
theorem splits_law (full : Bool) (l : List Doc) (d : Delta) (n : Int) (hl : l.length ≤ 1048576 ∧ ∀ x ∈ l, DocK x) (h1 : d.new.length ≤ 1048576 ∧ ∀ x ∈ d.new, DocK x) (h2 : d.dead.length ≤ 1048576) (h3 : d.moved.length ≤ 1048576 ∧ ∀ x ∈ d.moved, DocK x) :
    Spec1 Try.prog 5 [.sl 5 full (docsHV l), .agg d.enc, i64 n] (bo true) := by
  by_cases he : splitE l d n = 0
  · have := splitE_range he
    obtain ⟨m, rfl⟩ : ∃ m : Nat, n = m := ⟨n.toNat, by omega⟩
    exact f5_ok full l d m hl.1 hl.2 h1.1 h1.2 h2 h3.1 h3.2 he
  · exact f5_err full l d n hl.1 hl.2 h1.1 h1.2 h2 h3.1 he
end Go.Hv
namespace Go.Hv
open Go Go.Proofs
theorem docK_of {d : Doc} (h : DocB 1048576 d) : DocK d := by
  obtain ⟨h1, h2, h3, h4, h5, h6, h7⟩ := h
  exact ⟨h1, h2, h3, by omega, h7⟩
theorem spreads_law (full : Bool) (l : List Doc) (n : Int) (h : l.length ≤ 1048576 ∧ ∀ d ∈ l, DocB 1048576 d) : Spec1 Try.prog 4 [.sl 5 full (docsHV l), i64 n] (bo true) :=
  f4_spec full l n h.1 (fun d hd => docK_of (h.2 d hd))
end Go.Hv
set_option linter.unusedVariables false
set_option linter.unusedSimpArgs false
namespace Go.Hv
open Go Go.Hv Go.Proofs
open Go.Proofs.Ytmpgljmmjipioaa
@[reducible] def intsSh : ShT := .sl 1 (.int .i64)
theorem rd_ints {B : Nat} {x : List HV} (h : Rd B intsSh x) : ∃ (c : HV) (full : Bool) (l : List Int), x = [c] ∧ HLe c (.sl 1 full (intsHV l)) ∧ l.length ≤ B ∧ ∀ n ∈ l, (Lit.int .i64 n).wf = true := by
  cases h with
  | nil => exact ⟨_, true, [], rfl, HLe.nil 0 1 true, Nat.zero_le _, by simp⟩
  | sl sz e es hl hz h =>
    obtain ⟨l, rfl, hb⟩ := map_choice (f := fun n => [i64 n]) (p := fun n => (Lit.int .i64 n).wf = true) (fun x hx => rd_int (h x hx))
    exact ⟨_, false, l, rfl, HLe.refl _, by simpa using hl, hb⟩
@[reducible] def deltaSh : ShT := .st [docsSh, intsSh, docsSh]
def DeltaB (B : Nat) (d : Delta) : Prop := (d.new.length ≤ B ∧ ∀ x ∈ d.new, DocB B x) ∧ d.dead.length ≤ B ∧ (d.moved.length ≤ B ∧ ∀ x ∈ d.moved, DocB B x)
theorem agg_of_trod {H : Type} {enc : TypeId × Value → H} {P : Program} {w : World} {sp : Nat → Bool} {held : Bool} {t : TypeId} {vs : Array Value} {d : DataW H} {ps : List MemPlace} {B : Nat} {s : ShT} (hk : shOK P s t = true)
    (h : DataW.Trod enc P w 0 sp held t (.agg vs) d ps) (hB : bulkD d ≤ B) : ∃ hs, Rd B s hs ∧ IRep w (fun _ => False) (.agg hs) (.agg vs) := by
  obtain ⟨hs, h1, h2⟩ := arg_of_trod s hk h hB
  have h2' : Reps w (fun _ => False) hs vs.toList := h2
  refine ⟨hs, h1, .agg (by have := h2'.length; simpa using this.symm) fun j c v hc hv => h2'.get j c v hc (by rwa [Array.getElem?_toList])⟩
theorem delta_of_trod {H : Type} {enc : TypeId × Value → H} {P : Program} {w : World} {sp : Nat → Bool} {held : Bool} {t : TypeId} {vs : Array Value} {d : DataW H} {ps : List MemPlace} {B : Nat} (hk : shOK P deltaSh t = true)
    (h : DataW.Trod enc P w 0 sp held t (.agg vs) d ps) (hB : bulkD d ≤ B) : ∃ (_ : Unit) (x : Delta), IRep w (fun _ => False) (.agg x.enc) (.agg vs) ∧ DeltaB B x := by
  obtain ⟨hs, h1, h2⟩ := agg_of_trod hk h hB
  cases h1 with
  | st fs hs h =>
    cases h with
    | cons q1 h =>
    cases h with
    | cons q2 h =>
    cases h with
    | cons q3 h =>
    cases h
    obtain ⟨c1, f1, l1, rfl, e1, b1, k1⟩ := rd_docs q1
    obtain ⟨c2, f2, l2, rfl, e2, b2, k2⟩ := rd_ints q2
    obtain ⟨c3, f3, l3, rfl, e3, b3, k3⟩ := rd_docs q3
    exact ⟨(), ⟨f1, f2, f3, l1, l2, l3⟩, HLe.agg (.cons e1 (.cons e2 (.cons e3 .nil))) _ _ _ h2, ⟨⟨b1, k1⟩, b2, b3, k3⟩⟩
theorem splits_row (full : Bool) (l : List Doc) (_ : Unit) (d : Delta) (n : Int) (h : l.length ≤ 1048576 ∧ ∀ d ∈ l, DocB 1048576 d) (hd : DeltaB 1048576 d) : Spec1 Try.prog 5 [.sl 5 full (docsHV l), .agg d.enc, i64 n] (bo true) :=
  splits_law full l d n ⟨h.1, fun x hx => docK_of (h.2 x hx)⟩ ⟨hd.1.1, fun x hx => docK_of (hd.1.2 x hx)⟩ hd.2.1 ⟨hd.2.2.1, fun x hx => docK_of (hd.2.2.2 x hx)⟩
end Go.Hv
