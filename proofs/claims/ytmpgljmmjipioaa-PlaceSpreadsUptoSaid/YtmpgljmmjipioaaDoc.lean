import Derived.Test.YtmpgljmmjipioaaT6
set_option linter.unusedVariables false
set_option linter.unusedSimpArgs false
namespace Go.Hv
open Go Go.Hv Go.Proofs
open Go.Proofs.Ytmpgljmmjipioaa
structure Doc where
  id : Int
  repo : List UInt8
  path : List UInt8
  text : List UInt8
  on : List (List UInt8)
  osz : Nat
  full : Bool
def strsHV (l : List (List UInt8)) : List (List HV) := l.map fun s => [.str s]
@[simp] def Doc.enc (d : Doc) : List HV := [i64 d.id, .str d.repo, .str d.path, .str d.text, .sl d.osz d.full (strsHV d.on)]
def Doc.zero : Doc := ⟨0, [], [], [], [], 0, true⟩
def docsHV (l : List Doc) : List (List HV) := l.map Doc.enc
@[simp] theorem isILL_strsHV (l : List (List UInt8)) : isILL (strsHV l) = true := by simp [isILL, strsHV, isIL, isI]
@[simp] theorem isILL_docsHV (l : List Doc) : isILL (docsHV l) = true := by simp [isILL, docsHV, isIL, isI]
@[simp] theorem docsHV_length (l : List Doc) : (docsHV l).length = l.length := by simp [docsHV]
@[simp] theorem docsHV_getElem (l : List Doc) (k : Nat) (h : k < (docsHV l).length) : (docsHV l)[k] = (l[k]'(by simpa using h)).enc := by simp [docsHV]
def getV (l : List Doc) (id : Int) : Option Doc := l.find? (fun d => d.id == id)
theorem getV_drop {l : List Doc} {k : Nat} (h : k < l.length) (id : Int) : getV (l.drop k) id = if l[k].id = id then some l[k] else getV (l.drop (k + 1)) id := by
  rw [List.drop_eq_getElem_cons h]
  unfold getV
  rw [List.find?_cons]
  by_cases e : l[k].id = id
  · simp [e]
  · have : (l[k].id == id) = false := by simp [e]
    rw [this, if_neg e]
theorem f25_spec (full : Bool) (l : List Doc) (id : Int) (hl : l.length < 2 ^ 40) : SpecT Try.prog 25 [.sl 5 full (docsHV l), i64 id] [.agg ((getV l id).getD .zero).enc, bo (getV l id).isSome] := by
  refine SpecT.of_HT Try.func25 rfl (by rw [Try.ntmps25]; simp) (rs := [.cell 4 48, .tmp 5]) rfl (by decide) ?_
  rw [Try.ntmps25]
  refine HT.seq ?_
  refine HT.region ?_   -- R0
  simp
  refine HT.seq ?_
  refine HT.seq ?_
  refine HT.region ?_   -- R1
  simp
  refine HT.block ?_
  refine HT.loop (fun k : {k : Nat // k ≤ l.length ∧ getV l id = getV (l.drop k) id} => ⟨[.s 1 (i64 id), .s 4 (.ptr 4 0), .o 4 (.box Doc.zero.enc), .s 8 (.sl 5 full (docsHV l)), .s 9 (i64 l.length), .s 10 (i64 k)], 21⟩) (fun k => l.length - k) ⟨0, by simp⟩ (HS.le_fits ?_) ?_
  · simp [Doc.zero, strsHV]
  rintro ⟨k, hk, hg⟩
  refine HT.seq ?_
  refine HT.region ?_   -- R2
  simp
  refine HT.seq ?_
  refine HT.cond' ?_
  simp
  constructor
  · intro h
    have hk' : k < l.length := by omega
    rw [getV_drop hk'] at hg
    refine HT.skip ?_
    simp
    refine HT.seq ?_
    refine HT.block ?_
    refine HT.seq ?_
    refine HT.region ?_   -- R3
    simp [h, hk']
    refine HT.seq ?_
    refine HT.region ?_   -- R4
    simp
    refine HT.cond' ?_
    simp
    constructor
    · intro h
      refine HT.seq ?_
      refine HT.region ?_   -- R5
      simp
      refine HT.ret ?_
      simp [hg, h]
    · intro h
      refine HT.skip ?_
      simp
      refine HT.region ?_   -- R6
      simp
      refine ⟨k + 1, by omega, ⟨by omega, by rw [hg, if_neg h]⟩, HS.le_fits ?_⟩
      simp
      rw [wrap_i64] <;> omega
  · intro h
    obtain rfl : k = l.length := by omega
    rw [List.drop_length] at hg
    have hg0 : getV l id = none := by rw [hg]; rfl
    refine HT.exit ?_
    simp
    refine HT.seq ?_
    refine HT.region ?_   -- R7
    simp
    refine HT.ret ?_
    simp [hg0, Doc.zero, strsHV]
/-- The error's number. -/
def errHV (n : Int) : HV := i64 n
theorem f16_dead : SpecT Try.prog 16 [.sl 0 true [], .agg [.sl 0 true [], .sl 1 true [[i64 1]], .sl 0 true []], i64 2] [.sl 0 true [], i64 8] := by
  refine SpecT.of_HT Try.func16 rfl (by rw [Try.ntmps16]; simp) (rs := [.tmp 6, .tmp 7]) rfl (by decide) ?_
  rw [Try.ntmps16]
  refine HT.seq ?_
  refine HT.region ?_   -- R0
  simp
  refine HT.seq ?_
  refine HT.seq ?_
  refine HT.region ?_   -- R1
  simp
  refine HT.block ?_
  refine HT.loop (fun k : Unit => ⟨[.s 0 (.sl 0 true []), .s 31 (.sl 1 true [[i64 1]]), .s 32 (i64 1), .s 33 (i64 0)], 163⟩) (fun k => 0) () (HS.le_fits ?_) ?_
  · simp
  intro k
  refine HT.seq ?_
  refine HT.region ?_   -- R2
  simp
  refine HT.seq ?_
  refine HT.cond' ?_
  simp
  refine HT.skip ?_
  simp
  refine HT.seq ?_
  refine HT.block ?_
  refine HT.seq ?_
  refine HT.region ?_   -- R3
  simp
  refine HT.seq ?_
  refine HT.region ?_   -- R4 calls [25]
  simp
  refine ⟨_, .callTf _ _ [.sl 0 true [], i64 1] _ _ rfl Ty.hb25 rfl rfl (SpecT.args (.cons (HLe.nil 0 5 true) (.cons (HLe.refl _) .nil)) (f25_spec true [] 1 (by decide))) rfl, ?_⟩
  simp [getV, Doc.zero, strsHV]
  refine HT.seq ?_
  refine HT.region ?_   -- R5
  simp
  refine HT.cond' ?_
  simp
  refine HT.seq ?_
  refine HT.region ?_   -- R6
  simp
  refine HT.ret ?_
  simp
theorem f16_range (n : Int) (hn : n < 1 ∨ 4 < n) : SpecT Try.prog 16 [.sl 0 true [], .agg [.sl 0 true [], .sl 0 true [], .sl 0 true []], i64 n] [.sl 0 true [], i64 2] := by
  refine SpecT.of_HT Try.func16 rfl (by rw [Try.ntmps16]; simp) (rs := [.tmp 6, .tmp 7]) rfl (by decide) ?_
  rw [Try.ntmps16]
  refine HT.seq ?_
  refine HT.region ?_   -- R0
  simp
  refine HT.seq ?_
  refine HT.seq ?_
  refine HT.region ?_   -- R1
  simp
  refine HT.block ?_
  refine HT.loop (fun k : Unit => ⟨[.s 2 (i64 n), .s 0 (.sl 0 true []), .s 32 (i64 0), .s 33 (i64 0), .s 4 (.ptr 4 0), .o 4 (.box [.sl 0 true [], .sl 0 true [], .sl 0 true []])], 163⟩) (fun k => 0) () (HS.le_fits ?_) ?_
  · simp
  intro k
  refine HT.seq ?_
  refine HT.region ?_   -- R2
  simp
  refine HT.seq ?_
  refine HT.cond' ?_
  simp
  refine HT.exit ?_
  simp
  refine HT.seq ?_
  refine HT.seq ?_
  refine HT.region ?_   -- R8
  simp
  refine HT.block ?_
  refine HT.loop (fun k : Unit => ⟨[.s 2 (i64 n), .s 48 (i64 0), .s 49 (i64 0)], 163⟩) (fun k => 0) () (HS.le_fits ?_) ?_
  · simp
  intro k
  refine HT.seq ?_
  refine HT.region ?_   -- R9
  simp
  refine HT.seq ?_
  refine HT.cond' ?_
  simp
  refine HT.exit ?_
  simp
  by_cases h1 : n < 1
  · refine HT.seq ?_
    refine HT.seq ?_
    refine HT.region ?_   -- R15
    simp [h1]
    refine HT.cond' ?_
    simp
    refine HT.seq ?_
    refine HT.region ?_   -- R16
    simp
    refine HT.ret ?_
    simp
  · have h2 : 4 < n := by omega
    refine HT.seq ?_
    refine HT.seq ?_
    refine HT.region ?_   -- R15
    simp [h1, h2]
    refine HT.cond' ?_
    simp
    refine HT.seq ?_
    refine HT.region ?_   -- R16
    simp
    refine HT.ret ?_
    simp
theorem f13_three : SpecO Try.prog 13 [.sl 0 true [], i64 3] 27 1 [[.sl 0 true []], [.sl 0 true []], [.sl 0 true []]] := by
  refine SpecO.of_HT Try.func13 rfl (by rw [Try.ntmps13]; simp) rfl ?_
  rw [Try.ntmps13]
  refine HT.seq ?_
  refine HT.region ?_   -- R0
  simp
  refine HT.seq ?_
  refine HT.seq ?_
  refine HT.region ?_   -- R1
  simp
  refine HT.cond' ?_
  simp
  refine HT.skip ?_
  simp
  refine HT.seq ?_
  refine HT.region ?_   -- R3
  simp
  refine HT.seq ?_
  refine HT.seq ?_
  refine HT.region ?_   -- R4
  simp
  refine HT.block ?_
  refine HT.loop (fun k : Unit => ⟨[.s 18 (i64 0), .s 19 (i64 0), .s 5 (.ref 16), .o 16 (.row 27 1 [[.sl 0 true []], [.sl 0 true []], [.sl 0 true []]])], 41⟩) (fun k => 0) () (HS.le_fits ?_) ?_
  · simp
  intro k
  refine HT.seq ?_
  refine HT.region ?_   -- R5
  simp
  refine HT.seq ?_
  refine HT.cond' ?_
  simp
  refine HT.exit ?_
  simp
  refine HT.seq ?_
  refine HT.region ?_   -- R10
  simp
  refine HT.ret ?_
  simp
end Go.Hv
