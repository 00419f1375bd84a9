import Derived.Test.YtmpgljmmjipioaaSame
set_option linter.unusedVariables false
set_option linter.unusedSimpArgs false
namespace Go.Hv
open Go Go.Hv Go.Proofs
open Go.Proofs.Ytmpgljmmjipioaa
def DocK (d : Doc) : Prop := d.repo.length ≤ 1048576 ∧ d.path.length ≤ 1048576 ∧ d.text.length ≤ 1048576 ∧ d.on.length < 2 ^ 40 ∧ (d.on ≠ [] → d.osz = 1)
def sameD (d e : Doc) : Bool := decide (d.id = e.id) && (decide (d.repo = e.repo ∧ d.path = e.path ∧ d.text = e.text) && decide (d.on = e.on))
theorem sameD_refl (d : Doc) : sameD d d = true := by simp [sameD]
theorem f24_spec (d e : Doc) (hd : DocK d) (he : DocK e) : Spec1 Try.prog 24 [.agg d.enc, .agg e.enc] (bo (sameD d e)) := by
  refine Spec1.of_HT Try.func24 rfl (by rw [Try.ntmps24]; simp) rfl ?_
  rw [Try.ntmps24]
  obtain ⟨d1, d2, d3, d4, d5⟩ := hd
  obtain ⟨e1, e2, e3, e4, e5⟩ := he
  refine HT.seq ?_
  refine HT.region ?_   -- R0
  simp
  refine HT.seq ?_
  refine HT.draw [.batch [0, 1, 2, 3, 4, 5, 6, 7, 8, 9, 10, 11, 12, 13, 14, 15, 16, 17, 18, 19]] (by kernel_rfl) ?_   -- R1 calls [30, 30, 31]
  by_cases h1 : d.id = e.id
  · simp [h1]
    refine ⟨_, .call1 _ _ _ rfl Ty.hb30 rfl rfl (f30_spec { d with id := e.id }), ?_⟩
    simp
    refine ⟨_, .call1 _ _ _ rfl Ty.hb30 rfl rfl (f30_spec e), ?_⟩
    by_cases h2 : d.repo = e.repo ∧ d.path = e.path ∧ d.text = e.text
    · simp [aggEq55 e1 e2 e3 e1 e2 e3, h2]
      refine ⟨_, .call1 _ _ _ rfl Ty.hb31 rfl rfl (f31_spec _ _ _ _ d.on e.on d4 d5 e5), ?_⟩
      simp
      refine HT.ret ?_
      simp [sameD, h1, h2]
    · simp [aggEq55 d1 d2 d3 e1 e2 e3, h2]
      refine HT.ret ?_
      simp [sameD, h1, h2]
  · simp [h1]
    refine HT.ret ?_
    simp [sameD, h1]
def sameL (x y : List Doc) : Bool := decide (x.length = y.length) && (List.range x.length).all fun k => match x[k]?, y[k]? with
  | some d, some e => sameD d e
  | _, _ => false
theorem sameL_refl (x : List Doc) : sameL x x = true := by
  simp only [sameL, decide_true, Bool.true_and, List.all_eq_true, List.mem_range]
  intro k hk
  simp [hk, sameD_refl]
theorem f15_spec (fa fb : Bool) (x y : List Doc) (hx : x.length < 2 ^ 40) (kx : ∀ d ∈ x, DocK d) (ky : ∀ d ∈ y, DocK d) : Spec1 Try.prog 15 [.sl 5 fa (docsHV x), .sl 5 fb (docsHV y)] (bo (sameL x y)) := by
  refine Spec1.of_HT Try.func15 rfl (by rw [Try.ntmps15]; simp) rfl ?_
  rw [Try.ntmps15]
  refine HT.seq ?_
  refine HT.region ?_   -- R0
  simp
  refine HT.seq ?_
  refine HT.seq ?_
  refine HT.region ?_   -- R1
  simp
  refine HT.cond' ?_
  simp
  constructor
  · intro h
    refine HT.seq ?_
    refine HT.region ?_   -- R2
    simp
    refine HT.ret ?_
    have hxy : ¬ x.length = y.length := by omega
    simp [sameL, hxy]
  · intro h
    refine HT.skip ?_
    simp
    refine HT.seq ?_
    refine HT.seq ?_
    refine HT.region ?_   -- R3
    simp
    refine HT.block ?_
    refine HT.loop (fun k : {k : Nat // k ≤ x.length ∧ ∀ j, j < k → (match x[j]?, y[j]? with | some d, some e => sameD d e | _, _ => false) = true} => ⟨[.s 0 (.sl 5 fa (docsHV x)), .s 1 (.sl 5 fb (docsHV y)), .s 5 (i64 k)], 27⟩) (fun k => x.length - k) ⟨0, by omega, by omega⟩ (HS.le_fits ?_) ?_
    · simp
    rintro ⟨k, hk, hg⟩
    refine HT.seq ?_
    refine HT.seq ?_
    refine HT.region ?_   -- R4
    simp
    refine HT.cond' ?_
    simp
    constructor
    · intro h
      have hk1 : k < x.length := by omega
      have hk2 : k < y.length := by omega
      refine HT.skip ?_
      simp
      refine HT.seq ?_
      refine HT.block ?_
      refine HT.seq ?_
      refine HT.draw [.batch [0, 1, 2, 3, 4, 5, 6, 7, 8, 9]] (by kernel_rfl) ?_   -- R6 calls [24]
      simp [hk1, hk2, show (k : Int) < x.length by omega, show (k : Int) < y.length by omega]
      refine ⟨_, .call1 _ _ _ rfl Ty.hb24 rfl rfl (f24_spec x[k] y[k] (kx _ (List.getElem_mem hk1)) (ky _ (List.getElem_mem hk2))), ?_⟩
      simp
      refine HT.cond' ?_
      simp
      constructor
      · intro h
        refine HT.seq ?_
        refine HT.region ?_   -- R7
        simp
        refine HT.ret ?_
        have : sameL x y = false := by
          simp only [sameL, Bool.and_eq_false_iff, List.all_eq_false, List.mem_range]
          exact .inr ⟨k, hk1, by simp [hk1, hk2, h]⟩
        simp [this]
      · intro h
        refine HT.skip ?_
        simp
        refine HT.region ?_   -- R5
        simp
        refine ⟨k + 1, by omega, ⟨by omega, fun j hj => ?_⟩, HS.le_fits ?_⟩
        · rcases Nat.lt_or_ge j k with h' | h'
          · exact hg j h'
          · obtain rfl : j = k := by omega
            simp [hk1, hk2, h]
        simp
        rw [wrap_i64] <;> omega
    · intro h'
      refine HT.exit ?_
      simp
      refine HT.seq ?_
      refine HT.region ?_   -- R8
      simp
      refine HT.ret ?_
      have : sameL x y = true := by
        simp only [sameL, Bool.and_eq_true, decide_eq_true_eq, List.all_eq_true, List.mem_range]
        exact ⟨by omega, fun j hj => hg j (by omega)⟩
      simp [this]
end Go.Hv
