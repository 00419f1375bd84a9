import Derived.Test.YtmpgljmmjipioaaSpread
set_option linter.unusedVariables false
set_option linter.unusedSimpArgs false
namespace Go.Hv
open Go Go.Hv Go.Proofs
open Go.Proofs.Ytmpgljmmjipioaa
@[simp] theorem strsHV_length (l : List (List UInt8)) : (strsHV l).length = l.length := by simp [strsHV]
@[simp] theorem strsHV_getElem (l : List (List UInt8)) (k : Nat) (h : k < (strsHV l).length) : (strsHV l)[k] = [.str (l[k]'(by simpa using h))] := by simp [strsHV]
@[simp] theorem ak55 : aggKey Try.prog 55 = true := by kernel_rfl
theorem cells9 : Try.prog.cellsOf 9 = 1 := by kernel_rfl
theorem cells55 : Try.prog.cellsOf 55 = 3 := by kernel_rfl
theorem key55 {a b c : List UInt8} (ha : a.length ≤ 1048576) (hb : b.length ≤ 1048576) (hc : c.length ≤ 1048576) : keyH Try.prog 10 55 [.str a, .str b, .str c] = some [.string a, .string b, .string c] := by
  have h : ∀ x : List UInt8, x.length ≤ 1048576 → x.length ≤ maxLen := fun x hx => by unfold maxLen; omega
  simp [keyH, Try.underlying55, Try.underlying9, cells9, cells55, h a ha, h b hb, h c hc, List.mapM_cons]
theorem aggEq55 {a b c a' b' c' : List UInt8} (ha : a.length ≤ 1048576) (hb : b.length ≤ 1048576) (hc : c.length ≤ 1048576) (ha' : a'.length ≤ 1048576) (hb' : b'.length ≤ 1048576) (hc' : c'.length ≤ 1048576) :
    aggEq Try.prog 55 [.str a, .str b, .str c] [.str a', .str b', .str c'] = some (decide (a = a' ∧ b = b' ∧ c = c')) := by
  unfold aggEq
  rw [if_pos ak55, key55 ha hb hc, key55 ha' hb' hc']
  simp
theorem f30_spec (d : Doc) : Spec1 Try.prog 30 [.agg d.enc] (.agg [.str d.repo, .str d.path, .str d.text]) := by
  refine Spec1.of_HT Try.func30 rfl (by rw [Try.ntmps30]; simp) rfl ?_
  rw [Try.ntmps30]
  refine HT.seq ?_
  refine HT.region ?_   -- R0
  simp
  refine HT.seq ?_
  refine HT.region ?_   -- R1
  simp
  refine HT.ret ?_
  simp
theorem f31_spec (sa sb : Nat) (fa fb : Bool) (x y : List (List UInt8)) (hx : x.length < 2 ^ 40) (h1 : x ≠ [] → sa = 1) (h2 : y ≠ [] → sb = 1) : Spec1 Try.prog 31 [.sl sa fa (strsHV x), .sl sb fb (strsHV y)] (bo (decide (x = y))) := by
  refine Spec1.of_HT Try.func31 rfl (by rw [Try.ntmps31]; simp) rfl ?_
  rw [Try.ntmps31]
  refine HT.seq ?_
  refine HT.region ?_   -- R0
  simp
  refine HT.seq ?_
  refine HT.seq ?_
  refine HT.region ?_   -- R1
  simp
  refine HT.cond' ?_
  simp
  constructor
  · intro h
    refine HT.seq ?_
    refine HT.region ?_   -- R2
    simp
    refine HT.ret ?_
    have : x ≠ y := fun e => h (by rw [e])
    simp [this]
  · intro h
    refine HT.skip ?_
    simp
    refine HT.seq ?_
    refine HT.seq ?_
    refine HT.region ?_   -- R3
    simp
    refine HT.block ?_
    refine HT.loop (fun k : {k : Nat // k ≤ x.length ∧ x.take k = y.take k} => ⟨[.s 0 (.sl sa fa (strsHV x)), .s 1 (.sl sb fb (strsHV y)), .s 5 (i64 k)], 26⟩) (fun k => x.length - k) ⟨0, by simp⟩ (HS.le_fits ?_) ?_
    · simp
    rintro ⟨k, hk, hg⟩
    refine HT.seq ?_
    refine HT.seq ?_
    refine HT.region ?_   -- R4
    simp
    refine HT.cond' ?_
    simp
    constructor
    · intro h
      have hk1 : k < x.length := by omega
      have hk2 : k < y.length := by omega
      obtain rfl := h1 (fun e => by subst e; simp at hk1)
      obtain rfl := h2 (fun e => by subst e; simp at hk2)
      refine HT.skip ?_
      simp
      refine HT.seq ?_
      refine HT.block ?_
      refine HT.seq ?_
      refine HT.draw [.batch [0, 1, 2, 3, 4, 5, 6, 7, 8]] (by kernel_rfl) ?_   -- R6
      simp [hk1, hk2, show (k : Int) < x.length by omega, show (k : Int) < y.length by omega]
      refine HT.cond' ?_
      simp
      constructor
      · intro h
        refine HT.seq ?_
        refine HT.region ?_   -- R7
        simp
        refine HT.ret ?_
        have : x ≠ y := fun e => h (by subst e; rfl)
        simp [this]
      · intro h
        refine HT.skip ?_
        simp
        refine HT.region ?_   -- R5
        simp
        refine ⟨k + 1, by omega, ⟨by omega, by rw [List.take_succ_eq_append_getElem hk1, List.take_succ_eq_append_getElem hk2, hg, h]⟩, HS.le_fits ?_⟩
        simp
        rw [wrap_i64] <;> omega
    · intro h
      refine HT.exit ?_
      simp
      refine HT.seq ?_
      refine HT.region ?_   -- R8
      simp
      refine HT.ret ?_
      have : x = y := by rw [List.take_of_length_le (by omega), List.take_of_length_le (by omega)] at hg; exact hg
      simp [this]
end Go.Hv
