import Derived.Test.YthdljfognblpbaaGreatDoorWA3
set_option linter.unusedVariables false
set_option linter.unusedSimpArgs false
namespace Go.Hv
open Go Go.Hv Go.Proofs Go.RowKit
open Go.Proofs.YthdljfognblpbaaGreatDoor
def DocB (B : Nat) (d : Doc) : Prop := d.repo.length ≤ B ∧ d.path.length ≤ B ∧ d.text.length ≤ B ∧ d.on.length ≤ B ∧ ∀ s ∈ d.on, s.length ≤ B
def stepS (a b : List UInt8) : Bool := !(Go.Op.bytesLess b a || decide (b = a))
theorem step_yes {a b : List UInt8} (h : stepS a b = true) : (Go.Op.bytesLess b a || decide (b = a)) = false := by unfold stepS at h; rwa [Bool.not_eq_true'] at h
theorem step_no {a b : List UInt8} (h : ¬ stepS a b = true) : (Go.Op.bytesLess b a || decide (b = a)) = true := by
  cases hb : (Go.Op.bytesLess b a || decide (b = a)) with
  | false => exact absurd (by unfold stepS; rw [hb]; rfl) h
  | true => rfl
theorem incS_cons (a b : List UInt8) (r : List (List UInt8)) : incS (a :: b :: r) = (stepS a b && incS (b :: r)) := rfl
theorem incS_all : ∀ (l : List (List UInt8)), incS l = true ↔ ∀ i (h : i + 1 < l.length), stepS l[i] l[i + 1] = true
  | [] => by simp [incS]
  | [a] => by simp [incS]
  | a :: b :: r => by
    rw [incS_cons, Bool.and_eq_true, incS_all (b :: r)]
    constructor
    · rintro ⟨h1, h2⟩ i h
      match i with
      | 0 => exact h1
      | i + 1 => exact h2 i (by simpa using h)
    · intro h
      exact ⟨h 0 (by simp), fun i hi => h (i + 1) (by simpa using hi)⟩
theorem incS_no {l : List (List UInt8)} {i : Nat} (h : i + 1 < l.length) (hs : ¬ stepS l[i] l[i + 1] = true) : incS l = false := by
  cases hc : incS l with
  | false => rfl
  | true => exact absurd ((incS_all l).1 hc i h) hs
def StepTo (l : List (List UInt8)) (k : Nat) : Prop := ∀ i (h : i + 1 < l.length), i < k → stepS l[i] l[i + 1] = true
theorem StepTo.succ {l : List (List UInt8)} {k : Nat} (h : StepTo l k) (hk : k + 1 < l.length) (hs : stepS l[k] l[k + 1] = true) : StepTo l (k + 1) := fun i hi hik => by
  by_cases e : i = k
  · subst e; exact hs
  · exact h i hi (by omega)
theorem check3 {d : Doc} (h : nameV d.repo = false ∨ pathV d.path = false ∨ textV d.text = false ∨ d.on.all nameV = false) : checkV d = 3 := by
  unfold checkV
  by_cases hc : (nameV d.repo && pathV d.path && textV d.text) = false
  · rw [if_pos hc]
  · rw [if_neg hc]
    have h4 : d.on.all nameV = false := by
      rcases h with h | h | h | h
      · exact absurd (by rw [h]; rfl) hc
      · exact absurd (by rw [h]; simp) hc
      · exact absurd (by rw [h]; simp) hc
      · exact h
    rw [if_pos h4]
theorem check_rest {d : Doc} (h1 : nameV d.repo = true) (h2 : pathV d.path = true) (h3 : textV d.text = true) (h4 : d.on.all nameV = true) : checkV d = if d.on = [] then 1 else if incS d.on = false then 1 else 0 := by
  unfold checkV
  rw [h1, h2, h3, h4]; rfl
theorem on_cons {d : Doc} (h : ¬ d.on.length = 0) : ¬ d.on = [] := fun e => h (by rw [e]; rfl)
set_option maxRecDepth 20000 in
set_option maxHeartbeats 4000000 in
theorem check_spec (d : Doc) (hd : DocB 140737488355328 d) : Spec1 Tryz.prog 70 [.agg d.enc] (i64 (checkV d)) := by
  have hon := hd.2.2.2.1
  refine Spec1.of_HT Tryz.func70 rfl (by rw [Tryz.ntmps70]; simp) rfl ?_
  rw [Tryz.ntmps70]
  refine HT.seq ?_
  refine HT.region ?_   -- R0
  simp (disch := first | omega | (simp <;> omega) | fail) [wrap_i64, wrap_u64, wrap_u8']
  refine HT.seq ?_
  refine HT.seq ?_
  by_cases c1 : nameV d.repo = false
  · skip
    refine HT.region ?_   -- R1
    simp (disch := first | omega | (simp <;> omega) | fail) [wrap_i64, wrap_u64, wrap_u8', c1]
    refine stepK.mk (.call1 _ _ _ _ rfl Ty.hb100 rfl (dName_spec d.repo hd.1) rfl rfl) ?_
    simp (disch := first | omega | (simp <;> omega) | fail) [wrap_i64, wrap_u64, wrap_u8', c1]
    refine HT.cond' ?_   -- if 21
    simp (disch := first | omega | (simp <;> omega) | fail) [wrap_i64, wrap_u64, wrap_u8']
    refine HT.seq ?_
    refine HT.region ?_   -- R2
    simp (disch := first | omega | (simp <;> omega) | fail) [wrap_i64, wrap_u64, wrap_u8']
    refine HT.ret ?_
    have hx : checkV d = 3 := check3 (by first | exact .inl c1 | exact .inr (.inl c2) | exact .inr (.inr (.inl c3)))
    simp (disch := first | omega | (simp <;> omega) | fail) [wrap_i64, wrap_u64, wrap_u8', hx]
  by_cases c2 : pathV d.path = false
  · skip
    refine HT.region ?_   -- R1
    simp (disch := first | omega | (simp <;> omega) | fail) [wrap_i64, wrap_u64, wrap_u8', c1, c2]
    refine stepK.mk (.call1 _ _ _ _ rfl Ty.hb100 rfl (dName_spec d.repo hd.1) rfl rfl) ?_
    simp (disch := first | omega | (simp <;> omega) | fail) [wrap_i64, wrap_u64, wrap_u8', c1, c2]
    refine stepK.mk (.call1 _ _ _ _ rfl Ty.hb101 rfl (Path_spec d.path hd.2.1) rfl rfl) ?_
    simp (disch := first | omega | (simp <;> omega) | fail) [wrap_i64, wrap_u64, wrap_u8', c1, c2]
    refine HT.cond' ?_   -- if 21
    simp (disch := first | omega | (simp <;> omega) | fail) [wrap_i64, wrap_u64, wrap_u8']
    refine HT.seq ?_
    refine HT.region ?_   -- R2
    simp (disch := first | omega | (simp <;> omega) | fail) [wrap_i64, wrap_u64, wrap_u8']
    refine HT.ret ?_
    have hx : checkV d = 3 := check3 (by first | exact .inl c1 | exact .inr (.inl c2) | exact .inr (.inr (.inl c3)))
    simp (disch := first | omega | (simp <;> omega) | fail) [wrap_i64, wrap_u64, wrap_u8', hx]
  by_cases c3 : textV d.text = false
  · skip
    refine HT.region ?_   -- R1
    simp (disch := first | omega | (simp <;> omega) | fail) [wrap_i64, wrap_u64, wrap_u8', c1, c2, c3]
    refine stepK.mk (.call1 _ _ _ _ rfl Ty.hb100 rfl (dName_spec d.repo hd.1) rfl rfl) ?_
    simp (disch := first | omega | (simp <;> omega) | fail) [wrap_i64, wrap_u64, wrap_u8', c1, c2, c3]
    refine stepK.mk (.call1 _ _ _ _ rfl Ty.hb101 rfl (Path_spec d.path hd.2.1) rfl rfl) ?_
    simp (disch := first | omega | (simp <;> omega) | fail) [wrap_i64, wrap_u64, wrap_u8', c1, c2, c3]
    refine stepK.mk (.call1 _ _ _ _ rfl Ty.hb102 rfl (Valid_spec d.text hd.2.2.1) rfl rfl) ?_
    simp (disch := first | omega | (simp <;> omega) | fail) [wrap_i64, wrap_u64, wrap_u8', c1, c2, c3]
    refine HT.cond' ?_   -- if 21
    simp (disch := first | omega | (simp <;> omega) | fail) [wrap_i64, wrap_u64, wrap_u8']
    refine HT.seq ?_
    refine HT.region ?_   -- R2
    simp (disch := first | omega | (simp <;> omega) | fail) [wrap_i64, wrap_u64, wrap_u8']
    refine HT.ret ?_
    have hx : checkV d = 3 := check3 (by first | exact .inl c1 | exact .inr (.inl c2) | exact .inr (.inr (.inl c3)))
    simp (disch := first | omega | (simp <;> omega) | fail) [wrap_i64, wrap_u64, wrap_u8', hx]
  simp only [Bool.not_eq_false] at c1 c2 c3
  refine HT.region ?_   -- R1
  simp (disch := first | omega | (simp <;> omega) | fail) [wrap_i64, wrap_u64, wrap_u8', c1, c2, c3]
  refine stepK.mk (.call1 _ _ _ _ rfl Ty.hb100 rfl (dName_spec d.repo hd.1) rfl rfl) ?_
  simp (disch := first | omega | (simp <;> omega) | fail) [wrap_i64, wrap_u64, wrap_u8', c1, c2, c3]
  refine stepK.mk (.call1 _ _ _ _ rfl Ty.hb101 rfl (Path_spec d.path hd.2.1) rfl rfl) ?_
  simp (disch := first | omega | (simp <;> omega) | fail) [wrap_i64, wrap_u64, wrap_u8', c1, c2, c3]
  refine stepK.mk (.call1 _ _ _ _ rfl Ty.hb102 rfl (Valid_spec d.text hd.2.2.1) rfl rfl) ?_
  simp (disch := first | omega | (simp <;> omega) | fail) [wrap_i64, wrap_u64, wrap_u8', c1, c2, c3]
  refine HT.cond' ?_   -- if 21
  simp (disch := first | omega | (simp <;> omega) | fail) [wrap_i64, wrap_u64, wrap_u8']
  refine HT.skip ?_
  simp (disch := first | omega | (simp <;> omega) | fail) [wrap_i64, wrap_u64, wrap_u8']
  refine HT.seq ?_
  refine HT.seq ?_
  refine HT.region ?_   -- R3
  simp (disch := first | omega | (simp <;> omega) | fail) [wrap_i64, wrap_u64, wrap_u8']
  refine HT.block ?_
  refine HT.loopK (fun k : {k : Nat // k ≤ d.on.length ∧ UpTo nameV d.on k} => [.s 25 (i64 k)]) [1, 23, 24] [1] (fun k => d.on.length - k) (⟨0, by omega, UpTo.zero _ _⟩) ?_ ?_   -- block 0 turned [25]
  · simp (disch := first | omega | (simp <;> omega) | fail) [wrap_i64, wrap_u64, wrap_u8']
  rintro ⟨k, hk, hg⟩
  simp (disch := first | omega | (simp <;> omega) | fail) [wrap_i64, wrap_u64, wrap_u8']
  refine HT.seq ?_
  refine HT.region ?_   -- R4
  simp (disch := first | omega | (simp <;> omega) | fail) [wrap_i64, wrap_u64, wrap_u8']
  refine HT.seq ?_
  refine HT.cond' ?_   -- if 26
  simp (disch := first | omega | (simp <;> omega) | fail) [wrap_i64, wrap_u64, wrap_u8']
  refine ⟨fun h26 => ?_, fun h26 => ?_⟩
  · skip
    have hk' : k < d.on.length := by omega
    refine HT.skip ?_
    simp (disch := first | omega | (simp <;> omega) | fail) [wrap_i64, wrap_u64, wrap_u8']
    refine HT.seq ?_
    refine HT.block ?_
    refine HT.seq ?_
    refine HT.region ?_   -- R5
    simp (disch := first | omega | (simp <;> omega) | fail) [wrap_i64, wrap_u64, wrap_u8']
    refine HT.seq ?_
    refine HT.region ?_   -- R6
    simp (disch := first | omega | (simp <;> omega) | fail) [wrap_i64, wrap_u64, wrap_u8']
    refine stepK.mk (.call1 _ _ _ _ rfl Ty.hb100 rfl (dName_spec d.on[k] (hd.2.2.2.2 _ (List.getElem_mem hk'))) rfl rfl) ?_
    simp (disch := first | omega | (simp <;> omega) | fail) [wrap_i64, wrap_u64, wrap_u8']
    refine HT.cond' ?_   -- if 31
    simp (disch := first | omega | (simp <;> omega) | fail) [wrap_i64, wrap_u64, wrap_u8']
    refine ⟨fun h31 => ?_, fun h31 => ?_⟩
    · skip
      refine HT.seq ?_
      refine HT.region ?_   -- R7
      simp (disch := first | omega | (simp <;> omega) | fail) [wrap_i64, wrap_u64, wrap_u8']
      refine HT.ret ?_
      have hx : checkV d = 3 := check3 (.inr (.inr (.inr (all_not hk' (by simpa using h31)))))
      simp (disch := first | omega | (simp <;> omega) | fail) [wrap_i64, wrap_u64, wrap_u8', hx]
    · skip
      refine HT.skip ?_
      simp (disch := first | omega | (simp <;> omega) | fail) [wrap_i64, wrap_u64, wrap_u8']
      refine HT.region ?_   -- R8
      simp (disch := first | omega | (simp <;> omega) | fail) [wrap_i64, wrap_u64, wrap_u8']
      refine Round.mk' (⟨k + 1, by omega, hg.succ hk' (by simpa using h31)⟩) (by dsimp only; omega) rfl ?_
      simp (disch := first | omega | (simp <;> omega) | fail) [wrap_i64, wrap_u64, wrap_u8']
  · skip
    obtain rfl : k = d.on.length := by omega
    have hx2 := check_rest c1 c2 c3 hg.all
    refine HT.exit ?_
    simp (disch := first | omega | (simp <;> omega) | fail) [wrap_i64, wrap_u64, wrap_u8']
    refine HT.seq ?_
    refine HT.seq ?_
    refine HT.region ?_   -- R9
    simp (disch := first | omega | (simp <;> omega) | fail) [wrap_i64, wrap_u64, wrap_u8']
    refine HT.cond' ?_   -- if 36
    simp (disch := first | omega | (simp <;> omega) | fail) [wrap_i64, wrap_u64, wrap_u8']
    refine ⟨fun h36 => ?_, fun h36 => ?_⟩
    · skip
      refine HT.seq ?_
      refine HT.region ?_   -- R10
      simp (disch := first | omega | (simp <;> omega) | fail) [wrap_i64, wrap_u64, wrap_u8']
      refine HT.ret ?_
      simp (disch := first | omega | (simp <;> omega) | fail) [wrap_i64, wrap_u64, wrap_u8', hx2, h36]
    · skip
      have e1 : ¬ d.on.length = 0 := fun e => h36 (List.eq_nil_of_length_eq_zero e)
      refine HT.skip ?_
      simp (disch := first | omega | (simp <;> omega) | fail) [wrap_i64, wrap_u64, wrap_u8']
      refine HT.seq ?_
      refine HT.seq ?_
      refine HT.region ?_   -- R11
      simp (disch := first | omega | (simp <;> omega) | fail) [wrap_i64, wrap_u64, wrap_u8']
      refine HT.block ?_
      refine HT.loopK (fun k : {k : Nat // k + 1 ≤ d.on.length ∧ StepTo d.on k} => [.s 5 (i64 ((k : Int) + 1))]) [1] [1] (fun k => d.on.length - k) (⟨0, by omega, fun i h hi => absurd hi (Nat.not_lt_zero _)⟩) ?_ ?_   -- block 2 turned [5]
      · simp (disch := first | omega | (simp <;> omega) | fail) [wrap_i64, wrap_u64, wrap_u8']
      rintro ⟨k, hk, hst⟩
      simp (disch := first | omega | (simp <;> omega) | fail) [wrap_i64, wrap_u64, wrap_u8']
      refine HT.seq ?_
      refine HT.seq ?_
      refine HT.region ?_   -- R12
      simp (disch := first | omega | (simp <;> omega) | fail) [wrap_i64, wrap_u64, wrap_u8']
      refine HT.cond' ?_   -- if 41
      simp (disch := first | omega | (simp <;> omega) | fail) [wrap_i64, wrap_u64, wrap_u8']
      refine ⟨fun h41 => ?_, fun h41 => ?_⟩
      · skip
        have hk2 : k + 1 < d.on.length := by omega
        refine HT.skip ?_
        simp (disch := first | omega | (simp <;> omega) | fail) [wrap_i64, wrap_u64, wrap_u8']
        refine HT.seq ?_
        refine HT.block ?_
        refine HT.seq ?_
        by_cases s1 : stepS d.on[k] d.on[k + 1] = true
        · skip
          have hq := step_yes s1
          refine HT.draw [.batch [0, 1, 2, 3, 4, 5, 6, 7, 8, 9, 10, 11]] (by kernel_rfl) ?_   -- R14
          simp (disch := first | omega | (simp <;> omega) | fail) [wrap_i64, wrap_u64, wrap_u8', hq]
          refine HT.cond' ?_   -- if 55
          simp (disch := first | omega | (simp <;> omega) | fail) [wrap_i64, wrap_u64, wrap_u8']
          refine HT.skip ?_
          simp (disch := first | omega | (simp <;> omega) | fail) [wrap_i64, wrap_u64, wrap_u8']
          refine HT.region ?_   -- R13
          simp (disch := first | omega | (simp <;> omega) | fail) [wrap_i64, wrap_u64, wrap_u8']
          refine Round.mk' (⟨k + 1, by omega, hst.succ hk2 s1⟩) (by dsimp only; omega) rfl ?_
          simp (disch := first | omega | (simp <;> omega) | fail) [wrap_i64, wrap_u64, wrap_u8']
        have hq := step_no s1
        refine HT.draw [.batch [0, 1, 2, 3, 4, 5, 6, 7, 8, 9, 10, 11]] (by kernel_rfl) ?_   -- R14
        simp (disch := first | omega | (simp <;> omega) | fail) [wrap_i64, wrap_u64, wrap_u8', hq]
        refine HT.cond' ?_   -- if 55
        simp (disch := first | omega | (simp <;> omega) | fail) [wrap_i64, wrap_u64, wrap_u8']
        refine HT.seq ?_
        refine HT.region ?_   -- R15
        simp (disch := first | omega | (simp <;> omega) | fail) [wrap_i64, wrap_u64, wrap_u8']
        refine HT.ret ?_
        have hx4 : incS d.on = false := incS_no hk2 s1
        simp (disch := first | omega | (simp <;> omega) | fail) [wrap_i64, wrap_u64, wrap_u8', hx2, on_cons e1, hx4]
      · skip
        have hx3 : incS d.on = true := (incS_all _).2 fun i h => hst i h (by omega)
        refine HT.exit ?_
        simp (disch := first | omega | (simp <;> omega) | fail) [wrap_i64, wrap_u64, wrap_u8']
        refine HT.seq ?_
        refine HT.region ?_   -- R16
        simp (disch := first | omega | (simp <;> omega) | fail) [wrap_i64, wrap_u64, wrap_u8']
        refine HT.ret ?_
        simp (disch := first | omega | (simp <;> omega) | fail) [wrap_i64, wrap_u64, wrap_u8', hx2, on_cons e1, hx3]
end Go.Hv
set_option linter.unusedVariables false
set_option linter.unusedSimpArgs false
namespace Go.Hv
open Go Go.Hv Go.Proofs Go.RowKit
open Go.Proofs.YthdljfognblpbaaGreatDoor
@[simp] theorem ak85 : aggKey Tryz.prog 85 = true := by kernel_rfl
theorem cells9x : Tryz.prog.cellsOf 9 = 1 := by kernel_rfl
theorem cells85 : Tryz.prog.cellsOf 85 = 3 := by kernel_rfl
abbrev Key3 := List UInt8 × List UInt8 × List UInt8
def kk (k : Key3) : HV := .agg [.str k.1, .str k.2.1, .str k.2.2]
def KB (k : Key3) : Prop := k.1.length ≤ 1048576 ∧ k.2.1.length ≤ 1048576 ∧ k.2.2.length ≤ 1048576
theorem key85 {k : Key3} (h : KB k) : keyH Tryz.prog 10 85 [.str k.1, .str k.2.1, .str k.2.2] = some [.string k.1, .string k.2.1, .string k.2.2] := by
  have hh : ∀ x : List UInt8, x.length ≤ 1048576 → x.length ≤ maxLen := fun x hx => by unfold maxLen; omega
  simp [keyH, Tryz.underlying85, Tryz.underlying9, cells9x, cells85, hh _ h.1, hh _ h.2.1, hh _ h.2.2, List.mapM_cons]
theorem aggEq85 {a b : Key3} (ha : KB a) (hb : KB b) : aggEq Tryz.prog 85 [.str a.1, .str a.2.1, .str a.2.2] [.str b.1, .str b.2.1, .str b.2.2] = some (decide (a = b)) := by
  unfold aggEq
  rw [if_pos ak85, key85 ha, key85 hb]
  obtain ⟨a1, a2, a3⟩ := a; obtain ⟨b1, b2, b3⟩ := b
  simp
theorem keyEq85 {a b : Key3} (ha : KB a) (hb : KB b) : keyEq Tryz.prog 85 (kk a) (kk b) = some (decide (a = b)) := by rw [kk, kk, keyEq]; exact aggEq85 ha hb
def seenE (ks : List Key3) : List (HV × HV) := ks.map fun k => (kk k, bo true)
theorem find_seen {c : Key3} (hc : KB c) : ∀ (ks : List Key3) (i : Nat), (∀ k ∈ ks, KB k) → findHV Tryz.prog 85 (kk c) (seenE ks) i = some (if c ∈ ks then some (i + ks.idxOf c, bo true) else none)
  | [], i, _ => by simp [seenE, findHV]
  | k :: ks, i, h => by
    have ih := find_seen hc ks (i + 1) (fun x hx => h x (by simp [hx]))
    unfold seenE at ih ⊢
    rw [List.map_cons, findHV, keyEq85 hc (h k (by simp))]
    by_cases e : c = k
    · subst e; simp
    · simp only [e, decide_false, ih, List.mem_cons, false_or]
      have e2 : (k == c) = false := by simpa using fun x : k = c => e x.symm
      split
      · rw [List.idxOf_cons, e2]; simp only [cond_false]; rw [show i + 1 + ks.idxOf c = i + (ks.idxOf c + 1) by omega]
      · rfl
@[simp] theorem subM_seenE (id : Nat) (x y : HV) (ks : List Key3) : subM id x y (seenE ks) = seenE ks := by
  unfold subM seenE
  rw [List.map_map]
  exact List.map_congr_left fun k _ => by simp [kk, HV.sub]
theorem seenE_length (ks : List Key3) : (seenE ks).length = ks.length := by simp [seenE]
theorem seenE_snoc (ks : List Key3) (c : Key3) : seenE ks ++ [(.agg [.str c.1, .str c.2.1, .str c.2.2], .lit (.bool true))] = seenE (ks ++ [c]) := by simp [seenE, kk]
theorem seenE_get {ks : List Key3} {c : Key3} (h : c ∈ ks) : (seenE ks)[ks.idxOf c]? = some (.agg [.str c.1, .str c.2.1, .str c.2.2], .lit (.bool true)) := by
  have hlt := List.idxOf_lt_length_iff.2 h
  unfold seenE
  rw [List.getElem?_map, List.getElem?_eq_getElem hlt, List.getElem_idxOf hlt]; rfl
theorem seenE_set {ks : List Key3} {c : Key3} (h : c ∈ ks) : (seenE ks).set (ks.idxOf c) (.agg [.str c.1, .str c.2.1, .str c.2.2], .lit (.bool true)) = seenE ks := by
  apply List.ext_getElem?
  intro i
  rw [List.getElem?_set]
  split
  · next e =>
    subst e
    rw [if_pos (by rw [seenE_length]; exact List.idxOf_lt_length_iff.2 h), seenE_get h]
  · rfl
def addA (l : List Key3) (c : Key3) : List Key3 := if c ∈ l then l else l ++ [c]
theorem addA_mem (l : List Key3) (c x : Key3) : x ∈ addA l c ↔ x ∈ l ∨ x = c := by
  unfold addA
  split
  · next h => constructor
              · exact .inl
              · rintro (h' | rfl); exact h'; exact h
  · simp
theorem addA_fold : ∀ (xs acc : List Key3), (xs.foldl addA acc).length ≤ acc.length + xs.length ∧ ((xs.foldl addA acc).length = acc.length + xs.length ↔ xs.Nodup ∧ ∀ x ∈ xs, x ∉ acc)
  | [], acc => by simp
  | x :: xs, acc => by
    obtain ⟨h1, h2⟩ := addA_fold xs (addA acc x)
    rw [List.foldl_cons]
    by_cases hx : x ∈ acc
    · have e : addA acc x = acc := by unfold addA; rw [if_pos hx]
      rw [e] at h1 h2 ⊢
      refine ⟨by simp; omega, ?_⟩
      constructor
      · intro h; simp at h; omega
      · rintro ⟨_, h⟩; exact absurd hx (h x (by simp))
    · have e : addA acc x = acc ++ [x] := by unfold addA; rw [if_neg hx]
      rw [e] at h1 h2 ⊢
      have hl : (acc ++ [x]).length + xs.length = acc.length + (x :: xs).length := by simp; omega
      rw [hl] at h1 h2
      refine ⟨h1, h2.trans ?_⟩
      rw [List.nodup_cons]
      constructor
      · rintro ⟨a, b⟩
        refine ⟨⟨fun h => (b x h) (by simp), a⟩, fun y hy => ?_⟩
        rcases List.mem_cons.1 hy with rfl | hy
        · exact hx
        · exact fun h => b y hy (by simp [h])
      · rintro ⟨⟨a, b⟩, c⟩
        refine ⟨b, fun y hy h => ?_⟩
        rcases List.mem_append.1 h with h | h
        · exact c y (by simp [hy]) h
        · simp at h; subst h; exact a hy
def keysK (l : List Doc) (k : Nat) : List Key3 := ((l.take k).map keyV).foldl addA []
theorem keysK_succ {l : List Doc} {k : Nat} (hk : k < l.length) : keysK l (k + 1) = addA (keysK l k) (keyV l[k]) := by
  unfold keysK; rw [List.take_succ_eq_append_getElem hk, List.map_append, List.foldl_append]; rfl
theorem keysK_len (l : List Doc) : (keysK l l.length).length < l.length ↔ ¬ (l.map keyV).Nodup := by
  obtain ⟨h1, h2⟩ := addA_fold (l.map keyV) []
  unfold keysK
  rw [List.take_length]
  simp only [List.length_nil, Nat.zero_add, List.length_map, List.not_mem_nil, not_false_eq_true, implies_true, and_true] at h1 h2
  rw [← h2]; omega
theorem check0_KB {d : Doc} (h : checkV d = 0) : KB (keyV d) := by
  have h1 : nameV d.repo = true := by cases e : nameV d.repo with
    | true => rfl
    | false => rw [check3 (.inl e)] at h; cases h
  have h2 : pathV d.path = true := by cases e : pathV d.path with
    | true => rfl
    | false => rw [check3 (.inr (.inl e))] at h; cases h
  have h3 : textV d.text = true := by cases e : textV d.text with
    | true => rfl
    | false => rw [check3 (.inr (.inr (.inl e)))] at h; cases h
  unfold nameV at h1
  rw [Bool.and_eq_true] at h1
  unfold pathV at h1 h2
  unfold textV at h3
  simp only [Bool.and_eq_true] at h1 h2 h3
  exact ⟨Nat.le_trans (of_decide_eq_true h1.1.1) (by decide), Nat.le_trans (of_decide_eq_true h2.1) (by decide), Nat.le_trans (of_decide_eq_true h3.1) (by decide)⟩
theorem scan_two {last : Int} {l : List Doc} {k : Nat} (hk : k < l.length) (h : l[k].id ≤ last ∨ 9999 < l[k].id) : scanV last (l.drop k) = 2 := by
  rw [List.drop_eq_getElem_cons hk, scanV, if_pos h]
theorem scan_chk {last : Int} {l : List Doc} {k : Nat} (hk : k < l.length) (h : ¬ (l[k].id ≤ last ∨ 9999 < l[k].id)) (h2 : ¬ checkV l[k] = 0) : scanV last (l.drop k) = checkV l[k] := by
  rw [List.drop_eq_getElem_cons hk, scanV, if_neg h, if_pos h2]
theorem scan_go {last : Int} {l : List Doc} {k : Nat} (hk : k < l.length) (h : ¬ (l[k].id ≤ last ∨ 9999 < l[k].id)) (h2 : checkV l[k] = 0) : scanV last (l.drop k) = scanV l[k].id (l.drop (k + 1)) := by
  rw [List.drop_eq_getElem_cons hk, scanV, if_neg h, if_neg (by simpa using h2)]
theorem right_long {l : List Doc} (h : 64 < l.length) : rightV l = 4 := by unfold rightV; rw [if_pos h]
theorem right_scan {l : List Doc} {n : Int} (h : l.length ≤ 64) (hs : scanV 0 l = n) (hn : n ≠ 0) : rightV l = n := by
  unfold rightV; rw [if_neg (by omega), if_pos (by rw [hs]; exact hn), hs]
theorem right_end {l : List Doc} (h : l.length ≤ 64) (hs : scanV 0 l = 0) : rightV l = if (l.map keyV).Nodup then 0 else 7 := by
  unfold rightV; rw [if_neg (by omega), if_neg (by rw [hs]; simp)]
def DocsB (B : Nat) (l : List Doc) : Prop := l.length ≤ B ∧ ∀ d ∈ l, DocB B d
set_option maxRecDepth 20000 in
set_option maxHeartbeats 4000000 in
theorem Right_spec (l : List Doc) (hl : DocsB 140737488355328 l) : Spec1 Tryz.prog 38 [.sl 5 false (docsHV l)] (i64 (rightV l)) := by
  have hl0 := hl.1
  refine Spec1.of_HT Tryz.func38 rfl (by rw [Tryz.ntmps38]; simp) rfl ?_
  rw [Tryz.ntmps38]
  refine HT.seq ?_
  refine HT.region ?_   -- R0
  simp (disch := first | omega | (simp <;> omega) | fail) [wrap_i64, wrap_u64, wrap_u8']
  refine HT.seq ?_
  refine HT.seq ?_
  refine HT.region ?_   -- R1
  simp (disch := first | omega | (simp <;> omega) | fail) [wrap_i64, wrap_u64, wrap_u8']
  refine HT.cond' ?_   -- if 10
  simp (disch := first | omega | (simp <;> omega) | fail) [wrap_i64, wrap_u64, wrap_u8']
  refine ⟨fun h10 => ?_, fun h10 => ?_⟩
  · skip
    have hx := right_long (show 64 < l.length by omega)
    refine HT.seq ?_
    refine HT.region ?_   -- R2
    simp (disch := first | omega | (simp <;> omega) | fail) [wrap_i64, wrap_u64, wrap_u8']
    refine HT.ret ?_
    simp (disch := first | omega | (simp <;> omega) | fail) [wrap_i64, wrap_u64, wrap_u8', hx]
  · skip
    have hl64 : l.length ≤ 64 := by omega
    refine HT.skip ?_
    simp (disch := first | omega | (simp <;> omega) | fail) [wrap_i64, wrap_u64, wrap_u8']
    refine HT.seq ?_
    refine HT.region ?_   -- R3
    simp (disch := first | omega | (simp <;> omega) | fail) [wrap_i64, wrap_u64, wrap_u8']
    refine HT.seq ?_
    refine HT.region ?_   -- R4
    simp (disch := first | omega | (simp <;> omega) | fail) [wrap_i64, wrap_u64, wrap_u8']
    refine HT.seq ?_
    refine HT.seq ?_
    refine HT.region ?_   -- R5
    simp (disch := first | omega | (simp <;> omega) | fail) [wrap_i64, wrap_u64, wrap_u8']
    refine HT.block ?_
    refine HT.loopK (fun k : {k : Nat × Int // k.1 ≤ l.length ∧ scanV 0 l = scanV k.2 (l.drop k.1) ∧ (∀ x ∈ keysK l k.1, KB x) ∧ (keysK l k.1).length ≤ k.1} => [.s 14 (i64 k.1.1), .s 3 (i64 k.1.2), .o 11 (.map (seenE (keysK l k.1.1)))]) [0, 4, 12, 13] [] (fun k => l.length - k.1.1) (⟨⟨0, 0⟩, by simp, by simp, by simp [keysK], by simp [keysK]⟩) ?_ ?_   -- block 0 turned [3, 14, 23, 24, 25]
    · simp (disch := first | omega | (simp <;> omega) | fail) [wrap_i64, wrap_u64, wrap_u8', keysK, seenE]
    rintro ⟨⟨k, last⟩, hk, hsc, hkb, hks⟩
    simp (disch := first | omega | (simp <;> omega) | fail) [wrap_i64, wrap_u64, wrap_u8']
    refine HT.seq ?_
    refine HT.region ?_   -- R6
    simp (disch := first | omega | (simp <;> omega) | fail) [wrap_i64, wrap_u64, wrap_u8']
    refine HT.seq ?_
    refine HT.cond' ?_   -- if 15
    simp (disch := first | omega | (simp <;> omega) | fail) [wrap_i64, wrap_u64, wrap_u8']
    refine ⟨fun h15 => ?_, fun h15 => ?_⟩
    · skip
      dsimp only at hk hsc hkb hks
      have hk' : k < l.length := by omega
      refine HT.skip ?_
      simp (disch := first | omega | (simp <;> omega) | fail) [wrap_i64, wrap_u64, wrap_u8']
      refine HT.seq ?_
      refine HT.block ?_
      refine HT.seq ?_
      refine HT.region ?_   -- R7
      simp (disch := first | omega | (simp <;> omega) | fail) [wrap_i64, wrap_u64, wrap_u8']
      refine HT.seq ?_
      refine HT.seq ?_
      by_cases a1 : l[k].id ≤ last
      · skip
        refine HT.region ?_   -- R8
        simp (disch := first | omega | (simp <;> omega) | fail) [wrap_i64, wrap_u64, wrap_u8']
        refine HT.cond' ?_   -- if 26
        simp (disch := first | omega | (simp <;> omega) | fail) [wrap_i64, wrap_u64, wrap_u8']
        refine HT.seq ?_
        refine HT.region ?_   -- R9
        simp (disch := first | omega | (simp <;> omega) | fail) [wrap_i64, wrap_u64, wrap_u8']
        refine HT.ret ?_
        have hx := right_scan hl64 (hsc.trans (scan_two hk' (by omega))) (by decide)
        simp (disch := first | omega | (simp <;> omega) | fail) [wrap_i64, wrap_u64, wrap_u8', hx]
      by_cases a2 : 9999 < l[k].id
      · skip
        refine HT.region ?_   -- R8
        simp (disch := first | omega | (simp <;> omega) | fail) [wrap_i64, wrap_u64, wrap_u8']
        refine HT.cond' ?_   -- if 26
        simp (disch := first | omega | (simp <;> omega) | fail) [wrap_i64, wrap_u64, wrap_u8']
        refine HT.seq ?_
        refine HT.region ?_   -- R9
        simp (disch := first | omega | (simp <;> omega) | fail) [wrap_i64, wrap_u64, wrap_u8']
        refine HT.ret ?_
        have hx := right_scan hl64 (hsc.trans (scan_two hk' (by omega))) (by decide)
        simp (disch := first | omega | (simp <;> omega) | fail) [wrap_i64, wrap_u64, wrap_u8', hx]
      have hn32 : ¬ (l[k].id ≤ last ∨ 9999 < l[k].id) := by omega
      refine HT.region ?_   -- R8
      simp (disch := first | omega | (simp <;> omega) | fail) [wrap_i64, wrap_u64, wrap_u8']
      refine HT.cond' ?_   -- if 26
      simp (disch := first | omega | (simp <;> omega) | fail) [wrap_i64, wrap_u64, wrap_u8']
      refine HT.skip ?_
      simp (disch := first | omega | (simp <;> omega) | fail) [wrap_i64, wrap_u64, wrap_u8']
      refine HT.seq ?_
      refine HT.region ?_   -- R10
      simp (disch := first | omega | (simp <;> omega) | fail) [wrap_i64, wrap_u64, wrap_u8']
      refine HT.seq ?_
      refine HT.seq ?_
      refine HT.region ?_   -- R11
      simp (disch := first | omega | (simp <;> omega) | fail) [wrap_i64, wrap_u64, wrap_u8']
      refine stepK.mk (.call1 _ _ _ _ rfl Ty.hb70 rfl (check_spec l[k] (hl.2 _ (List.getElem_mem hk'))) rfl rfl) ?_
      simp (disch := first | omega | (simp <;> omega) | fail) [wrap_i64, wrap_u64, wrap_u8']
      refine HT.seq ?_
      refine HT.region ?_   -- R12
      simp (disch := first | omega | (simp <;> omega) | fail) [wrap_i64, wrap_u64, wrap_u8']
      refine HT.cond' ?_   -- if 32
      simp (disch := first | omega | (simp <;> omega) | fail) [wrap_i64, wrap_u64, wrap_u8']
      refine ⟨fun h32 => ?_, fun h32 => ?_⟩
      · skip
        refine HT.seq ?_
        refine HT.region ?_   -- R13
        simp (disch := first | omega | (simp <;> omega) | fail) [wrap_i64, wrap_u64, wrap_u8']
        refine HT.ret ?_
        have hx := right_scan hl64 (hsc.trans (scan_chk hk' hn32 h32)) h32
        simp (disch := first | omega | (simp <;> omega) | fail) [wrap_i64, wrap_u64, wrap_u8', hx]
      · skip
        refine HT.skip ?_
        simp (disch := first | omega | (simp <;> omega) | fail) [wrap_i64, wrap_u64, wrap_u8']
        have hok : keyH Tryz.prog 10 85 [.str l[k].repo, .str l[k].path, .str l[k].text] = some [.string l[k].repo, .string l[k].path, .string l[k].text] := key85 (check0_KB h32)
        by_cases cf : keyV l[k] ∈ keysK l k
        · skip
          have hf1 : findHV Tryz.prog 85 (.agg [.str l[k].repo, .str l[k].path, .str l[k].text]) (seenE (keysK l k)) 0 = some (some ((keysK l k).idxOf (keyV l[k]), bo true)) := (find_seen (check0_KB h32) (keysK l k) 0 hkb).trans (by rw [if_pos cf, Nat.zero_add])
          have hg1 : (seenE (keysK l k))[(keysK l k).idxOf (keyV l[k])]? = some (.agg [.str l[k].repo, .str l[k].path, .str l[k].text], .lit (.bool true)) := seenE_get cf
          have hs1 : (seenE (keysK l k)).set ((keysK l k).idxOf (keyV l[k])) (.agg [.str l[k].repo, .str l[k].path, .str l[k].text], .lit (.bool true)) = seenE (keysK l k) := seenE_set cf
          refine HT.region ?_   -- R14
          simp (disch := first | omega | (simp <;> omega) | fail) [wrap_i64, wrap_u64, wrap_u8', hf1, hok, hg1, hs1]
          refine stepK.mk (.call1f _ _ _ _ _ rfl Ty.hb71 rfl rfl (key_spec l[k]) rfl) ?_
          simp (disch := first | omega | (simp <;> omega) | fail) [wrap_i64, wrap_u64, wrap_u8', hf1, hok, hg1, hs1]
          refine HT.region ?_   -- R15
          simp (disch := first | omega | (simp <;> omega) | fail) [wrap_i64, wrap_u64, wrap_u8']
          refine Round.mk' (⟨⟨k + 1, l[k].id⟩, by dsimp only; omega, by dsimp only; rw [hsc, scan_go hk' hn32 h32], by dsimp only; rw [keysK_succ hk']; intro x hx; rcases (addA_mem _ _ _).1 hx with hx | rfl; exact hkb x hx; exact check0_KB h32, by dsimp only; rw [keysK_succ hk']; unfold addA; split <;> (try simp only [List.length_append, List.length_singleton]) <;> omega⟩) (by dsimp only; omega) rfl ?_
          simp (disch := first | omega | (simp <;> omega) | fail) [wrap_i64, wrap_u64, wrap_u8']
          rw [keysK_succ hk', addA]
          simp [cf]
          try exact seenE_snoc _ (keyV l[k])
        have hf1 : findHV Tryz.prog 85 (.agg [.str l[k].repo, .str l[k].path, .str l[k].text]) (seenE (keysK l k)) 0 = some none := (find_seen (check0_KB h32) (keysK l k) 0 hkb).trans (by rw [if_neg cf])
        refine HT.region ?_   -- R14
        simp (disch := first | omega | (simp <;> omega) | fail) [wrap_i64, wrap_u64, wrap_u8', hf1, hok]
        refine stepK.mk (.call1f _ _ _ _ _ rfl Ty.hb71 rfl rfl (key_spec l[k]) rfl) ?_
        simp (disch := first | omega | (simp <;> omega) | fail) [wrap_i64, wrap_u64, wrap_u8', hf1, hok]
        refine HT.region ?_   -- R15
        simp (disch := first | omega | (simp <;> omega) | fail) [wrap_i64, wrap_u64, wrap_u8']
        refine Round.mk' (⟨⟨k + 1, l[k].id⟩, by dsimp only; omega, by dsimp only; rw [hsc, scan_go hk' hn32 h32], by dsimp only; rw [keysK_succ hk']; intro x hx; rcases (addA_mem _ _ _).1 hx with hx | rfl; exact hkb x hx; exact check0_KB h32, by dsimp only; rw [keysK_succ hk']; unfold addA; split <;> (try simp only [List.length_append, List.length_singleton]) <;> omega⟩) (by dsimp only; omega) rfl ?_
        simp (disch := first | omega | (simp <;> omega) | fail) [wrap_i64, wrap_u64, wrap_u8']
        rw [keysK_succ hk', addA]
        simp [cf]
        try exact seenE_snoc _ (keyV l[k])
    · skip
      dsimp only at hk hsc hkb hks
      obtain rfl : k = l.length := by omega
      have hs0 : scanV 0 l = 0 := by rw [hsc, List.drop_length]; rfl
      have hre := right_end hl64 hs0
      have hkl := keysK_len l
      refine HT.exit ?_
      simp (disch := first | omega | (simp <;> omega) | fail) [wrap_i64, wrap_u64, wrap_u8']
      refine HT.seq ?_
      refine HT.seq ?_
      refine HT.region ?_   -- R16
      simp (disch := first | omega | (simp <;> omega) | fail) [wrap_i64, wrap_u64, wrap_u8']
      refine HT.cond' ?_   -- if 42
      simp (disch := first | omega | (simp <;> omega) | fail) [wrap_i64, wrap_u64, wrap_u8']
      refine ⟨fun h42 => ?_, fun h42 => ?_⟩
      · skip
        refine HT.seq ?_
        refine HT.region ?_   -- R17
        simp (disch := first | omega | (simp <;> omega) | fail) [wrap_i64, wrap_u64, wrap_u8']
        refine HT.ret ?_
        have hx : rightV l = 7 := by rw [hre, if_neg (hkl.1 (by simpa [seenE_length] using h42))]
        simp (disch := first | omega | (simp <;> omega) | fail) [wrap_i64, wrap_u64, wrap_u8', hx]
      · skip
        refine HT.skip ?_
        simp (disch := first | omega | (simp <;> omega) | fail) [wrap_i64, wrap_u64, wrap_u8']
        refine HT.seq ?_
        refine HT.region ?_   -- R18
        simp (disch := first | omega | (simp <;> omega) | fail) [wrap_i64, wrap_u64, wrap_u8']
        refine HT.ret ?_
        have hx : rightV l = 0 := by
          rw [hre, if_pos (Classical.byContradiction fun h => absurd (hkl.2 h) (by simpa [seenE_length] using h42))]
        simp (disch := first | omega | (simp <;> omega) | fail) [wrap_i64, wrap_u64, wrap_u8', hx]
def NodTo (l : List Doc) (i : Nat) : Prop := ((l.take i).map keyV).Nodup
def NotTo (l : List Doc) (i k : Nat) : Prop := ∀ (a : Nat) (x : Doc), a < k → l[a]? = some x → ∀ y, l[i]? = some y → ¬ keyV y = keyV x
theorem NotTo.succ {l : List Doc} {i k : Nat} (h : NotTo l i k) (hi : i < l.length) (hk : k < l.length) (hne : ¬ keyV l[i] = keyV l[k]) : NotTo l i (k + 1) := fun a x ha hx y hy => by
  by_cases e : a = k
  · subst e
    rw [List.getElem?_eq_getElem hk] at hx
    rw [List.getElem?_eq_getElem hi] at hy
    cases hx; cases hy; exact hne
  · exact h a x (by omega) hx y hy
theorem NodTo.succ {l : List Doc} {i : Nat} (h : NodTo l i) (hi : i < l.length) (hn : NotTo l i i) : NodTo l (i + 1) := by
  unfold NodTo at h ⊢
  rw [List.take_succ_eq_append_getElem hi, List.map_append, List.nodup_append]
  refine ⟨h, by simp, fun x hx y hy => ?_⟩
  obtain ⟨d, hd, rfl⟩ := List.mem_map.1 hx
  obtain ⟨a, ha⟩ := List.mem_iff_getElem?.1 hd
  have hal := getElem?_lt ha
  rw [List.length_take] at hal
  rw [List.getElem?_take_of_lt (by omega)] at ha
  simp at hy
  subst hy
  exact fun e => hn a d (by omega) ha l[i] (List.getElem?_eq_getElem hi) e.symm
def ChkTo (l : List Doc) (k : Nat) : Prop := ∀ (i : Nat) (h : i < l.length), i < k → checkV l[i] = 0
theorem ChkTo.succ {l : List Doc} {k : Nat} (h : ChkTo l k) (hk : k < l.length) (hc : checkV l[k] = 0) : ChkTo l (k + 1) := fun i hi hik => by
  by_cases e : i = k
  · subst e; exact hc
  · exact h i hi (by omega)
end Go.Hv
set_option linter.unusedVariables false
set_option linter.unusedSimpArgs false
namespace Go.Hv
open Go Go.Hv Go.Proofs Go.RowKit
open Go.Proofs.YthdljfognblpbaaGreatDoor
end Go.Hv
set_option linter.unusedVariables false
set_option linter.unusedSimpArgs false
namespace Go.Hv
open Go Go.Hv Go.Proofs Go.RowKit
open Go.Proofs.YthdljfognblpbaaGreatDoor
theorem foldl_ins_len : ∀ (b a : List Int), (b.foldl ins a).length ≤ a.length + b.length
  | [], a => by simp
  | x :: b, a => by
    rw [List.foldl_cons]
    have := foldl_ins_len b (ins a x)
    have := ins_length a x
    simp only [List.length_cons]; omega
theorem foldl_ins_self {a : List Int} (h : Inc a) : a.foldl ins [] = a := by
  apply inc_unique (foldl_ins_inc a List.Pairwise.nil) h
  intro c; rw [foldl_ins_mem]; simp
def TxtB (l : List Doc) : Prop := l.length ≤ 64 ∧ ∀ d ∈ l, d.text.length ≤ 2000
theorem codesV_take {l : List Doc} {k : Nat} (hk : k < l.length) : codesV (l.take (k + 1)) = (ofV l[k].text).foldl ins ((codesV (l.take k)).foldl ins []) := by
  rw [foldl_ins_self (codesV_inc _)]
  unfold codesV
  rw [List.take_succ_eq_append_getElem hk, List.foldl_append]; rfl
theorem codesV_len {l : List Doc} (h : TxtB l) : ∀ (k : Nat), k ≤ l.length → (codesV (l.take k)).length ≤ 2000 * k
  | 0, _ => by simp [codesV]
  | k + 1, hk => by
    have ih := codesV_len h k (by omega)
    rw [codesV_take (by omega), foldl_ins_self (codesV_inc _)]
    have h1 := foldl_ins_len (ofV (l[k]'(by omega)).text) (codesV (l.take k))
    have h2 := ofV_length (l[k]'(by omega)).text
    have h3 := h.2 _ (List.getElem_mem (show k < l.length by omega))
    omega
theorem CloneD_spec (f : Bool) (l : List Doc) (hl : l.length ≤ 1000000) : SpecO Tryz.prog 40 [.sl 5 f (docsHV l)] 47 5 (docsHV l) := by
  refine SpecO.of_HT Tryz.func40 rfl (by rw [Tryz.ntmps40]; simp) rfl ?_
  rw [Tryz.ntmps40]
  refine HT.seq ?_
  refine HT.region ?_   -- R0
  simp (disch := first | omega | (simp <;> omega) | fail) [wrap_i64, wrap_u64, wrap_u8']
  refine HT.seq ?_
  refine HT.seq ?_
  refine HT.region ?_   -- R1
  simp (disch := first | omega | (simp <;> omega) | fail) [wrap_i64, wrap_u64, wrap_u8']
  refine ⟨fun hnil => ?_, ?_⟩
  · skip
    refine HT.cond' ?_   -- if 4
    simp (disch := first | omega | (simp <;> omega) | fail) [wrap_i64, wrap_u64, wrap_u8']
    refine HT.seq ?_
    refine HT.region ?_   -- R2
    simp (disch := first | omega | (simp <;> omega) | fail) [wrap_i64, wrap_u64, wrap_u8']
    refine HT.weaken (HS.le_own (t := 2) 200 47 5 _ (by decide) rfl (by decide)) ?_
    refine HT.ret ?_
    simp (disch := first | omega | (simp <;> omega) | fail) [wrap_i64, wrap_u64, wrap_u8', hnil]
  · skip
    refine HT.cond' ?_   -- if 4
    simp (disch := first | omega | (simp <;> omega) | fail) [wrap_i64, wrap_u64, wrap_u8']
    refine HT.skip ?_
    simp (disch := first | omega | (simp <;> omega) | fail) [wrap_i64, wrap_u64, wrap_u8']
    refine HT.seq ?_
    refine HT.region ?_   -- R3
    simp (disch := first | omega | (simp <;> omega) | fail) [wrap_i64, wrap_u64, wrap_u8']
    refine HT.ret ?_
    simp (disch := first | omega | (simp <;> omega) | fail) [wrap_i64, wrap_u64, wrap_u8']
end Go.Hv
set_option linter.unusedVariables false
set_option linter.unusedSimpArgs false
namespace Go.Hv
open Go Go.Hv Go.Proofs Go.RowKit
open Go.Proofs.YthdljfognblpbaaGreatDoor
theorem gramsV_le (s : List UInt8) : (gramsV s).length ≤ s.length := by
  have h1 := ofV_length s
  have h2 : (gramsV s).length = (ofV s).length := by simp [gramsV]
  omega
theorem right_txt {l : List Doc} (h : rightV l = 0) : TxtB l := by
  obtain ⟨h1, _, _, h4, _⟩ := (rightV_zero l).1 h
  refine ⟨h1, fun d hd => ?_⟩
  have hc := (h4 d hd).2
  have h3 : textV d.text = true := by cases e : textV d.text with
    | true => rfl
    | false => rw [check3 (.inr (.inr (.inl e)))] at hc; cases hc
  unfold textV at h3
  simp only [Bool.and_eq_true] at h3
  exact of_decide_eq_true h3.1
theorem postV_len (l : List Doc) (j : Nat) (c : Int) : (postV (l.take j) c).length ≤ l.length := by
  unfold postV
  have h1 := List.length_filter_le (fun g : Gram => decide (g.off ≠ [])) ((l.take j).map fun d => (⟨d.id, offV d.text c⟩ : Gram))
  rw [List.length_map, List.length_take] at h1; omega
theorem gramsOf_length (l : List Doc) : (gramsOf l).length = (codesV l).length := by simp [gramsOf]
theorem build_no {l : List Doc} (h : ¬ rightV l = 0) : buildV l = (emptySeg, 1) := by unfold buildV; rw [if_neg h]
theorem build_yes {l : List Doc} (h : rightV l = 0) : buildV l = (segV l, 0) := by unfold buildV; rw [if_pos h]
end Go.Hv
set_option linter.unusedVariables false
set_option linter.unusedSimpArgs false
namespace Go.Hv
open Go Go.Hv Go.Proofs Go.RowKit
open Go.Proofs.YthdljfognblpbaaGreatDoor
theorem ne_len {α : Type} {a b : List α} (h : ¬ a.length = b.length) : ¬ a = b := fun e => h (by rw [e])
theorem ne_at {α : Type} {a b : List α} {k : Nat} (ha : k < a.length) (hb : k < b.length) (h : ¬ a[k] = b[k]) : ¬ a = b := fun e => by subst e; exact h rfl
set_option maxHeartbeats 2000000 in
theorem Strings_spec (a b : List (List UInt8)) (ha : a.length ≤ 140737488355328) : Spec1 Tryz.prog 98 [.sl 1 false (strsHV a), .sl 1 false (strsHV b)] (bo (decide (a = b))) := by
  refine Spec1.of_HT Tryz.func98 rfl (by rw [Tryz.ntmps98]; simp) rfl ?_
  rw [Tryz.ntmps98]
  refine HT.seq ?_
  refine HT.region ?_   -- R0
  simp (disch := first | omega | (simp <;> omega) | fail) [wrap_i64, wrap_u64, wrap_u8']
  refine HT.seq ?_
  refine HT.seq ?_
  by_cases c1 : ¬ a.length = b.length
  · skip
    refine HT.region ?_   -- R1
    simp (disch := first | omega | (simp <;> omega) | fail) [wrap_i64, wrap_u64, wrap_u8']
    refine HT.cond' ?_   -- if 10
    simp (disch := first | omega | (simp <;> omega) | fail) [wrap_i64, wrap_u64, wrap_u8']
    refine HT.seq ?_
    refine HT.region ?_   -- R2
    simp (disch := first | omega | (simp <;> omega) | fail) [wrap_i64, wrap_u64, wrap_u8']
    refine HT.ret ?_
    simp (disch := first | omega | (simp <;> omega) | fail) [wrap_i64, wrap_u64, wrap_u8', ne_len c1]
  refine HT.region ?_   -- R1
  simp (disch := first | omega | (simp <;> omega) | fail) [wrap_i64, wrap_u64, wrap_u8']
  refine HT.cond' ?_   -- if 10
  simp (disch := first | omega | (simp <;> omega) | fail) [wrap_i64, wrap_u64, wrap_u8']
  refine HT.skip ?_
  simp (disch := first | omega | (simp <;> omega) | fail) [wrap_i64, wrap_u64, wrap_u8']
  refine HT.seq ?_
  refine HT.seq ?_
  refine HT.region ?_   -- R3
  simp (disch := first | omega | (simp <;> omega) | fail) [wrap_i64, wrap_u64, wrap_u8']
  refine HT.block ?_
  refine HT.loopK (fun k : {k : Nat // k ≤ a.length ∧ ∀ i, i < k → a[i]? = b[i]?} => [.s 5 (i64 k)]) [0, 1] [] (fun k => a.length - k) (⟨0, by omega, by intro i hi; omega⟩) ?_ ?_   -- block 0 turned [5]
  · simp (disch := first | omega | (simp <;> omega) | fail) [wrap_i64, wrap_u64, wrap_u8']
  rintro ⟨k, hk, hg⟩
  simp (disch := first | omega | (simp <;> omega) | fail) [wrap_i64, wrap_u64, wrap_u8']
  refine HT.seq ?_
  refine HT.seq ?_
  refine HT.region ?_   -- R4
  simp (disch := first | omega | (simp <;> omega) | fail) [wrap_i64, wrap_u64, wrap_u8']
  refine HT.cond' ?_   -- if 14
  simp (disch := first | omega | (simp <;> omega) | fail) [wrap_i64, wrap_u64, wrap_u8']
  refine ⟨fun h14 => ?_, fun h14 => ?_⟩
  · skip
    have hk' : k < a.length := by omega
    have hkb : k < b.length := by omega
    refine HT.skip ?_
    simp (disch := first | omega | (simp <;> omega) | fail) [wrap_i64, wrap_u64, wrap_u8']
    refine HT.seq ?_
    refine HT.block ?_
    refine HT.seq ?_
    by_cases d1 : ¬ a[k] = b[k]
    · skip
      refine HT.draw [.batch [0, 1, 2, 3, 4, 5, 6, 7, 8]] (by kernel_rfl) ?_   -- R6
      simp (disch := first | omega | (simp <;> omega) | fail) [wrap_i64, wrap_u64, wrap_u8', d1]
      refine HT.cond' ?_   -- if 25
      simp (disch := first | omega | (simp <;> omega) | fail) [wrap_i64, wrap_u64, wrap_u8']
      refine HT.seq ?_
      refine HT.region ?_   -- R7
      simp (disch := first | omega | (simp <;> omega) | fail) [wrap_i64, wrap_u64, wrap_u8']
      refine HT.ret ?_
      simp (disch := first | omega | (simp <;> omega) | fail) [wrap_i64, wrap_u64, wrap_u8', ne_at hk' hkb d1]
    rw [Classical.not_not] at d1
    refine HT.draw [.batch [0, 1, 2, 3, 4, 5, 6, 7, 8]] (by kernel_rfl) ?_   -- R6
    simp (disch := first | omega | (simp <;> omega) | fail) [wrap_i64, wrap_u64, wrap_u8', d1]
    refine HT.cond' ?_   -- if 25
    simp (disch := first | omega | (simp <;> omega) | fail) [wrap_i64, wrap_u64, wrap_u8']
    refine HT.skip ?_
    simp (disch := first | omega | (simp <;> omega) | fail) [wrap_i64, wrap_u64, wrap_u8']
    refine HT.region ?_   -- R5
    simp (disch := first | omega | (simp <;> omega) | fail) [wrap_i64, wrap_u64, wrap_u8']
    refine Round.mk' (⟨k + 1, by omega, agreeX hg (by rw [List.getElem?_eq_getElem hk', List.getElem?_eq_getElem hkb, d1])⟩) (by dsimp only; omega) rfl ?_
    simp (disch := first | omega | (simp <;> omega) | fail) [wrap_i64, wrap_u64, wrap_u8']
  · skip
    obtain rfl : k = a.length := by omega
    refine HT.exit ?_
    simp (disch := first | omega | (simp <;> omega) | fail) [wrap_i64, wrap_u64, wrap_u8']
    refine HT.seq ?_
    refine HT.region ?_   -- R8
    simp (disch := first | omega | (simp <;> omega) | fail) [wrap_i64, wrap_u64, wrap_u8']
    refine HT.ret ?_
    have hx : a = b := extX (by omega) hg
    simp (disch := first | omega | (simp <;> omega) | fail) [wrap_i64, wrap_u64, wrap_u8', hx]
set_option maxHeartbeats 2000000 in
theorem Same5_spec (a b : List Int) (ha : a.length ≤ 140737488355328) : Spec1 Tryz.prog 99 [.sl 1 false (intsHV a), .sl 1 false (intsHV b)] (bo (decide (a = b))) := by
  refine Spec1.of_HT Tryz.func99 rfl (by rw [Tryz.ntmps99]; simp) rfl ?_
  rw [Tryz.ntmps99]
  refine HT.seq ?_
  refine HT.region ?_   -- R0
  simp (disch := first | omega | (simp <;> omega) | fail) [wrap_i64, wrap_u64, wrap_u8']
  refine HT.seq ?_
  refine HT.seq ?_
  by_cases c1 : ¬ a.length = b.length
  · skip
    refine HT.region ?_   -- R1
    simp (disch := first | omega | (simp <;> omega) | fail) [wrap_i64, wrap_u64, wrap_u8']
    refine HT.cond' ?_   -- if 10
    simp (disch := first | omega | (simp <;> omega) | fail) [wrap_i64, wrap_u64, wrap_u8']
    refine HT.seq ?_
    refine HT.region ?_   -- R2
    simp (disch := first | omega | (simp <;> omega) | fail) [wrap_i64, wrap_u64, wrap_u8']
    refine HT.ret ?_
    simp (disch := first | omega | (simp <;> omega) | fail) [wrap_i64, wrap_u64, wrap_u8', ne_len c1]
  refine HT.region ?_   -- R1
  simp (disch := first | omega | (simp <;> omega) | fail) [wrap_i64, wrap_u64, wrap_u8']
  refine HT.cond' ?_   -- if 10
  simp (disch := first | omega | (simp <;> omega) | fail) [wrap_i64, wrap_u64, wrap_u8']
  refine HT.skip ?_
  simp (disch := first | omega | (simp <;> omega) | fail) [wrap_i64, wrap_u64, wrap_u8']
  refine HT.seq ?_
  refine HT.seq ?_
  refine HT.region ?_   -- R3
  simp (disch := first | omega | (simp <;> omega) | fail) [wrap_i64, wrap_u64, wrap_u8']
  refine HT.block ?_
  refine HT.loopK (fun k : {k : Nat // k ≤ a.length ∧ ∀ i, i < k → a[i]? = b[i]?} => [.s 5 (i64 k)]) [0, 1] [] (fun k => a.length - k) (⟨0, by omega, by intro i hi; omega⟩) ?_ ?_   -- block 0 turned [5]
  · simp (disch := first | omega | (simp <;> omega) | fail) [wrap_i64, wrap_u64, wrap_u8']
  rintro ⟨k, hk, hg⟩
  simp (disch := first | omega | (simp <;> omega) | fail) [wrap_i64, wrap_u64, wrap_u8']
  refine HT.seq ?_
  refine HT.seq ?_
  refine HT.region ?_   -- R4
  simp (disch := first | omega | (simp <;> omega) | fail) [wrap_i64, wrap_u64, wrap_u8']
  refine HT.cond' ?_   -- if 14
  simp (disch := first | omega | (simp <;> omega) | fail) [wrap_i64, wrap_u64, wrap_u8']
  refine ⟨fun h14 => ?_, fun h14 => ?_⟩
  · skip
    have hk' : k < a.length := by omega
    have hkb : k < b.length := by omega
    refine HT.skip ?_
    simp (disch := first | omega | (simp <;> omega) | fail) [wrap_i64, wrap_u64, wrap_u8']
    refine HT.seq ?_
    refine HT.block ?_
    refine HT.seq ?_
    by_cases d1 : ¬ a[k] = b[k]
    · skip
      refine HT.draw [.batch [0, 1, 2, 3, 4, 5, 6, 7, 8]] (by kernel_rfl) ?_   -- R6
      simp (disch := first | omega | (simp <;> omega) | fail) [wrap_i64, wrap_u64, wrap_u8', d1]
      refine HT.cond' ?_   -- if 25
      simp (disch := first | omega | (simp <;> omega) | fail) [wrap_i64, wrap_u64, wrap_u8']
      refine HT.seq ?_
      refine HT.region ?_   -- R7
      simp (disch := first | omega | (simp <;> omega) | fail) [wrap_i64, wrap_u64, wrap_u8']
      refine HT.ret ?_
      simp (disch := first | omega | (simp <;> omega) | fail) [wrap_i64, wrap_u64, wrap_u8', ne_at hk' hkb d1]
    rw [Classical.not_not] at d1
    refine HT.draw [.batch [0, 1, 2, 3, 4, 5, 6, 7, 8]] (by kernel_rfl) ?_   -- R6
    simp (disch := first | omega | (simp <;> omega) | fail) [wrap_i64, wrap_u64, wrap_u8', d1]
    refine HT.cond' ?_   -- if 25
    simp (disch := first | omega | (simp <;> omega) | fail) [wrap_i64, wrap_u64, wrap_u8']
    refine HT.skip ?_
    simp (disch := first | omega | (simp <;> omega) | fail) [wrap_i64, wrap_u64, wrap_u8']
    refine HT.region ?_   -- R5
    simp (disch := first | omega | (simp <;> omega) | fail) [wrap_i64, wrap_u64, wrap_u8']
    refine Round.mk' (⟨k + 1, by omega, agreeX hg (by rw [List.getElem?_eq_getElem hk', List.getElem?_eq_getElem hkb, d1])⟩) (by dsimp only; omega) rfl ?_
    simp (disch := first | omega | (simp <;> omega) | fail) [wrap_i64, wrap_u64, wrap_u8']
  · skip
    obtain rfl : k = a.length := by omega
    refine HT.exit ?_
    simp (disch := first | omega | (simp <;> omega) | fail) [wrap_i64, wrap_u64, wrap_u8']
    refine HT.seq ?_
    refine HT.region ?_   -- R8
    simp (disch := first | omega | (simp <;> omega) | fail) [wrap_i64, wrap_u64, wrap_u8']
    refine HT.ret ?_
    have hx : a = b := extX (by omega) hg
    simp (disch := first | omega | (simp <;> omega) | fail) [wrap_i64, wrap_u64, wrap_u8', hx]
def DocQ (d : Doc) : Prop := d.repo.length ≤ 1000000 ∧ d.path.length ≤ 1000000 ∧ d.text.length ≤ 1000000 ∧ d.on.length ≤ 140737488355328 ∧ ∀ s ∈ d.on, s.length ≤ 140737488355328
theorem DocQ.kb {d : Doc} (h : DocQ d) : KB (keyV d) := ⟨by have := h.1; show d.repo.length ≤ _; omega, by have := h.2.1; show d.path.length ≤ _; omega, by have := h.2.2.1; show d.text.length ≤ _; omega⟩
theorem doc_eq {d e : Doc} (h1 : d.id = e.id) (h2 : keyV d = keyV e) : (d = e) = (d.on = e.on) := by
  cases d; cases e
  simp only [keyV, Prod.mk.injEq] at h2
  simp only at h1
  simp [h1, h2.1, h2.2.1, h2.2.2]
set_option maxHeartbeats 4000000 in
set_option maxRecDepth 20000 in
theorem SameDoc_spec (d e : Doc) (hd : DocQ d) (he : DocQ e) : Spec1 Tryz.prog 68 [.agg d.enc, .agg e.enc] (bo (decide (d = e))) := by
  have hon := hd.2.2.2.1
  have hke : aggEq Tryz.prog 85 [.str d.repo, .str d.path, .str d.text] [.str e.repo, .str e.path, .str e.text] = some (decide (keyV d = keyV e)) := aggEq85 hd.kb he.kb
  refine Spec1.of_HT Tryz.func68 rfl (by rw [Tryz.ntmps68]; simp) rfl ?_
  rw [Tryz.ntmps68]
  refine HT.seq ?_
  refine HT.region ?_   -- R0
  simp (disch := first | omega | (simp <;> omega) | fail) [wrap_i64, wrap_u64, wrap_u8']
  refine HT.seq ?_
  by_cases d1 : ¬ d.id = e.id
  · skip
    refine HT.draw [.batch [0, 1, 2, 3, 4, 5, 6, 7, 8, 9, 10, 11, 12, 13, 14, 15, 16, 17, 18, 19]] (by kernel_rfl) ?_   -- R1
    simp -dsimp (disch := first | omega | (simp <;> omega) | fail) [wrap_i64, wrap_u64, wrap_u8']
    refine HT.ret ?_
    first | (have hx : ¬ d = e := (fun h => d1 (by rw [h])); simp (disch := first | omega | (simp <;> omega) | fail) [wrap_i64, wrap_u64, wrap_u8', hx]; done) | (have hx : ¬ d = e := (fun h => d2 (by rw [h])); simp (disch := first | omega | (simp <;> omega) | fail) [wrap_i64, wrap_u64, wrap_u8', hx]; done) | (have hx := doc_eq d1 d2; simp (disch := first | omega | (simp <;> omega) | fail) [wrap_i64, wrap_u64, wrap_u8', hx]; done)
  rw [Classical.not_not] at d1
  by_cases d2 : ¬ keyV d = keyV e
  · skip
    refine HT.draw [.batch [0, 1, 2, 3, 4, 5, 6, 7, 8, 9, 10, 11, 12, 13, 14, 15, 16, 17, 18, 19]] (by kernel_rfl) ?_   -- R1
    simp -dsimp (disch := first | omega | (simp <;> omega) | fail) [wrap_i64, wrap_u64, wrap_u8', hke, d2]
    refine stepK.mk (.call1 _ _ _ rfl Ty.hb58 rfl rfl (rKey_spec d)) ?_
    simp -dsimp (disch := first | omega | (simp <;> omega) | fail) [wrap_i64, wrap_u64, wrap_u8', hke, d2]
    refine stepK.mk (.call1 _ _ _ rfl Ty.hb58 rfl rfl (rKey_spec e)) ?_
    simp -dsimp (disch := first | omega | (simp <;> omega) | fail) [wrap_i64, wrap_u64, wrap_u8', hke, d2]
    refine HT.ret ?_
    first | (have hx : ¬ d = e := (fun h => d1 (by rw [h])); simp (disch := first | omega | (simp <;> omega) | fail) [wrap_i64, wrap_u64, wrap_u8', hx]; done) | (have hx : ¬ d = e := (fun h => d2 (by rw [h])); simp (disch := first | omega | (simp <;> omega) | fail) [wrap_i64, wrap_u64, wrap_u8', hx]; done) | (have hx := doc_eq d1 d2; simp (disch := first | omega | (simp <;> omega) | fail) [wrap_i64, wrap_u64, wrap_u8', hx]; done)
  rw [Classical.not_not] at d2
  refine HT.draw [.batch [0, 1, 2, 3, 4, 5, 6, 7, 8, 9, 10, 11, 12, 13, 14, 15, 16, 17, 18, 19]] (by kernel_rfl) ?_   -- R1
  simp -dsimp (disch := first | omega | (simp <;> omega) | fail) [wrap_i64, wrap_u64, wrap_u8', hke, d2]
  refine stepK.mk (.call1 _ _ _ rfl Ty.hb58 rfl rfl (rKey_spec d)) ?_
  simp -dsimp (disch := first | omega | (simp <;> omega) | fail) [wrap_i64, wrap_u64, wrap_u8', hke, d2]
  refine stepK.mk (.call1 _ _ _ rfl Ty.hb58 rfl rfl (rKey_spec e)) ?_
  simp -dsimp (disch := first | omega | (simp <;> omega) | fail) [wrap_i64, wrap_u64, wrap_u8', hke, d2]
  refine stepK.mk (.call1 _ _ _ rfl Ty.hb98 rfl rfl (Strings_spec d.on e.on (by omega))) ?_
  simp -dsimp (disch := first | omega | (simp <;> omega) | fail) [wrap_i64, wrap_u64, wrap_u8', hke, d2]
  refine HT.ret ?_
  first | (have hx : ¬ d = e := (fun h => d1 (by rw [h])); simp (disch := first | omega | (simp <;> omega) | fail) [wrap_i64, wrap_u64, wrap_u8', hx]; done) | (have hx : ¬ d = e := (fun h => d2 (by rw [h])); simp (disch := first | omega | (simp <;> omega) | fail) [wrap_i64, wrap_u64, wrap_u8', hx]; done) | (have hx := doc_eq d1 d2; simp (disch := first | omega | (simp <;> omega) | fail) [wrap_i64, wrap_u64, wrap_u8', hx]; done)
set_option maxHeartbeats 2000000 in
theorem SameD_spec (a b : List Doc) (ha : a.length ≤ 1000000) (hA : ∀ d ∈ a, DocQ d) (hB : ∀ d ∈ b, DocQ d) : Spec1 Tryz.prog 36 [.sl 5 false (docsHV a), .sl 5 false (docsHV b)] (bo (decide (a = b))) := by
  refine Spec1.of_HT Tryz.func36 rfl (by rw [Tryz.ntmps36]; simp) rfl ?_
  rw [Tryz.ntmps36]
  refine HT.seq ?_
  refine HT.region ?_   -- R0
  simp (disch := first | omega | (simp <;> omega) | fail) [wrap_i64, wrap_u64, wrap_u8']
  refine HT.seq ?_
  refine HT.seq ?_
  by_cases c1 : ¬ a.length = b.length
  · skip
    refine HT.region ?_   -- R1
    simp (disch := first | omega | (simp <;> omega) | fail) [wrap_i64, wrap_u64, wrap_u8']
    refine HT.cond' ?_   -- if 10
    simp (disch := first | omega | (simp <;> omega) | fail) [wrap_i64, wrap_u64, wrap_u8']
    refine HT.seq ?_
    refine HT.region ?_   -- R2
    simp (disch := first | omega | (simp <;> omega) | fail) [wrap_i64, wrap_u64, wrap_u8']
    refine HT.ret ?_
    simp (disch := first | omega | (simp <;> omega) | fail) [wrap_i64, wrap_u64, wrap_u8', ne_len c1]
  refine HT.region ?_   -- R1
  simp (disch := first | omega | (simp <;> omega) | fail) [wrap_i64, wrap_u64, wrap_u8']
  refine HT.cond' ?_   -- if 10
  simp (disch := first | omega | (simp <;> omega) | fail) [wrap_i64, wrap_u64, wrap_u8']
  refine HT.skip ?_
  simp (disch := first | omega | (simp <;> omega) | fail) [wrap_i64, wrap_u64, wrap_u8']
  refine HT.seq ?_
  refine HT.seq ?_
  refine HT.region ?_   -- R3
  simp (disch := first | omega | (simp <;> omega) | fail) [wrap_i64, wrap_u64, wrap_u8']
  refine HT.block ?_
  refine HT.loopK (fun k : {k : Nat // k ≤ a.length ∧ ∀ i, i < k → a[i]? = b[i]?} => [.s 5 (i64 k)]) [0, 1] [] (fun k => a.length - k) (⟨0, by omega, by intro i hi; omega⟩) ?_ ?_   -- block 0 turned [5]
  · simp (disch := first | omega | (simp <;> omega) | fail) [wrap_i64, wrap_u64, wrap_u8']
  rintro ⟨k, hk, hg⟩
  simp (disch := first | omega | (simp <;> omega) | fail) [wrap_i64, wrap_u64, wrap_u8']
  refine HT.seq ?_
  refine HT.seq ?_
  refine HT.region ?_   -- R4
  simp (disch := first | omega | (simp <;> omega) | fail) [wrap_i64, wrap_u64, wrap_u8']
  refine HT.cond' ?_   -- if 14
  simp (disch := first | omega | (simp <;> omega) | fail) [wrap_i64, wrap_u64, wrap_u8']
  refine ⟨fun h14 => ?_, fun h14 => ?_⟩
  · skip
    have hk' : k < a.length := by omega
    have hkb : k < b.length := by omega
    refine HT.skip ?_
    simp (disch := first | omega | (simp <;> omega) | fail) [wrap_i64, wrap_u64, wrap_u8']
    refine HT.seq ?_
    refine HT.block ?_
    refine HT.seq ?_
    by_cases d1 : ¬ a[k] = b[k]
    · skip
      have hq := eq_false d1
      refine HT.draw [.batch [0, 1, 2, 3, 4, 5, 6, 7, 8, 9]] (by kernel_rfl) ?_   -- R6
      simp (disch := first | omega | (simp <;> omega) | fail) [wrap_i64, wrap_u64, wrap_u8']
      refine stepK.mk (.call1 _ _ _ rfl Ty.hb68 rfl rfl (SameDoc_spec a[k] b[k] (hA _ (List.getElem_mem hk')) (hB _ (List.getElem_mem hkb)))) ?_
      simp (disch := first | omega | (simp <;> omega) | fail) [wrap_i64, wrap_u64, wrap_u8', hq]
      refine HT.cond' ?_   -- if 26
      simp (disch := first | omega | (simp <;> omega) | fail) [wrap_i64, wrap_u64, wrap_u8']
      refine HT.seq ?_
      refine HT.region ?_   -- R7
      simp (disch := first | omega | (simp <;> omega) | fail) [wrap_i64, wrap_u64, wrap_u8']
      refine HT.ret ?_
      simp (disch := first | omega | (simp <;> omega) | fail) [wrap_i64, wrap_u64, wrap_u8', ne_at hk' hkb d1]
    rw [Classical.not_not] at d1
    have hq := eq_true d1
    refine HT.draw [.batch [0, 1, 2, 3, 4, 5, 6, 7, 8, 9]] (by kernel_rfl) ?_   -- R6
    simp (disch := first | omega | (simp <;> omega) | fail) [wrap_i64, wrap_u64, wrap_u8']
    refine stepK.mk (.call1 _ _ _ rfl Ty.hb68 rfl rfl (SameDoc_spec a[k] b[k] (hA _ (List.getElem_mem hk')) (hB _ (List.getElem_mem hkb)))) ?_
    simp (disch := first | omega | (simp <;> omega) | fail) [wrap_i64, wrap_u64, wrap_u8', hq]
    refine HT.cond' ?_   -- if 26
    simp (disch := first | omega | (simp <;> omega) | fail) [wrap_i64, wrap_u64, wrap_u8']
    refine HT.skip ?_
    simp (disch := first | omega | (simp <;> omega) | fail) [wrap_i64, wrap_u64, wrap_u8']
    refine HT.region ?_   -- R5
    simp (disch := first | omega | (simp <;> omega) | fail) [wrap_i64, wrap_u64, wrap_u8']
    refine Round.mk' (⟨k + 1, by omega, agreeX hg (by rw [List.getElem?_eq_getElem hk', List.getElem?_eq_getElem hkb, d1])⟩) (by dsimp only; omega) rfl ?_
    simp (disch := first | omega | (simp <;> omega) | fail) [wrap_i64, wrap_u64, wrap_u8']
  · skip
    obtain rfl : k = a.length := by omega
    refine HT.exit ?_
    simp (disch := first | omega | (simp <;> omega) | fail) [wrap_i64, wrap_u64, wrap_u8']
    refine HT.seq ?_
    refine HT.region ?_   -- R8
    simp (disch := first | omega | (simp <;> omega) | fail) [wrap_i64, wrap_u64, wrap_u8']
    refine HT.ret ?_
    have hx : a = b := extX (by omega) hg
    simp (disch := first | omega | (simp <;> omega) | fail) [wrap_i64, wrap_u64, wrap_u8', hx]
set_option maxHeartbeats 4000000 in
set_option maxRecDepth 20000 in
theorem SameAt_spec (a b : List Gram) (ha : a.length ≤ 140737488355328) (hA : ∀ g ∈ a, g.off.length ≤ 140737488355328) : Spec1 Tryz.prog 69 [.sl 2 false (gramsHV a), .sl 2 false (gramsHV b)] (bo (decide (a = b))) := by
  refine Spec1.of_HT Tryz.func69 rfl (by rw [Tryz.ntmps69]; simp) rfl ?_
  rw [Tryz.ntmps69]
  refine HT.seq ?_
  refine HT.region ?_   -- R0
  simp (disch := first | omega | (simp <;> omega) | fail) [wrap_i64, wrap_u64, wrap_u8']
  refine HT.seq ?_
  refine HT.seq ?_
  by_cases c1 : ¬ a.length = b.length
  · skip
    refine HT.region ?_   -- R1
    simp (disch := first | omega | (simp <;> omega) | fail) [wrap_i64, wrap_u64, wrap_u8']
    refine HT.cond' ?_   -- if 10
    simp (disch := first | omega | (simp <;> omega) | fail) [wrap_i64, wrap_u64, wrap_u8']
    refine HT.seq ?_
    refine HT.region ?_   -- R2
    simp (disch := first | omega | (simp <;> omega) | fail) [wrap_i64, wrap_u64, wrap_u8']
    refine HT.ret ?_
    simp (disch := first | omega | (simp <;> omega) | fail) [wrap_i64, wrap_u64, wrap_u8', ne_len c1]
  refine HT.region ?_   -- R1
  simp (disch := first | omega | (simp <;> omega) | fail) [wrap_i64, wrap_u64, wrap_u8']
  refine HT.cond' ?_   -- if 10
  simp (disch := first | omega | (simp <;> omega) | fail) [wrap_i64, wrap_u64, wrap_u8']
  refine HT.skip ?_
  simp (disch := first | omega | (simp <;> omega) | fail) [wrap_i64, wrap_u64, wrap_u8']
  refine HT.seq ?_
  refine HT.seq ?_
  refine HT.region ?_   -- R3
  simp (disch := first | omega | (simp <;> omega) | fail) [wrap_i64, wrap_u64, wrap_u8']
  refine HT.block ?_
  refine HT.loopK (fun k : {k : Nat // k ≤ a.length ∧ ∀ i, i < k → a[i]? = b[i]?} => [.s 5 (i64 k)]) [0, 1] [] (fun k => a.length - k) (⟨0, by omega, by intro i hi; omega⟩) ?_ ?_   -- block 0 turned [5, 29, 30, 31, 32, 33, 34, 35, 36, 37, 38, 39, 40]
  · simp (disch := first | omega | (simp <;> omega) | fail) [wrap_i64, wrap_u64, wrap_u8']
  rintro ⟨k, hk, hg⟩
  simp (disch := first | omega | (simp <;> omega) | fail) [wrap_i64, wrap_u64, wrap_u8']
  refine HT.seq ?_
  refine HT.seq ?_
  refine HT.region ?_   -- R4
  simp (disch := first | omega | (simp <;> omega) | fail) [wrap_i64, wrap_u64, wrap_u8']
  refine HT.cond' ?_   -- if 14
  simp (disch := first | omega | (simp <;> omega) | fail) [wrap_i64, wrap_u64, wrap_u8']
  refine ⟨fun h14 => ?_, fun h14 => ?_⟩
  · skip
    have hk' : k < a.length := by omega
    have hkb : k < b.length := by omega
    refine HT.skip ?_
    simp (disch := first | omega | (simp <;> omega) | fail) [wrap_i64, wrap_u64, wrap_u8']
    refine HT.seq ?_
    refine HT.block ?_
    refine HT.seq ?_
    by_cases d1 : ¬ a[k].code = b[k].code
    · skip
      refine HT.draw [.batch [0, 1, 2, 3, 4, 5, 6, 7, 8, 9, 10, 11, 12, 13, 14, 15, 16, 17, 18, 19, 20, 21, 22, 23, 24]] (by kernel_rfl) ?_   -- R6
      simp -dsimp (disch := first | omega | (simp <;> omega) | fail) [wrap_i64, wrap_u64, wrap_u8']
      refine HT.cond' ?_   -- if 41
      simp (disch := first | omega | (simp <;> omega) | fail) [wrap_i64, wrap_u64, wrap_u8']
      refine HT.seq ?_
      refine HT.region ?_   -- R7
      simp (disch := first | omega | (simp <;> omega) | fail) [wrap_i64, wrap_u64, wrap_u8']
      refine HT.ret ?_
      have hx : ¬ a = b := ne_at hk' hkb (fun h => by first | exact d1 (by rw [h]) | exact d2 (by rw [h]))
      simp (disch := first | omega | (simp <;> omega) | fail) [wrap_i64, wrap_u64, wrap_u8', hx]
    rw [Classical.not_not] at d1
    by_cases d2 : ¬ a[k].off = b[k].off
    · skip
      refine HT.draw [.batch [0, 1, 2, 3, 4, 5, 6, 7, 8, 9, 10, 11, 12, 13, 14, 15, 16, 17, 18, 19, 20, 21, 22, 23, 24]] (by kernel_rfl) ?_   -- R6
      simp -dsimp (disch := first | omega | (simp <;> omega) | fail) [wrap_i64, wrap_u64, wrap_u8']
      refine stepK.mk (.call1 _ _ _ rfl Ty.hb99 rfl rfl (Same5_spec a[k].off b[k].off (hA _ (List.getElem_mem hk')))) ?_
      simp -dsimp (disch := first | omega | (simp <;> omega) | fail) [wrap_i64, wrap_u64, wrap_u8', d2]
      refine HT.cond' ?_   -- if 41
      simp (disch := first | omega | (simp <;> omega) | fail) [wrap_i64, wrap_u64, wrap_u8']
      refine HT.seq ?_
      refine HT.region ?_   -- R7
      simp (disch := first | omega | (simp <;> omega) | fail) [wrap_i64, wrap_u64, wrap_u8']
      refine HT.ret ?_
      have hx : ¬ a = b := ne_at hk' hkb (fun h => by first | exact d1 (by rw [h]) | exact d2 (by rw [h]))
      simp (disch := first | omega | (simp <;> omega) | fail) [wrap_i64, wrap_u64, wrap_u8', hx]
    rw [Classical.not_not] at d2
    refine HT.draw [.batch [0, 1, 2, 3, 4, 5, 6, 7, 8, 9, 10, 11, 12, 13, 14, 15, 16, 17, 18, 19, 20, 21, 22, 23, 24]] (by kernel_rfl) ?_   -- R6
    simp -dsimp (disch := first | omega | (simp <;> omega) | fail) [wrap_i64, wrap_u64, wrap_u8']
    refine stepK.mk (.call1 _ _ _ rfl Ty.hb99 rfl rfl (Same5_spec a[k].off b[k].off (hA _ (List.getElem_mem hk')))) ?_
    simp -dsimp (disch := first | omega | (simp <;> omega) | fail) [wrap_i64, wrap_u64, wrap_u8', d2]
    refine HT.cond' ?_   -- if 41
    simp (disch := first | omega | (simp <;> omega) | fail) [wrap_i64, wrap_u64, wrap_u8']
    refine HT.skip ?_
    simp (disch := first | omega | (simp <;> omega) | fail) [wrap_i64, wrap_u64, wrap_u8']
    refine HT.region ?_   -- R5
    simp (disch := first | omega | (simp <;> omega) | fail) [wrap_i64, wrap_u64, wrap_u8']
    refine Round.mk' (⟨k + 1, by omega, agreeX hg (by rw [List.getElem?_eq_getElem hk', List.getElem?_eq_getElem hkb, gram_eqX d1 d2])⟩) (by dsimp only; omega) rfl ?_
    simp (disch := first | omega | (simp <;> omega) | fail) [wrap_i64, wrap_u64, wrap_u8']
  · skip
    obtain rfl : k = a.length := by omega
    refine HT.exit ?_
    simp (disch := first | omega | (simp <;> omega) | fail) [wrap_i64, wrap_u64, wrap_u8']
    refine HT.seq ?_
    refine HT.region ?_   -- R8
    simp (disch := first | omega | (simp <;> omega) | fail) [wrap_i64, wrap_u64, wrap_u8']
    refine HT.ret ?_
    have hx : a = b := extX (by omega) hg
    simp (disch := first | omega | (simp <;> omega) | fail) [wrap_i64, wrap_u64, wrap_u8', hx]
set_option maxHeartbeats 4000000 in
set_option maxRecDepth 20000 in
theorem SameGrams_spec (a b : List Post) (ha : a.length ≤ 140737488355328) (hA : ∀ p ∈ a, p.docs.length ≤ 140737488355328 ∧ ∀ g ∈ p.docs, g.off.length ≤ 140737488355328) : Spec1 Tryz.prog 37 [.sl 2 false (postsHV a), .sl 2 false (postsHV b)] (bo (decide (a = b))) := by
  refine Spec1.of_HT Tryz.func37 rfl (by rw [Tryz.ntmps37]; simp) rfl ?_
  rw [Tryz.ntmps37]
  refine HT.seq ?_
  refine HT.region ?_   -- R0
  simp (disch := first | omega | (simp <;> omega) | fail) [wrap_i64, wrap_u64, wrap_u8']
  refine HT.seq ?_
  refine HT.seq ?_
  by_cases c1 : ¬ a.length = b.length
  · skip
    refine HT.region ?_   -- R1
    simp (disch := first | omega | (simp <;> omega) | fail) [wrap_i64, wrap_u64, wrap_u8']
    refine HT.cond' ?_   -- if 10
    simp (disch := first | omega | (simp <;> omega) | fail) [wrap_i64, wrap_u64, wrap_u8']
    refine HT.seq ?_
    refine HT.region ?_   -- R2
    simp (disch := first | omega | (simp <;> omega) | fail) [wrap_i64, wrap_u64, wrap_u8']
    refine HT.ret ?_
    simp (disch := first | omega | (simp <;> omega) | fail) [wrap_i64, wrap_u64, wrap_u8', ne_len c1]
  refine HT.region ?_   -- R1
  simp (disch := first | omega | (simp <;> omega) | fail) [wrap_i64, wrap_u64, wrap_u8']
  refine HT.cond' ?_   -- if 10
  simp (disch := first | omega | (simp <;> omega) | fail) [wrap_i64, wrap_u64, wrap_u8']
  refine HT.skip ?_
  simp (disch := first | omega | (simp <;> omega) | fail) [wrap_i64, wrap_u64, wrap_u8']
  refine HT.seq ?_
  refine HT.seq ?_
  refine HT.region ?_   -- R3
  simp (disch := first | omega | (simp <;> omega) | fail) [wrap_i64, wrap_u64, wrap_u8']
  refine HT.block ?_
  refine HT.loopK (fun k : {k : Nat // k ≤ a.length ∧ ∀ i, i < k → a[i]? = b[i]?} => [.s 5 (i64 k)]) [0, 1] [] (fun k => a.length - k) (⟨0, by omega, by intro i hi; omega⟩) ?_ ?_   -- block 0 turned [5, 29, 30, 31, 32, 33, 34, 35, 36, 37, 38, 39, 40]
  · simp (disch := first | omega | (simp <;> omega) | fail) [wrap_i64, wrap_u64, wrap_u8']
  rintro ⟨k, hk, hg⟩
  simp (disch := first | omega | (simp <;> omega) | fail) [wrap_i64, wrap_u64, wrap_u8']
  refine HT.seq ?_
  refine HT.seq ?_
  refine HT.region ?_   -- R4
  simp (disch := first | omega | (simp <;> omega) | fail) [wrap_i64, wrap_u64, wrap_u8']
  refine HT.cond' ?_   -- if 14
  simp (disch := first | omega | (simp <;> omega) | fail) [wrap_i64, wrap_u64, wrap_u8']
  refine ⟨fun h14 => ?_, fun h14 => ?_⟩
  · skip
    have hk' : k < a.length := by omega
    have hkb : k < b.length := by omega
    have hAk := hA _ (List.getElem_mem hk')
    refine HT.skip ?_
    simp (disch := first | omega | (simp <;> omega) | fail) [wrap_i64, wrap_u64, wrap_u8']
    refine HT.seq ?_
    refine HT.block ?_
    refine HT.seq ?_
    by_cases d1 : ¬ a[k].code = b[k].code
    · skip
      refine HT.draw [.batch [0, 1, 2, 3, 4, 5, 6, 7, 8, 9, 10, 11, 12, 13, 14, 15, 16, 17, 18, 19, 20, 21, 22, 23, 24]] (by kernel_rfl) ?_   -- R6
      simp -dsimp (disch := first | omega | (simp <;> omega) | fail) [wrap_i64, wrap_u64, wrap_u8']
      refine HT.cond' ?_   -- if 41
      simp (disch := first | omega | (simp <;> omega) | fail) [wrap_i64, wrap_u64, wrap_u8']
      refine HT.seq ?_
      refine HT.region ?_   -- R7
      simp (disch := first | omega | (simp <;> omega) | fail) [wrap_i64, wrap_u64, wrap_u8']
      refine HT.ret ?_
      have hx : ¬ a = b := ne_at hk' hkb (fun h => by first | exact d1 (by rw [h]) | exact d2 (by rw [h]))
      simp (disch := first | omega | (simp <;> omega) | fail) [wrap_i64, wrap_u64, wrap_u8', hx]
    rw [Classical.not_not] at d1
    by_cases d2 : ¬ a[k].docs = b[k].docs
    · skip
      refine HT.draw [.batch [0, 1, 2, 3, 4, 5, 6, 7, 8, 9, 10, 11, 12, 13, 14, 15, 16, 17, 18, 19, 20, 21, 22, 23, 24]] (by kernel_rfl) ?_   -- R6
      simp -dsimp (disch := first | omega | (simp <;> omega) | fail) [wrap_i64, wrap_u64, wrap_u8']
      refine stepK.mk (.call1 _ _ _ rfl Ty.hb69 rfl rfl (SameAt_spec a[k].docs b[k].docs hAk.1 hAk.2)) ?_
      simp -dsimp (disch := first | omega | (simp <;> omega) | fail) [wrap_i64, wrap_u64, wrap_u8', d2]
      refine HT.cond' ?_   -- if 41
      simp (disch := first | omega | (simp <;> omega) | fail) [wrap_i64, wrap_u64, wrap_u8']
      refine HT.seq ?_
      refine HT.region ?_   -- R7
      simp (disch := first | omega | (simp <;> omega) | fail) [wrap_i64, wrap_u64, wrap_u8']
      refine HT.ret ?_
      have hx : ¬ a = b := ne_at hk' hkb (fun h => by first | exact d1 (by rw [h]) | exact d2 (by rw [h]))
      simp (disch := first | omega | (simp <;> omega) | fail) [wrap_i64, wrap_u64, wrap_u8', hx]
    rw [Classical.not_not] at d2
    refine HT.draw [.batch [0, 1, 2, 3, 4, 5, 6, 7, 8, 9, 10, 11, 12, 13, 14, 15, 16, 17, 18, 19, 20, 21, 22, 23, 24]] (by kernel_rfl) ?_   -- R6
    simp -dsimp (disch := first | omega | (simp <;> omega) | fail) [wrap_i64, wrap_u64, wrap_u8']
    refine stepK.mk (.call1 _ _ _ rfl Ty.hb69 rfl rfl (SameAt_spec a[k].docs b[k].docs hAk.1 hAk.2)) ?_
    simp -dsimp (disch := first | omega | (simp <;> omega) | fail) [wrap_i64, wrap_u64, wrap_u8', d2]
    refine HT.cond' ?_   -- if 41
    simp (disch := first | omega | (simp <;> omega) | fail) [wrap_i64, wrap_u64, wrap_u8']
    refine HT.skip ?_
    simp (disch := first | omega | (simp <;> omega) | fail) [wrap_i64, wrap_u64, wrap_u8']
    refine HT.region ?_   -- R5
    simp (disch := first | omega | (simp <;> omega) | fail) [wrap_i64, wrap_u64, wrap_u8']
    refine Round.mk' (⟨k + 1, by omega, agreeX hg (by rw [List.getElem?_eq_getElem hk', List.getElem?_eq_getElem hkb, post_eq d1 d2])⟩) (by dsimp only; omega) rfl ?_
    simp (disch := first | omega | (simp <;> omega) | fail) [wrap_i64, wrap_u64, wrap_u8']
  · skip
    obtain rfl : k = a.length := by omega
    refine HT.exit ?_
    simp (disch := first | omega | (simp <;> omega) | fail) [wrap_i64, wrap_u64, wrap_u8']
    refine HT.seq ?_
    refine HT.region ?_   -- R8
    simp (disch := first | omega | (simp <;> omega) | fail) [wrap_i64, wrap_u64, wrap_u8']
    refine HT.ret ?_
    have hx : a = b := extX (by omega) hg
    simp (disch := first | omega | (simp <;> omega) | fail) [wrap_i64, wrap_u64, wrap_u8', hx]
theorem seg_eq (a b : Seg) : (a = b) = (a.docs = b.docs ∧ a.grams = b.grams) := by cases a; cases b; simp
def SegQ (s : Seg) : Prop := s.docs.length ≤ 1000000 ∧ (∀ d ∈ s.docs, DocQ d) ∧ s.grams.length ≤ 1000000 ∧ ∀ p ∈ s.grams, p.docs.length ≤ 1000000 ∧ ∀ g ∈ p.docs, g.off.length ≤ 1000000
set_option maxRecDepth 20000 in
set_option maxHeartbeats 2000000 in
theorem Same29_spec (a b : Seg) (ha : SegQ a) (hb : SegQ b) : Spec1 Tryz.prog 14 [.agg a.enc, .agg b.enc] (bo (decide (a = b))) := by
  refine Spec1.of_HT Tryz.func14 rfl (by rw [Tryz.ntmps14]; simp) rfl ?_
  rw [Tryz.ntmps14]
  refine HT.seq ?_
  refine HT.region ?_   -- R0
  simp (disch := first | omega | (simp <;> omega) | fail) [wrap_i64, wrap_u64, wrap_u8']
  refine HT.seq ?_
  by_cases d1 : ¬ a.docs = b.docs
  · skip
    have hq := eq_false d1
    refine HT.region ?_   -- R1
    simp (disch := first | omega | (simp <;> omega) | fail) [wrap_i64, wrap_u64, wrap_u8', hq]
    refine stepK.mk (.call1 _ _ _ _ rfl Ty.hb36 rfl (SameD_spec a.docs b.docs ha.1 ha.2.1 hb.2.1) rfl rfl) ?_
    simp (disch := first | omega | (simp <;> omega) | fail) [wrap_i64, wrap_u64, wrap_u8', hq, hq]
    refine HT.ret ?_
    simp (disch := first | omega | (simp <;> omega) | fail) [wrap_i64, wrap_u64, wrap_u8', seg_eq, hq]
  rw [Classical.not_not] at d1
  have hq := eq_true d1
  refine HT.region ?_   -- R1
  simp (disch := first | omega | (simp <;> omega) | fail) [wrap_i64, wrap_u64, wrap_u8', hq]
  refine stepK.mk (.call1 _ _ _ _ rfl Ty.hb36 rfl (SameD_spec a.docs b.docs ha.1 ha.2.1 hb.2.1) rfl rfl) ?_
  simp (disch := first | omega | (simp <;> omega) | fail) [wrap_i64, wrap_u64, wrap_u8', hq, hq]
  refine stepK.mk (.call1 _ _ _ _ rfl Ty.hb37 rfl (SameGrams_spec a.grams b.grams (by have := ha.2.2.1; omega) (fun p hp => ⟨by have := (ha.2.2.2 p hp).1; omega, fun g hg => by have := (ha.2.2.2 p hp).2 g hg; omega⟩)) rfl rfl) ?_
  simp (disch := first | omega | (simp <;> omega) | fail) [wrap_i64, wrap_u64, wrap_u8', hq]
  refine HT.ret ?_
  simp (disch := first | omega | (simp <;> omega) | fail) [wrap_i64, wrap_u64, wrap_u8', seg_eq, hq]
end Go.Hv
set_option linter.unusedVariables false
set_option linter.unusedSimpArgs false
namespace Go.Hv
open Go Go.Hv Go.Proofs Go.RowKit
open Go.Proofs.YthdljfognblpbaaGreatDoor
end Go.Hv
set_option linter.unusedVariables false
set_option linter.unusedSimpArgs false
namespace Go.Hv
open Go Go.Hv Go.Proofs Go.RowKit
open Go.Proofs.YthdljfognblpbaaGreatDoor
def SegsB (ls : List Seg) : Prop := ls.length ≤ 6 ∧ (∀ s ∈ ls, s.docs.length ≤ 40) ∧ ∀ s ∈ ls, ∀ d ∈ s.docs, DocB 140737488355328 d
theorem allV_append (a b : List Seg) (dead : List Int) : allV (a ++ b) dead = allV a dead ++ allV b dead := by simp [allV]
theorem allV_succ {ls : List Seg} {i : Nat} {dead : List Int} (hi : i < ls.length) : allV (ls.take (i + 1)) dead = allV (ls.take i) dead ++ dKeep dead ls[i].docs := by
  rw [List.take_succ_eq_append_getElem hi, allV_append]
  simp [allV, dKeep]
theorem dKeep_len (dead : List Int) (l : List Doc) : (dKeep dead l).length ≤ l.length := List.length_filter_le _ _
theorem allV_len {ls : List Seg} (h : SegsB ls) (dead : List Int) : ∀ (i : Nat), i ≤ ls.length → (allV (ls.take i) dead).length ≤ 40 * i
  | 0, _ => by simp [allV]
  | i + 1, hi => by
    have ih := allV_len h dead i (by omega)
    rw [allV_succ (show i < ls.length by omega), List.length_append]
    have h1 := dKeep_len dead (ls[i]'(by omega)).docs
    have h2 := h.2.1 _ (List.getElem_mem (show i < ls.length by omega))
    omega
theorem merge_once {ls : List Seg} {dead : List Int} (h : ((allV ls dead).map Doc.id).Nodup) : mergeV ls dead = buildV (sortV (allV ls dead)) := by unfold mergeV; rw [if_pos h]
theorem sortV_length (l : List Doc) : (sortV l).length = l.length := (sortV_perm l).length_eq
theorem allV_mem {ls : List Seg} {dead : List Int} {d : Doc} (h : d ∈ allV ls dead) : ∃ s ∈ ls, d ∈ s.docs := by
  unfold allV at h
  obtain ⟨s, hs, h⟩ := List.mem_flatMap.1 h
  exact ⟨s, hs, (List.mem_filter.1 h).1⟩
def NotId (l : List Doc) (n : Int) (j : Nat) : Prop := ∀ (a : Nat) (x : Doc), a < j → l[a]? = some x → ¬ x.id = n
theorem NotId.succ {l : List Doc} {n : Int} {j : Nat} (h : NotId l n j) (hj : j < l.length) (hne : ¬ l[j].id = n) : NotId l n (j + 1) := fun a x ha hx => by
  by_cases e : a = j
  · subst e; rw [List.getElem?_eq_getElem hj] at hx; cases hx; exact hne
  · exact h a x (by omega) hx
end Go.Hv
set_option linter.unusedVariables false
set_option linter.unusedSimpArgs false
namespace Go.Hv
open Go Go.Hv Go.Proofs Go.RowKit
open Go.Proofs.YthdljfognblpbaaGreatDoor
def apartV (a b : List Doc) : Bool := decide (∀ x ∈ a, ∀ y ∈ b, ¬ x.id = y.id)
def ApartTo (a b : List Doc) (i : Nat) : Prop := ∀ (k : Nat) (x : Doc), k < i → a[k]? = some x → ∀ y ∈ b, ¬ x.id = y.id
def FarTo (b : List Doc) (n : Int) (j : Nat) : Prop := ∀ (k : Nat) (y : Doc), k < j → b[k]? = some y → ¬ n = y.id
theorem FarTo.succ {b : List Doc} {n : Int} {j : Nat} (h : FarTo b n j) (hj : j < b.length) (hne : ¬ n = b[j].id) : FarTo b n (j + 1) := fun k y hk hy => by
  by_cases e : k = j
  · subst e; rw [List.getElem?_eq_getElem hj] at hy; cases hy; exact hne
  · exact h k y (by omega) hy
theorem ApartTo.succ {a b : List Doc} {i : Nat} (h : ApartTo a b i) (hi : i < a.length) (hf : FarTo b a[i].id b.length) : ApartTo a b (i + 1) := fun k x hk hx y hy => by
  by_cases e : k = i
  · subst e
    rw [List.getElem?_eq_getElem hi] at hx; cases hx
    obtain ⟨j, hj⟩ := List.mem_iff_getElem?.1 hy
    exact hf j y (getElem?_lt hj) hj
  · exact h k x (by omega) hx y hy
theorem apart_all {a b : List Doc} (h : ApartTo a b a.length) : apartV a b = true := decide_eq_true fun x hx y hy => by
  obtain ⟨k, hk⟩ := List.mem_iff_getElem?.1 hx
  exact h k x (getElem?_lt hk) hk y hy
theorem apart_no {a b : List Doc} {i j : Nat} (hi : i < a.length) (hj : j < b.length) (h : a[i].id = b[j].id) : apartV a b = false :=
  decide_eq_false fun hh => hh _ (List.getElem_mem hi) _ (List.getElem_mem hj) h
set_option maxHeartbeats 2000000 in
theorem apart_spec (a b : List Doc) (ha : a.length ≤ 140737488355328) (hb : b.length ≤ 140737488355328) : Spec1 Tryz.prog 21 [.sl 5 false (docsHV a), .sl 5 false (docsHV b)] (bo (apartV a b)) := by
  refine Spec1.of_HT Tryz.func21 rfl (by rw [Tryz.ntmps21]; simp) rfl ?_
  rw [Tryz.ntmps21]
  refine HT.seq ?_
  refine HT.region ?_   -- R0
  simp (disch := first | omega | (simp <;> omega) | fail) [wrap_i64, wrap_u64, wrap_u8']
  refine HT.seq ?_
  refine HT.seq ?_
  refine HT.region ?_   -- R1
  simp (disch := first | omega | (simp <;> omega) | fail) [wrap_i64, wrap_u64, wrap_u8']
  refine HT.block ?_
  refine HT.loopK (fun i : {i : Nat // i ≤ a.length ∧ ApartTo a b i} => [.s 5 (i64 i)]) [0, 1] [] (fun i => a.length - i) (⟨0, by omega, fun k x h => absurd h (Nat.not_lt_zero _)⟩) ?_ ?_   -- block 0 turned [5]
  · simp (disch := first | omega | (simp <;> omega) | fail) [wrap_i64, wrap_u64, wrap_u8']
  rintro ⟨i, hi, hg⟩
  simp (disch := first | omega | (simp <;> omega) | fail) [wrap_i64, wrap_u64, wrap_u8']
  refine HT.seq ?_
  refine HT.seq ?_
  refine HT.region ?_   -- R2
  simp (disch := first | omega | (simp <;> omega) | fail) [wrap_i64, wrap_u64, wrap_u8']
  refine HT.cond' ?_   -- if 10
  simp (disch := first | omega | (simp <;> omega) | fail) [wrap_i64, wrap_u64, wrap_u8']
  refine ⟨fun h10 => ?_, fun h10 => ?_⟩
  · skip
    have hi' : i < a.length := by omega
    refine HT.skip ?_
    simp (disch := first | omega | (simp <;> omega) | fail) [wrap_i64, wrap_u64, wrap_u8']
    refine HT.seq ?_
    refine HT.block ?_
    refine HT.seq ?_
    refine HT.region ?_   -- R4
    simp (disch := first | omega | (simp <;> omega) | fail) [wrap_i64, wrap_u64, wrap_u8']
    refine HT.block ?_
    refine HT.loopK (fun j : {j : Nat // j ≤ b.length ∧ FarTo b a[i].id j} => [.s 6 (i64 j)]) [0, 1, 5] [] (fun j => b.length - j) (⟨0, by omega, fun k x h => absurd h (Nat.not_lt_zero _)⟩) ?_ ?_   -- block 2 turned [6]
    · simp (disch := first | omega | (simp <;> omega) | fail) [wrap_i64, wrap_u64, wrap_u8']
    rintro ⟨j, hj, hf⟩
    simp (disch := first | omega | (simp <;> omega) | fail) [wrap_i64, wrap_u64, wrap_u8']
    refine HT.seq ?_
    refine HT.seq ?_
    refine HT.region ?_   -- R5
    simp (disch := first | omega | (simp <;> omega) | fail) [wrap_i64, wrap_u64, wrap_u8']
    refine HT.cond' ?_   -- if 16
    simp (disch := first | omega | (simp <;> omega) | fail) [wrap_i64, wrap_u64, wrap_u8']
    refine ⟨fun h16 => ?_, fun h16 => ?_⟩
    · skip
      have hj' : j < b.length := by omega
      refine HT.skip ?_
      simp (disch := first | omega | (simp <;> omega) | fail) [wrap_i64, wrap_u64, wrap_u8']
      refine HT.seq ?_
      refine HT.block ?_
      refine HT.seq ?_
      refine HT.draw [.batch [0, 1, 2, 3, 4, 5, 6, 7, 8, 9, 10]] (by kernel_rfl) ?_   -- R7
      simp (disch := first | omega | (simp <;> omega) | fail) [wrap_i64, wrap_u64, wrap_u8']
      refine HT.cond' ?_   -- if 29
      simp (disch := first | omega | (simp <;> omega) | fail) [wrap_i64, wrap_u64, wrap_u8']
      refine ⟨fun h29 => ?_, fun h29 => ?_⟩
      · skip
        refine HT.seq ?_
        refine HT.region ?_   -- R8
        simp (disch := first | omega | (simp <;> omega) | fail) [wrap_i64, wrap_u64, wrap_u8']
        refine HT.ret ?_
        simp (disch := first | omega | (simp <;> omega) | fail) [wrap_i64, wrap_u64, wrap_u8', apart_no hi' hj' h29]
      · skip
        refine HT.skip ?_
        simp (disch := first | omega | (simp <;> omega) | fail) [wrap_i64, wrap_u64, wrap_u8']
        refine HT.region ?_   -- R6
        simp (disch := first | omega | (simp <;> omega) | fail) [wrap_i64, wrap_u64, wrap_u8']
        refine Round.mk' (⟨j + 1, by omega, hf.succ hj' h29⟩) (by dsimp only; omega) rfl ?_
        simp (disch := first | omega | (simp <;> omega) | fail) [wrap_i64, wrap_u64, wrap_u8']
    · skip
      obtain rfl : j = b.length := by omega
      refine HT.exit ?_
      simp (disch := first | omega | (simp <;> omega) | fail) [wrap_i64, wrap_u64, wrap_u8']
      refine HT.region ?_   -- R3
      simp (disch := first | omega | (simp <;> omega) | fail) [wrap_i64, wrap_u64, wrap_u8']
      refine Round.mk' (⟨i + 1, by omega, hg.succ hi' hf⟩) (by dsimp only; omega) rfl ?_
      simp (disch := first | omega | (simp <;> omega) | fail) [wrap_i64, wrap_u64, wrap_u8']
  · skip
    obtain rfl : i = a.length := by omega
    refine HT.exit ?_
    simp (disch := first | omega | (simp <;> omega) | fail) [wrap_i64, wrap_u64, wrap_u8']
    refine HT.seq ?_
    refine HT.region ?_   -- R9
    simp (disch := first | omega | (simp <;> omega) | fail) [wrap_i64, wrap_u64, wrap_u8']
    refine HT.ret ?_
    simp (disch := first | omega | (simp <;> omega) | fail) [wrap_i64, wrap_u64, wrap_u8', apart_all hg]
end Go.Hv
set_option linter.unusedVariables false
set_option linter.unusedSimpArgs false
namespace Go.Hv
open Go Go.Hv Go.Proofs Go.RowKit
open Go.Proofs.YthdljfognblpbaaGreatDoor
end Go.Hv
set_option linter.unusedVariables false
set_option linter.unusedSimpArgs false
namespace Go.Hv
open Go Go.Hv Go.Proofs Go.RowKit
open Go.Proofs.YthdljfognblpbaaGreatDoor
end Go.Hv
set_option linter.unusedVariables false
set_option linter.unusedSimpArgs false
namespace Go.Hv
open Go Go.Hv Go.Proofs Go.RowKit
open Go.Proofs.YthdljfognblpbaaGreatDoor
theorem Spec1.tell {P : Program} {f : FuncId} {args : List HV} {h h' : HV} (s : Spec1 P f args h) (hle : HLe h h') : Spec1 P f args h' :=
  fun D w vs hD hG hn hrep => (s D w vs hD hG hn hrep).mono fun e w' ⟨v, h1, h2, h3⟩ => ⟨v, h1, h2, hle _ _ _ h3⟩
def exD (i : Int) (p : List UInt8) : Doc := ⟨i, [114], p, [97, 98, 99], [[109, 97, 105, 110]]⟩
set_option maxHeartbeats 2000000 in
theorem doc0_spec (i : Int) (p : List UInt8) : Spec1 Tryz.prog 28 [i64 i, .str p] (.agg [i64 i, .str [114], .str p, .str [97, 98, 99], .sl 1 true (strsHV [[109, 97, 105, 110]])]) := by
  refine Spec1.of_HT Tryz.func28 rfl (by rw [Tryz.ntmps28]; simp) rfl ?_
  rw [Tryz.ntmps28]
  refine HT.seq ?_
  refine HT.region ?_   -- R0
  simp (disch := first | omega | (simp <;> omega) | fail) [wrap_i64, wrap_u64, wrap_u8']
  refine HT.seq ?_
  refine HT.region ?_   -- R1
  simp (disch := first | omega | (simp <;> omega) | fail) [wrap_i64, wrap_u64, wrap_u8']
  refine HT.ret ?_
  simp (disch := first | omega | (simp <;> omega) | fail) [wrap_i64, wrap_u64, wrap_u8', strsHV]
theorem doc_spec (i : Int) (p : List UInt8) : Spec1 Tryz.prog 28 [i64 i, .str p] (.agg (exD i p).enc) :=
  (doc0_spec i p).tell (HLe.agg (.cons (.refl _) (.cons (.refl _) (.cons (.refl _) (.cons (.refl _) (.cons (.full _ _) .nil))))))
end Go.Hv
set_option linter.unusedVariables false
set_option linter.unusedSimpArgs false
namespace Go.Hv
open Go Go.Hv Go.Proofs Go.RowKit
open Go.Proofs.YthdljfognblpbaaGreatDoor
set_option maxHeartbeats 2000000 in
theorem MLess_spec (l : List Doc) (i k : Nat) (hi : i < l.length) (hk : k < l.length) (hl : l.length ≤ 140737488355328) : Spec1 Tryz.prog 33 [i64 i, i64 k, .cptr [.sl 5 false (docsHV l)]] (bo (decide (l[i].id < l[k].id))) := by
  refine Spec1.of_HT Tryz.func33 rfl (by rw [Tryz.ntmps33]; simp) rfl ?_
  rw [Tryz.ntmps33]
  refine HT.seq ?_
  refine HT.region ?_   -- R0
  simp (disch := first | omega | (simp <;> omega) | fail) [wrap_i64, wrap_u64, wrap_u8']
  refine HT.seq ?_
  refine HT.draw [.batch [0, 1, 2, 3, 4, 5, 6, 7, 8, 9, 10, 11]] (by kernel_rfl) ?_   -- R1
  simp (disch := first | omega | (simp <;> omega) | fail) [wrap_i64, wrap_u64, wrap_u8']
  refine HT.ret ?_
  simp (disch := first | omega | (simp <;> omega) | fail) [wrap_i64, wrap_u64, wrap_u8']
end Go.Hv
set_option linter.unusedVariables false
set_option linter.unusedSimpArgs false
set_option maxRecDepth 100000
namespace Go.Hv
open Go Go.Hv Go.Proofs Go.RowKit Go.Stab
open Go.Proofs.YthdljfognblpbaaGreatDoor
theorem packed26 : Tryz.prog.packed 26 = false := by kernel_rfl
noncomputable def ti26 : TypeInfo := (Tryz.prog.info? 26).get (by kernel_rfl)
noncomputable def ti47 : TypeInfo := (Tryz.prog.info? 47).get (by kernel_rfl)
theorem i26 : Tryz.prog.info? 26 = some ti26 := by kernel_rfl
theorem d26 : ti26.desc = .slice 47 := by kernel_rfl
theorem i47 : Tryz.prog.info? 47 = some ti47 := by kernel_rfl
theorem s47 : ti47.size = 5 := by kernel_rfl
theorem hp47 : ti47.hasPointers = true := by kernel_rfl
theorem by47 : (ti47.bytes == 8) = false := by kernel_rfl
theorem k47 (w : World) : (Extern.Rtype.kind 47).run Tryz.prog w = .ok 25 w := by kernel_rfl
theorem sk47 (n : Nat) (h : 2 ≤ n) : Lib.swapperK n ti47 25 = 9 := by
  unfold Lib.swapperK
  have h0 : (n == 0) = false := by simp; omega
  have h1 : (n == 1) = false := by simp; omega
  rw [h0, h1, hp47, by47]; rfl
theorem MSort_spec {bB : Nat} {V : Value} {ob : Option Nat} (l : List Doc) (hN : l.length ≤ 1000000) (hob : ob ≠ some bB) (hV : V.oneCell' = true) :
    @SpecX (GI.box inferInstance bB V) Tryz.prog 32 #[] [.lit (.iface 26 V), .lit (.func (.func 33) #[] #[.pointer (some ⟨bB, 0, none⟩)])] V ob 47 5 (docsHV l) (.lit (.tuple #[])) (docsHV (srtK Doc.id l)) := by

  refine @sliceStable (GI.box inferInstance bB V) Doc Doc.enc Doc.id V ob 26 47 5 33 #[.pointer (some ⟨bB, 0, none⟩)] l ti26 ti47 25 hN
    (fun l' i' j' i j x y hl hi hj hx hy => by
      subst hi; subst hj
      have h1 := getElem?_lt hx
      have h2 := getElem?_lt hy
      rw [List.getElem?_eq_getElem h1] at hx
      rw [List.getElem?_eq_getElem h2] at hy
      cases hx; cases hy
      exact SpecX.less Ty.hb33 hob hV (@MLess_spec l' i' j' h1 h2 (by omega)))
    (fun l => isILL_docsHV l) i26 d26 i47 s47 k47 packed26 Tryz.isAgg47 sk47
theorem MSort1_spec {bB : Nat} {V : Value} {ob : Option Nat} (l : List Doc) (hN : l.length ≤ 1000000) (hob : ob ≠ some bB) :
    @SpecX (GI.box inferInstance bB V) Tryz.prog 32 #[] [.lit (.iface 26 V), .lit (.func (.func 33) #[] #[.pointer (some ⟨bB, 0, none⟩)])] V ob 47 5 (docsHV l) (.lit (.tuple #[])) (docsHV (sortV l)) := by
  intro D w us hD hG hW hus hrep
  have hV : V.oneCell' = true := by rcases hW.shape with ⟨_, A, rfl⟩ | ⟨b, cap, rfl, rfl⟩ <;> rfl
  exact (MSort_spec l hN hob hV) D w us hD hG hW hus hrep
end Go.Hv
set_option linter.unusedVariables false
set_option linter.unusedSimpArgs false
namespace Go.Hv
open Go Go.Hv Go.Proofs Go.RowKit
open Go.Proofs.YthdljfognblpbaaGreatDoor
theorem sortV_le (l : List Doc) : (sortV l).Pairwise fun x y => x.id ≤ y.id := by
  have h := List.pairwise_mergeSort (le := fun x y : Doc => decide (x.id ≤ y.id)) (fun a b c => by simp; omega) (fun a b => by simp; omega) l
  exact h.imp fun h => of_decide_eq_true h
def AdjTo (l : List Doc) (k : Nat) : Prop := ∀ i (h : i + 1 < l.length), i < k → ¬ l[i + 1].id = l[i].id
theorem AdjTo.succ {l : List Doc} {k : Nat} (h : AdjTo l k) (hk : k + 1 < l.length) (hs : ¬ l[k + 1].id = l[k].id) : AdjTo l (k + 1) := fun i hi hik => by
  by_cases e : i = k
  · subst e; exact hs
  · exact h i hi (by omega)
theorem adj_inc : ∀ {l : List Doc}, l.Pairwise (fun x y => x.id ≤ y.id) → (∀ i (h : i + 1 < l.length), ¬ l[i + 1].id = l[i].id) → IncBy Doc.id l
  | [], _, _ => List.Pairwise.nil
  | x :: r, h, ha => by
    rw [List.pairwise_cons] at h
    have ih := adj_inc h.2 (fun i hi => by have := ha (i + 1) (by simpa using hi); simpa using this)
    refine List.pairwise_cons.2 ⟨fun y hy => ?_, ih⟩
    cases r with
    | nil => simp at hy
    | cons z r =>
      have h0 := ha 0 (by simp)
      simp only [List.getElem_cons_succ, List.getElem_cons_zero] at h0
      have h1 := h.1 z (by simp)
      rcases List.mem_cons.1 hy with rfl | hy
      · omega
      · have := (List.pairwise_cons.1 ih).1 y hy; omega
theorem adj_once {ls : List Seg} {dead : List Int} (h : ∀ i (h : i + 1 < (sortV (allV ls dead)).length), ¬ (sortV (allV ls dead))[i + 1].id = (sortV (allV ls dead))[i].id) : mergeV ls dead = buildV (sortV (allV ls dead)) :=
  merge_once (((sortV_perm _).map Doc.id).nodup_iff.1 (incBy_nodup (adj_inc (sortV_le _) h)))
theorem adj_twice {ls : List Seg} {dead : List Int} {i : Nat} (hi : i + 1 < (sortV (allV ls dead)).length) (h : (sortV (allV ls dead))[i + 1].id = (sortV (allV ls dead))[i].id) : mergeV ls dead = (emptySeg, 7) := by
  unfold mergeV
  rw [if_neg]
  intro hn
  have h2 := ((sortV_perm (allV ls dead)).map Doc.id).nodup_iff.2 hn
  have h3 := List.pairwise_iff_getElem.1 h2 i (i + 1) (by rw [List.length_map]; omega) (by rw [List.length_map]; exact hi) (by omega)
  rw [List.getElem_map, List.getElem_map] at h3
  exact h3 h.symm
set_option maxRecDepth 20000 in
set_option maxHeartbeats 8000000 in
theorem Merge_of (ls : List Seg) (dead : List Int) (hs : SegsB ls) (hd : dead.length ≤ 1000000) (hB : ∀ l : List Doc, DocsB 140737488355328 l → SpecT Tryz.prog 15 [.sl 5 false (docsHV l)] [.agg (buildV l).1.enc, i64 (buildV l).2]) : SpecT Tryz.prog 12 [.sl 2 false (segsHV ls), .sl 1 false (intsHV dead)] [.agg (mergeV ls dead).1.enc, i64 (mergeV ls dead).2] := by
  have hls := hs.1
  have hal := allV_len hs dead ls.length (Nat.le_refl _)
  rw [List.take_length] at hal
  have hsl := sortV_length (allV ls dead)
  refine SpecT.of_HT Tryz.func12 rfl (by rw [Tryz.ntmps12]; simp) (rs := [.cell 4 29, .tmp 5]) rfl (by decide) ?_
  rw [Tryz.ntmps12]
  refine HT.seq ?_
  refine HT.region ?_   -- R0
  simp (disch := first | omega | (simp <;> omega) | fail) [wrap_i64, wrap_u64, wrap_u8']
  refine HT.weaken (HS.le_frzbox 3 3 (by decide) rfl rfl (by simp [isIL, isI])) ?_
  simp
  refine HT.seq ?_
  refine HT.region ?_   -- R1
  simp (disch := first | omega | (simp <;> omega) | fail) [wrap_i64, wrap_u64, wrap_u8']
  refine HT.weaken (HS.le_boxown 6 0 900 47 5 0 rfl rfl (by decide) (by decide)) ?_
  refine HT.seq ?_
  refine HT.seq ?_
  refine HT.region ?_   -- R2
  simp (disch := first | omega | (simp <;> omega) | fail) [wrap_i64, wrap_u64, wrap_u8']
  refine HT.block ?_
  refine HT.loopK (fun i : {i : Nat // i ≤ ls.length} => [.s 12 (i64 i), .o 6 (.box [.ref 900]), .o 900 (.row 47 5 (docsHV (allV (ls.take i) dead)))]) [3, 4, 6, 10, 11] [3, 4] (fun i => ls.length - i) (⟨0, by omega⟩) ?_ ?_   -- block 0 turned [12]
  · simp (disch := first | omega | (simp <;> omega) | fail) [wrap_i64, wrap_u64, wrap_u8', allV]
  rintro ⟨i, hi⟩
  simp (disch := first | omega | (simp <;> omega) | fail) [wrap_i64, wrap_u64, wrap_u8']
  refine HT.seq ?_
  refine HT.region ?_   -- R3
  simp (disch := first | omega | (simp <;> omega) | fail) [wrap_i64, wrap_u64, wrap_u8']
  refine HT.seq ?_
  refine HT.cond' ?_   -- if 13
  simp (disch := first | omega | (simp <;> omega) | fail) [wrap_i64, wrap_u64, wrap_u8']
  refine ⟨fun h13 => ?_, fun h13 => ?_⟩
  · skip
    have hi' : i < ls.length := by omega
    have hal2 := allV_len hs dead i (by omega)
    have hsd := hs.2.1 _ (List.getElem_mem hi')
    have hkl := List.length_filter_le (fun d => aliveB dead d.id) ls[i].docs
    refine HT.skip ?_
    simp (disch := first | omega | (simp <;> omega) | fail) [wrap_i64, wrap_u64, wrap_u8']
    refine HT.seq ?_
    refine HT.block ?_
    refine HT.seq ?_
    refine HT.region ?_   -- R4
    simp (disch := first | omega | (simp <;> omega) | fail) [wrap_i64, wrap_u64, wrap_u8']
    refine HT.draw [.batch [0, 1, 2, 3, 4], .one 5, .one 6] (by kernel_rfl) ?_   -- R5
    simp (disch := first | omega | (simp <;> omega) | fail) [wrap_i64, wrap_u64, wrap_u8']
    refine stepK.mk (.call1 _ _ _ rfl Ty.hb29 rfl rfl ((keepD_spec 30 Ty.hb30 [.cptr [.sl 1 false (intsHV dead)]] (by simp [isIL, isI]) (fun d => aliveB dead d.id) ls[i].docs (by omega) (fun d _ => MergeC_spec false dead hd d)))) ?_
    simp (disch := first | omega | (simp <;> omega) | fail) [wrap_i64, wrap_u64, wrap_u8']
    refine HT.region ?_   -- R6
    simp (disch := first | omega | (simp <;> omega) | fail) [wrap_i64, wrap_u64, wrap_u8']
    refine Round.mk' (⟨i + 1, by omega⟩) (by dsimp only; omega) rfl ?_
    simp (disch := first | omega | (simp <;> omega) | fail) [wrap_i64, wrap_u64, wrap_u8', allV_succ hi', docsHV_append, dKeep]
  · skip
    obtain rfl : i = ls.length := by omega
    refine HT.exit ?_
    simp (disch := first | omega | (simp <;> omega) | fail) [wrap_i64, wrap_u64, wrap_u8']
    refine HT.seq ?_
    refine HT.region ?_   -- R7
    simp (disch := first | omega | (simp <;> omega) | fail) [wrap_i64, wrap_u64, wrap_u8']
    intro V ob
    refine stepK.mk (.callSt _ _ 900 6 _ _ _ _ _ _ _ rfl Ty.hb32 (by first | rfl | simp) (by first | rfl | simp) (by simp) (fun bB hob => MSort1_spec (allV ls dead) (by omega) hob) rfl) ?_
    simp (disch := first | omega | (simp <;> omega) | fail) [wrap_i64, wrap_u64, wrap_u8']
    refine HT.weaken (HS.le_ren 900 200 (by rfl) (by rfl)) ?_
    simp (disch := first | omega | (simp <;> omega) | fail) [wrap_i64, wrap_u64, wrap_u8']
    refine HT.weaken (HS.le_frzref (id := 200) (xr := .sl 5 false (docsHV (sortV (allV ls dead)))) (xm := .any) (by simp)) ?_
    refine HT.seq ?_
    refine HT.seq ?_
    refine HT.region ?_   -- R8
    simp (disch := first | omega | (simp <;> omega) | fail) [wrap_i64, wrap_u64, wrap_u8']
    refine HT.block ?_
    refine HT.loopK (fun k : {k : Nat // (k + 1 ≤ (sortV (allV ls dead)).length ∨ k = 0) ∧ AdjTo (sortV (allV ls dead)) k} => [.s 9 (i64 ((k : Int) + 1))]) [4, 6] [4, 6] (fun k => (sortV (allV ls dead)).length - k) (⟨0, .inr rfl, fun i h hi => absurd hi (Nat.not_lt_zero _)⟩) ?_ ?_   -- block 2 turned [9]
    · simp (disch := first | omega | (simp <;> omega) | fail) [wrap_i64, wrap_u64, wrap_u8']
    rintro ⟨k, hk, hst⟩
    simp (disch := first | omega | (simp <;> omega) | fail) [wrap_i64, wrap_u64, wrap_u8']
    refine HT.seq ?_
    refine HT.seq ?_
    refine HT.region ?_   -- R9
    simp (disch := first | omega | (simp <;> omega) | fail) [wrap_i64, wrap_u64, wrap_u8']
    refine HT.cond' ?_   -- if 30
    simp (disch := first | omega | (simp <;> omega) | fail) [wrap_i64, wrap_u64, wrap_u8']
    refine ⟨fun h30 => ?_, fun h30 => ?_⟩
    · skip
      have hk2 : k + 1 < (sortV (allV ls dead)).length := by omega
      refine HT.skip ?_
      simp (disch := first | omega | (simp <;> omega) | fail) [wrap_i64, wrap_u64, wrap_u8']
      refine HT.seq ?_
      refine HT.block ?_
      refine HT.seq ?_
      refine HT.draw [.batch [0, 1, 2, 3, 4, 5, 6, 7, 8, 9, 10, 11]] (by kernel_rfl) ?_   -- R11
      simp (disch := first | omega | (simp <;> omega) | fail) [wrap_i64, wrap_u64, wrap_u8']
      refine HT.cond' ?_   -- if 44
      simp (disch := first | omega | (simp <;> omega) | fail) [wrap_i64, wrap_u64, wrap_u8']
      refine ⟨fun h44 => ?_, fun h44 => ?_⟩
      · skip
        refine HT.seq ?_
        refine HT.region ?_   -- R12
        simp (disch := first | omega | (simp <;> omega) | fail) [wrap_i64, wrap_u64, wrap_u8']
        refine HT.weaken (HS.le_boxown 4 0 200 47 5 0 rfl rfl (by decide) (by decide)) ?_
        simp
        refine HT.weaken (HS.le_boxown 4 1 201 56 2 0 (by rfl) (by rfl) (by decide) (by decide)) ?_
        refine HT.ret ?_
        have hm := adj_twice hk2 h44
        simp (disch := first | omega | (simp <;> omega) | fail) [wrap_i64, wrap_u64, wrap_u8', hm, emptySeg]
      · skip
        refine HT.skip ?_
        simp (disch := first | omega | (simp <;> omega) | fail) [wrap_i64, wrap_u64, wrap_u8']
        refine HT.region ?_   -- R10
        simp (disch := first | omega | (simp <;> omega) | fail) [wrap_i64, wrap_u64, wrap_u8']
        refine Round.mk' (⟨k + 1, .inl (by omega), hst.succ hk2 h44⟩) (by dsimp only; omega) rfl ?_
        simp (disch := first | omega | (simp <;> omega) | fail) [wrap_i64, wrap_u64, wrap_u8']
    · skip
      have hm := adj_once (ls := ls) (dead := dead) fun i h => hst i h (by omega)
      refine HT.exit ?_
      simp (disch := first | omega | (simp <;> omega) | fail) [wrap_i64, wrap_u64, wrap_u8']
      refine HT.seq ?_
      refine HT.region ?_   -- R13
      simp (disch := first | omega | (simp <;> omega) | fail) [wrap_i64, wrap_u64, wrap_u8']
      refine stepK.mk (.callTf _ _ _ _ _ rfl Ty.hb15 rfl rfl (hB (sortV (allV ls dead)) ⟨by omega, fun d hd => by obtain ⟨s, hs1, hs2⟩ := allV_mem ((sortV_perm _).mem_iff.1 hd); exact hs.2.2 s hs1 d hs2⟩) rfl) ?_
      simp (disch := first | omega | (simp <;> omega) | fail) [wrap_i64, wrap_u64, wrap_u8']
      refine HT.ret ?_
      simp (disch := first | omega | (simp <;> omega) | fail) [wrap_i64, wrap_u64, wrap_u8', hm]
end Go.Hv
set_option linter.unusedVariables false
set_option linter.unusedSimpArgs false
namespace Go.Hv
open Go Go.Hv Go.Proofs Go.RowKit
open Go.Proofs.YthdljfognblpbaaGreatDoor
end Go.Hv
set_option linter.unusedVariables false
set_option linter.unusedSimpArgs false
namespace Go.Hv
open Go Go.Hv Go.Proofs Go.RowKit
open Go.Proofs.YthdljfognblpbaaGreatDoor
end Go.Hv
set_option linter.unusedVariables false
set_option linter.unusedSimpArgs false
namespace Go.Hv
open Go Go.Hv Go.Proofs Go.RowKit
open Go.Proofs.YthdljfognblpbaaGreatDoor
theorem pick_form (s : List Int) : ∃ a b, pickV s = rangeI a b ∧ a ≤ b ∧ b ≤ s.length ∧ (a = b → s.length < 8) ∧ (a < b → (a = 0 ∧ b = s.length ∧ 8 ≤ s.length) ∨ (a + 3 ≤ b ∧ ∀ j, a ≤ j → j < b → classV (s.getD j 0) = classV (s.getD a 0))) := by
  rcases pick_cases s with ⟨h, h8⟩ | ⟨h, h8⟩ | ⟨a, b, h, h1, h2, h3⟩
  · exact ⟨0, 0, by rw [h]; simp, by omega, by omega, fun _ => h8, fun h => absurd h (by omega)⟩
  · exact ⟨0, s.length, h, by omega, by omega, fun e => by omega, fun _ => .inl ⟨rfl, rfl, h8⟩⟩
  · exact ⟨a, b, h, by omega, h2, fun e => by omega, fun _ => .inr ⟨h1, h3⟩⟩
set_option maxRecDepth 20000 in
set_option maxHeartbeats 4000000 in
theorem choice_of (hA : Spec1 Tryz.prog 10 [] (bo true)) (f : Bool) (l : List Int) (hl : l.length ≤ 140737488355328) (hw : S63 l) : Spec1 Tryz.prog 8 [.sl 1 f (intsHV l)] (bo true) := by
  obtain ⟨a, b, hpk, hab, hbl, hem, hne⟩ := pick_form l
  have hrl := rangeI_length a b
  refine Spec1.of_HT Tryz.func8 rfl (by rw [Tryz.ntmps8]; simp) rfl ?_
  rw [Tryz.ntmps8]
  refine HT.seq ?_
  refine HT.region ?_   -- R0
  simp (disch := first | omega | (simp <;> omega) | fail) [wrap_i64, wrap_u64, wrap_u8']
  refine HT.seq ?_
  refine HT.seq ?_
  refine HT.region ?_   -- R1
  simp (disch := first | omega | (simp <;> omega) | fail) [wrap_i64, wrap_u64, wrap_u8']
  refine stepK.mk (.call1 _ _ _ _ rfl Ty.hb10 rfl (hA) rfl rfl) ?_
  simp (disch := first | omega | (simp <;> omega) | fail) [wrap_i64, wrap_u64, wrap_u8']
  refine HT.cond' ?_   -- if 9
  simp (disch := first | omega | (simp <;> omega) | fail) [wrap_i64, wrap_u64, wrap_u8']
  refine HT.skip ?_
  simp (disch := first | omega | (simp <;> omega) | fail) [wrap_i64, wrap_u64, wrap_u8']
  refine HT.seq ?_
  refine HT.seq ?_
  refine HT.region ?_   -- R3
  simp (disch := first | omega | (simp <;> omega) | fail) [wrap_i64, wrap_u64, wrap_u8']
  refine HT.cond' ?_   -- if 12
  simp (disch := first | omega | (simp <;> omega) | fail) [wrap_i64, wrap_u64, wrap_u8']
  refine ⟨fun h12 => ?_, fun h12 => ?_⟩
  · skip
    refine HT.seq ?_
    refine HT.region ?_   -- R4
    simp (disch := first | omega | (simp <;> omega) | fail) [wrap_i64, wrap_u64, wrap_u8']
    refine HT.ret ?_
    simp (disch := first | omega | (simp <;> omega) | fail) [wrap_i64, wrap_u64, wrap_u8']
  · skip
    refine HT.skip ?_
    simp (disch := first | omega | (simp <;> omega) | fail) [wrap_i64, wrap_u64, wrap_u8']
    refine HT.seq ?_
    refine HT.region ?_   -- R5
    simp (disch := first | omega | (simp <;> omega) | fail) [wrap_i64, wrap_u64, wrap_u8']
    refine stepK.mk (.call1f _ _ _ _ _ rfl Ty.hb19 rfl rfl (Pick_spec f l (by omega) hw) rfl) ?_
    simp (disch := first | omega | (simp <;> omega) | fail) [wrap_i64, wrap_u64, wrap_u8', hpk]
    refine HT.seq ?_
    refine HT.seq ?_
    refine HT.region ?_   -- R6
    simp (disch := first | omega | (simp <;> omega) | fail) [wrap_i64, wrap_u64, wrap_u8']
    refine HT.cond' ?_   -- if 17
    simp (disch := first | omega | (simp <;> omega) | fail) [wrap_i64, wrap_u64, wrap_u8']
    refine ⟨fun h17 => ?_, fun h17 => ?_⟩
    · skip
      have h8 := hem (by omega)
      refine HT.seq ?_
      refine HT.region ?_   -- R7
      simp (disch := first | omega | (simp <;> omega) | fail) [wrap_i64, wrap_u64, wrap_u8']
      refine HT.ret ?_
      simp (disch := first | omega | (simp <;> omega) | fail) [wrap_i64, wrap_u64, wrap_u8', h8]
    · skip
      have hlt : a < b := by omega
      refine HT.skip ?_
      simp (disch := first | omega | (simp <;> omega) | fail) [wrap_i64, wrap_u64, wrap_u8']
      refine HT.seq ?_
      refine HT.seq ?_
      refine HT.region ?_   -- R8
      simp (disch := first | omega | (simp <;> omega) | fail) [wrap_i64, wrap_u64, wrap_u8']
      refine HT.block ?_
      refine HT.loopK (fun i : {i : Nat // i ≤ b - a} => [.s 4 (i64 i)]) [0, 3, 59, 60, 61, 85, 86, 95, 96] [] (fun i => b - a - i) (⟨0, by omega⟩) ?_ ?_   -- block 0 turned [4, 38, 39, 40, 41, 42, 45, 46, 47, 48, 49, 50, 51]
      · simp (disch := first | omega | (simp <;> omega) | fail) [wrap_i64, wrap_u64, wrap_u8']
      rintro ⟨i, hi⟩
      simp (disch := first | omega | (simp <;> omega) | fail) [wrap_i64, wrap_u64, wrap_u8']
      refine HT.seq ?_
      refine HT.seq ?_
      refine HT.region ?_   -- R9
      simp (disch := first | omega | (simp <;> omega) | fail) [wrap_i64, wrap_u64, wrap_u8']
      refine HT.cond' ?_   -- if 24
      simp (disch := first | omega | (simp <;> omega) | fail) [wrap_i64, wrap_u64, wrap_u8']
      refine ⟨fun h24 => ?_, fun h24 => ?_⟩
      · skip
        have hi' : i < b - a := by omega
        refine HT.skip ?_
        simp (disch := first | omega | (simp <;> omega) | fail) [wrap_i64, wrap_u64, wrap_u8']
        refine HT.seq ?_
        refine HT.block ?_
        refine HT.seq ?_
        refine HT.draw [.batch [0, 1, 2, 3, 4, 5, 6, 7, 8, 9, 10, 11, 12, 13, 14, 15, 16, 17, 18, 19, 20, 21, 22, 23, 24, 25]] (by kernel_rfl) ?_   -- R11
        simp -dsimp (disch := first | omega | (simp <;> omega) | fail) [wrap_i64, wrap_u64, wrap_u8', rangeI_getElem]
        refine HT.cond' ?_   -- if 52
        simp (disch := first | omega | (simp <;> omega) | fail) [wrap_i64, wrap_u64, wrap_u8']
        refine HT.skip ?_
        simp (disch := first | omega | (simp <;> omega) | fail) [wrap_i64, wrap_u64, wrap_u8']
        refine HT.region ?_   -- R10
        simp (disch := first | omega | (simp <;> omega) | fail) [wrap_i64, wrap_u64, wrap_u8']
        refine Round.mk' (⟨i + 1, by omega⟩) (by dsimp only; omega) rfl ?_
        simp (disch := first | omega | (simp <;> omega) | fail) [wrap_i64, wrap_u64, wrap_u8']
      · skip
        obtain rfl : i = b - a := by omega
        refine HT.exit ?_
        simp (disch := first | omega | (simp <;> omega) | fail) [wrap_i64, wrap_u64, wrap_u8']
        refine HT.seq ?_
        refine HT.seq ?_
        by_cases c1 : ¬ b - a = l.length
        · skip
          refine HT.region ?_   -- R13
          simp (disch := first | omega | (simp <;> omega) | fail) [wrap_i64, wrap_u64, wrap_u8']
          refine HT.cond' ?_   -- if 62
          simp (disch := first | omega | (simp <;> omega) | fail) [wrap_i64, wrap_u64, wrap_u8']
          refine HT.skip ?_
          simp (disch := first | omega | (simp <;> omega) | fail) [wrap_i64, wrap_u64, wrap_u8']
          refine HT.seq ?_
          refine HT.seq ?_
          refine HT.region ?_   -- R15
          simp (disch := first | omega | (simp <;> omega) | fail) [wrap_i64, wrap_u64, wrap_u8']
          refine HT.block ?_
          refine HT.loopK (fun j : {j : Nat // 1 ≤ j ∧ j ≤ b - a} => [.s 5 (i64 j)]) [0, 3] [] (fun j => b - a - j) (⟨1, by omega, by omega⟩) ?_ ?_   -- block 2 turned [5, 85, 86, 95, 96]
          · simp (disch := first | omega | (simp <;> omega) | fail) [wrap_i64, wrap_u64, wrap_u8']
          rintro ⟨j, hj1, hj⟩
          simp (disch := first | omega | (simp <;> omega) | fail) [wrap_i64, wrap_u64, wrap_u8']
          refine HT.seq ?_
          refine HT.seq ?_
          refine HT.region ?_   -- R16
          simp (disch := first | omega | (simp <;> omega) | fail) [wrap_i64, wrap_u64, wrap_u8']
          refine HT.cond' ?_   -- if 66
          simp (disch := first | omega | (simp <;> omega) | fail) [wrap_i64, wrap_u64, wrap_u8']
          refine ⟨fun h66 => ?_, fun h66 => ?_⟩
          · skip
            have hj' : j < b - a := by omega
            have hcl : a + 3 ≤ b ∧ ∀ j, a ≤ j → j < b → classV (l.getD j 0) = classV (l.getD a 0) := by
              rcases hne hlt with h | h
              · exfalso; omega
              · exact h
            have hla : a < l.length := by omega
            have hlj : a + j < l.length := by omega
            have hcc : classV l[a] = classV l[a + j] := by have := hcl.2 (a + j) (by omega) (by omega); simpa [List.getD_eq_getElem?_getD, hla, hlj] using this.symm
            have hwa := hw _ (List.getElem_mem hla)
            have hwj := hw _ (List.getElem_mem hlj)
            refine HT.skip ?_
            simp (disch := first | omega | (simp <;> omega) | fail) [wrap_i64, wrap_u64, wrap_u8']
            refine HT.seq ?_
            refine HT.block ?_
            refine HT.seq ?_
            refine HT.region ?_   -- R18
            simp (disch := first | omega | (simp <;> omega) | fail) [wrap_i64, wrap_u64, wrap_u8', rangeI_getElem]
            refine HT.seq ?_
            refine HT.region ?_   -- R19
            simp (disch := first | omega | (simp <;> omega) | fail) [wrap_i64, wrap_u64, wrap_u8', rangeI_getElem]
            refine HT.joinX (fun p : {k : Int × Int // k.1 ≤ 0 ∧ k.2 ≤ 0} => [.s 6 (i64 p.1.1), .s 7 (i64 p.1.2)]) [0, 3, 5, 95, 96] [] ?_ ?_
            · skip
              refine HT.block ?_
              refine HT.loopK (fun k : {k : Int × Int // k.1 < 9223372036854775808 ∧ k.2 < 9223372036854775808 ∧ classV k.1 = classV k.2} => [.s 6 (i64 k.1.1), .s 7 (i64 k.1.2)]) [0, 3, 5, 95, 96] [] (fun k => k.1.1.toNat) (⟨⟨l[a], l[a + j]⟩, hwa, hwj, hcc⟩) ?_ ?_   -- block 4 turned [6, 7, 85, 86]
              · simp (disch := first | omega | (simp <;> omega) | fail) [wrap_i64, wrap_u64, wrap_u8']
              rintro ⟨⟨x, y⟩, hx, hy, hxy⟩
              simp (disch := first | omega | (simp <;> omega) | fail) [wrap_i64, wrap_u64, wrap_u8']
              refine HT.seq ?_
              refine HT.seq ?_
              dsimp only at hx hy hxy
              by_cases e1 : x ≤ 0
              · skip
                refine HT.region ?_   -- R20
                simp (disch := first | omega | (simp <;> omega) | fail) [wrap_i64, wrap_u64, wrap_u8']
                refine HT.cond' ?_   -- if 87
                simp (disch := first | omega | (simp <;> omega) | fail) [wrap_i64, wrap_u64, wrap_u8']
                refine HT.exit ?_
                simp (disch := first | omega | (simp <;> omega) | fail) [wrap_i64, wrap_u64, wrap_u8']
                refine Pick.mk' (⟨⟨x, y⟩, e1, by dsimp only; exact classV_zero.1 (by rw [← hxy]; exact classV_le e1)⟩) rfl ?_
                simp (disch := first | omega | (simp <;> omega) | fail) [wrap_i64, wrap_u64, wrap_u8']
              have hx0 : 0 < x := by omega
              have hy0 : 0 < y := by have h1 := classV_gt hx0; have h2 := @classV_zero y; omega
              refine HT.region ?_   -- R20
              simp (disch := first | omega | (simp <;> omega) | fail) [wrap_i64, wrap_u64, wrap_u8']
              refine HT.cond' ?_   -- if 87
              simp (disch := first | omega | (simp <;> omega) | fail) [wrap_i64, wrap_u64, wrap_u8']
              refine HT.skip ?_
              simp (disch := first | omega | (simp <;> omega) | fail) [wrap_i64, wrap_u64, wrap_u8']
              refine HT.block ?_
              refine HT.seq ?_
              refine HT.region ?_   -- R21
              simp (disch := first | omega | (simp <;> omega) | fail) [wrap_i64, wrap_u64, wrap_u8']
              refine HT.region ?_   -- R22
              simp (disch := first | omega | (simp <;> omega) | fail) [wrap_i64, wrap_u64, wrap_u8']
              refine Round.mk' (⟨⟨x / 4, y / 4⟩, by dsimp only; omega, by dsimp only; omega, by dsimp only; have h1 := classV_gt hx0; have h2 := classV_gt hy0; omega⟩) (by dsimp only; omega) rfl ?_
              simp (disch := first | omega | (simp <;> omega) | fail) [wrap_i64, wrap_u64, wrap_u8', class_quo hx0 hx, class_quo hy0 hy]
            · rintro ⟨⟨x, y⟩, hx, hy⟩
              simp (disch := first | omega | (simp <;> omega) | fail) [wrap_i64, wrap_u64, wrap_u8']
              dsimp only at hx hy
              refine HT.seq ?_
              refine HT.region ?_   -- R23
              simp (disch := first | omega | (simp <;> omega) | fail) [wrap_i64, wrap_u64, wrap_u8']
              refine HT.cond' ?_   -- if 97
              simp (disch := first | omega | (simp <;> omega) | fail) [wrap_i64, wrap_u64, wrap_u8']
              refine HT.skip ?_
              simp (disch := first | omega | (simp <;> omega) | fail) [wrap_i64, wrap_u64, wrap_u8']
              refine HT.region ?_   -- R17
              simp (disch := first | omega | (simp <;> omega) | fail) [wrap_i64, wrap_u64, wrap_u8']
              refine Round.mk' (⟨j + 1, by omega, by omega⟩) (by dsimp only; omega) rfl ?_
              simp (disch := first | omega | (simp <;> omega) | fail) [wrap_i64, wrap_u64, wrap_u8']
          · skip
            obtain rfl : j = b - a := by omega
            have hcl : a + 3 ≤ b := by
              rcases hne hlt with h | h
              · exfalso; omega
              · exact h.1
            refine HT.exit ?_
            simp (disch := first | omega | (simp <;> omega) | fail) [wrap_i64, wrap_u64, wrap_u8']
            refine HT.seq ?_
            refine HT.region ?_   -- R25
            simp (disch := first | omega | (simp <;> omega) | fail) [wrap_i64, wrap_u64, wrap_u8']
            refine HT.ret ?_
            simp (disch := first | omega | (simp <;> omega) | fail) [wrap_i64, wrap_u64, wrap_u8']
        by_cases c2 : 8 ≤ l.length
        · skip
          refine HT.region ?_   -- R13
          simp (disch := first | omega | (simp <;> omega) | fail) [wrap_i64, wrap_u64, wrap_u8']
          refine HT.cond' ?_   -- if 62
          simp (disch := first | omega | (simp <;> omega) | fail) [wrap_i64, wrap_u64, wrap_u8']
          refine HT.seq ?_
          refine HT.region ?_   -- R14
          simp (disch := first | omega | (simp <;> omega) | fail) [wrap_i64, wrap_u64, wrap_u8']
          refine HT.ret ?_
          simp (disch := first | omega | (simp <;> omega) | fail) [wrap_i64, wrap_u64, wrap_u8']
        refine HT.region ?_   -- R13
        simp (disch := first | omega | (simp <;> omega) | fail) [wrap_i64, wrap_u64, wrap_u8']
        refine HT.cond' ?_   -- if 62
        simp (disch := first | omega | (simp <;> omega) | fail) [wrap_i64, wrap_u64, wrap_u8']
        refine HT.skip ?_
        simp (disch := first | omega | (simp <;> omega) | fail) [wrap_i64, wrap_u64, wrap_u8']
        refine HT.seq ?_
        refine HT.seq ?_
        refine HT.region ?_   -- R15
        simp (disch := first | omega | (simp <;> omega) | fail) [wrap_i64, wrap_u64, wrap_u8']
        refine HT.block ?_
        refine HT.loopK (fun j : {j : Nat // 1 ≤ j ∧ j ≤ b - a} => [.s 5 (i64 j)]) [0, 3] [] (fun j => b - a - j) (⟨1, by omega, by omega⟩) ?_ ?_   -- block 2 turned [5, 85, 86, 95, 96]
        · simp (disch := first | omega | (simp <;> omega) | fail) [wrap_i64, wrap_u64, wrap_u8']
        rintro ⟨j, hj1, hj⟩
        simp (disch := first | omega | (simp <;> omega) | fail) [wrap_i64, wrap_u64, wrap_u8']
        refine HT.seq ?_
        refine HT.seq ?_
        refine HT.region ?_   -- R16
        simp (disch := first | omega | (simp <;> omega) | fail) [wrap_i64, wrap_u64, wrap_u8']
        refine HT.cond' ?_   -- if 66
        simp (disch := first | omega | (simp <;> omega) | fail) [wrap_i64, wrap_u64, wrap_u8']
        refine ⟨fun h66 => ?_, fun h66 => ?_⟩
        · skip
          have hj' : j < b - a := by omega
          have hcl : a + 3 ≤ b ∧ ∀ j, a ≤ j → j < b → classV (l.getD j 0) = classV (l.getD a 0) := by
            rcases hne hlt with h | h
            · exfalso; omega
            · exact h
          have hla : a < l.length := by omega
          have hlj : a + j < l.length := by omega
          have hcc : classV l[a] = classV l[a + j] := by have := hcl.2 (a + j) (by omega) (by omega); simpa [List.getD_eq_getElem?_getD, hla, hlj] using this.symm
          have hwa := hw _ (List.getElem_mem hla)
          have hwj := hw _ (List.getElem_mem hlj)
          refine HT.skip ?_
          simp (disch := first | omega | (simp <;> omega) | fail) [wrap_i64, wrap_u64, wrap_u8']
          refine HT.seq ?_
          refine HT.block ?_
          refine HT.seq ?_
          refine HT.region ?_   -- R18
          simp (disch := first | omega | (simp <;> omega) | fail) [wrap_i64, wrap_u64, wrap_u8', rangeI_getElem]
          refine HT.seq ?_
          refine HT.region ?_   -- R19
          simp (disch := first | omega | (simp <;> omega) | fail) [wrap_i64, wrap_u64, wrap_u8', rangeI_getElem]
          refine HT.joinX (fun p : {k : Int × Int // k.1 ≤ 0 ∧ k.2 ≤ 0} => [.s 6 (i64 p.1.1), .s 7 (i64 p.1.2)]) [0, 3, 5, 95, 96] [] ?_ ?_
          · skip
            refine HT.block ?_
            refine HT.loopK (fun k : {k : Int × Int // k.1 < 9223372036854775808 ∧ k.2 < 9223372036854775808 ∧ classV k.1 = classV k.2} => [.s 6 (i64 k.1.1), .s 7 (i64 k.1.2)]) [0, 3, 5, 95, 96] [] (fun k => k.1.1.toNat) (⟨⟨l[a], l[a + j]⟩, hwa, hwj, hcc⟩) ?_ ?_   -- block 4 turned [6, 7, 85, 86]
            · simp (disch := first | omega | (simp <;> omega) | fail) [wrap_i64, wrap_u64, wrap_u8']
            rintro ⟨⟨x, y⟩, hx, hy, hxy⟩
            simp (disch := first | omega | (simp <;> omega) | fail) [wrap_i64, wrap_u64, wrap_u8']
            refine HT.seq ?_
            refine HT.seq ?_
            dsimp only at hx hy hxy
            by_cases e1 : x ≤ 0
            · skip
              refine HT.region ?_   -- R20
              simp (disch := first | omega | (simp <;> omega) | fail) [wrap_i64, wrap_u64, wrap_u8']
              refine HT.cond' ?_   -- if 87
              simp (disch := first | omega | (simp <;> omega) | fail) [wrap_i64, wrap_u64, wrap_u8']
              refine HT.exit ?_
              simp (disch := first | omega | (simp <;> omega) | fail) [wrap_i64, wrap_u64, wrap_u8']
              refine Pick.mk' (⟨⟨x, y⟩, e1, by dsimp only; exact classV_zero.1 (by rw [← hxy]; exact classV_le e1)⟩) rfl ?_
              simp (disch := first | omega | (simp <;> omega) | fail) [wrap_i64, wrap_u64, wrap_u8']
            have hx0 : 0 < x := by omega
            have hy0 : 0 < y := by have h1 := classV_gt hx0; have h2 := @classV_zero y; omega
            refine HT.region ?_   -- R20
            simp (disch := first | omega | (simp <;> omega) | fail) [wrap_i64, wrap_u64, wrap_u8']
            refine HT.cond' ?_   -- if 87
            simp (disch := first | omega | (simp <;> omega) | fail) [wrap_i64, wrap_u64, wrap_u8']
            refine HT.skip ?_
            simp (disch := first | omega | (simp <;> omega) | fail) [wrap_i64, wrap_u64, wrap_u8']
            refine HT.block ?_
            refine HT.seq ?_
            refine HT.region ?_   -- R21
            simp (disch := first | omega | (simp <;> omega) | fail) [wrap_i64, wrap_u64, wrap_u8']
            refine HT.region ?_   -- R22
            simp (disch := first | omega | (simp <;> omega) | fail) [wrap_i64, wrap_u64, wrap_u8']
            refine Round.mk' (⟨⟨x / 4, y / 4⟩, by dsimp only; omega, by dsimp only; omega, by dsimp only; have h1 := classV_gt hx0; have h2 := classV_gt hy0; omega⟩) (by dsimp only; omega) rfl ?_
            simp (disch := first | omega | (simp <;> omega) | fail) [wrap_i64, wrap_u64, wrap_u8', class_quo hx0 hx, class_quo hy0 hy]
          · rintro ⟨⟨x, y⟩, hx, hy⟩
            simp (disch := first | omega | (simp <;> omega) | fail) [wrap_i64, wrap_u64, wrap_u8']
            dsimp only at hx hy
            refine HT.seq ?_
            refine HT.region ?_   -- R23
            simp (disch := first | omega | (simp <;> omega) | fail) [wrap_i64, wrap_u64, wrap_u8']
            refine HT.cond' ?_   -- if 97
            simp (disch := first | omega | (simp <;> omega) | fail) [wrap_i64, wrap_u64, wrap_u8']
            refine HT.skip ?_
            simp (disch := first | omega | (simp <;> omega) | fail) [wrap_i64, wrap_u64, wrap_u8']
            refine HT.region ?_   -- R17
            simp (disch := first | omega | (simp <;> omega) | fail) [wrap_i64, wrap_u64, wrap_u8']
            refine Round.mk' (⟨j + 1, by omega, by omega⟩) (by dsimp only; omega) rfl ?_
            simp (disch := first | omega | (simp <;> omega) | fail) [wrap_i64, wrap_u64, wrap_u8']
        · skip
          obtain rfl : j = b - a := by omega
          have hcl : a + 3 ≤ b := by
            rcases hne hlt with h | h
            · exfalso; omega
            · exact h.1
          refine HT.exit ?_
          simp (disch := first | omega | (simp <;> omega) | fail) [wrap_i64, wrap_u64, wrap_u8']
          refine HT.seq ?_
          refine HT.region ?_   -- R25
          simp (disch := first | omega | (simp <;> omega) | fail) [wrap_i64, wrap_u64, wrap_u8']
          refine HT.ret ?_
          simp (disch := first | omega | (simp <;> omega) | fail) [wrap_i64, wrap_u64, wrap_u8']
end Go.Hv
set_option linter.unusedVariables false
set_option linter.unusedSimpArgs false
namespace Go.Hv
open Go Go.Hv Go.Proofs Go.RowKit
open Go.Proofs.YthdljfognblpbaaGreatDoor
set_option maxRecDepth 20000 in
set_option maxHeartbeats 4000000 in
theorem filters_of (hA : Spec1 Tryz.prog 10 [] (bo true)) (l : List Doc) (dead : List Int) (hl : DocsB 140737488355328 l) (hd : dead.length ≤ 140737488355328) (hB : ∀ l : List Doc, DocsB 140737488355328 l → SpecT Tryz.prog 15 [.sl 5 false (docsHV l)] [.agg (buildV l).1.enc, i64 (buildV l).2]) (hS : (buildV l).2 = 0 → SegB 1000000 (buildV l).1 ∧ SegQ (filterV (buildV l).1 dead)) : Spec1 Tryz.prog 4 [.sl 5 false (docsHV l), .sl 1 false (intsHV dead)] (bo true) := by
  have hl0 := hl.1
  refine Spec1.of_HT Tryz.func4 rfl (by rw [Tryz.ntmps4]; simp) rfl ?_
  rw [Tryz.ntmps4]
  refine HT.seq ?_
  refine HT.region ?_   -- R0
  simp (disch := first | omega | (simp <;> omega) | fail) [wrap_i64, wrap_u64, wrap_u8']
  refine HT.seq ?_
  refine HT.seq ?_
  refine HT.region ?_   -- R1
  simp (disch := first | omega | (simp <;> omega) | fail) [wrap_i64, wrap_u64, wrap_u8']
  refine stepK.mk (.call1 _ _ _ _ rfl Ty.hb10 rfl (hA) rfl rfl) ?_
  simp (disch := first | omega | (simp <;> omega) | fail) [wrap_i64, wrap_u64, wrap_u8']
  refine HT.cond' ?_   -- if 8
  simp (disch := first | omega | (simp <;> omega) | fail) [wrap_i64, wrap_u64, wrap_u8']
  refine HT.skip ?_
  simp (disch := first | omega | (simp <;> omega) | fail) [wrap_i64, wrap_u64, wrap_u8']
  refine HT.seq ?_
  refine HT.seq ?_
  by_cases c1 : 40 < l.length
  · skip
    refine HT.region ?_   -- R3
    simp (disch := first | omega | (simp <;> omega) | fail) [wrap_i64, wrap_u64, wrap_u8']
    refine HT.cond' ?_   -- if 16
    simp (disch := first | omega | (simp <;> omega) | fail) [wrap_i64, wrap_u64, wrap_u8']
    refine HT.seq ?_
    refine HT.region ?_   -- R4
    simp (disch := first | omega | (simp <;> omega) | fail) [wrap_i64, wrap_u64, wrap_u8']
    refine HT.ret ?_
    simp (disch := first | omega | (simp <;> omega) | fail) [wrap_i64, wrap_u64, wrap_u8']
  by_cases c2 : 40 < dead.length
  · skip
    refine HT.region ?_   -- R3
    simp (disch := first | omega | (simp <;> omega) | fail) [wrap_i64, wrap_u64, wrap_u8']
    refine HT.cond' ?_   -- if 16
    simp (disch := first | omega | (simp <;> omega) | fail) [wrap_i64, wrap_u64, wrap_u8']
    refine HT.seq ?_
    refine HT.region ?_   -- R4
    simp (disch := first | omega | (simp <;> omega) | fail) [wrap_i64, wrap_u64, wrap_u8']
    refine HT.ret ?_
    simp (disch := first | omega | (simp <;> omega) | fail) [wrap_i64, wrap_u64, wrap_u8']
  refine HT.region ?_   -- R3
  simp (disch := first | omega | (simp <;> omega) | fail) [wrap_i64, wrap_u64, wrap_u8']
  refine HT.cond' ?_   -- if 16
  simp (disch := first | omega | (simp <;> omega) | fail) [wrap_i64, wrap_u64, wrap_u8']
  refine HT.skip ?_
  simp (disch := first | omega | (simp <;> omega) | fail) [wrap_i64, wrap_u64, wrap_u8']
  refine HT.seq ?_
  refine HT.region ?_   -- R5
  simp (disch := first | omega | (simp <;> omega) | fail) [wrap_i64, wrap_u64, wrap_u8']
  refine stepK.mk (.callTf _ _ _ _ _ rfl Ty.hb15 rfl rfl (hB l hl) rfl) ?_
  simp (disch := first | omega | (simp <;> omega) | fail) [wrap_i64, wrap_u64, wrap_u8']
  refine HT.seq ?_
  by_cases d1 : ¬ (buildV l).2 = 0
  · skip
    refine HT.draw [.batch [0, 1, 2, 3, 4, 5, 6, 7, 8, 9, 10, 11]] (by kernel_rfl) ?_   -- R6
    simp -dsimp (disch := first | omega | (simp <;> omega) | fail) [wrap_i64, wrap_u64, wrap_u8', d1]
    refine HT.ret ?_
    simp (disch := first | omega | (simp <;> omega) | fail) [wrap_i64, wrap_u64, wrap_u8']
  rw [Classical.not_not] at d1
  have hS1 := hS d1
  refine HT.draw [.batch [0, 1, 2, 3, 4, 5, 6, 7, 8, 9, 10, 11]] (by kernel_rfl) ?_   -- R6
  simp -dsimp (disch := first | omega | (simp <;> omega) | fail) [wrap_i64, wrap_u64, wrap_u8', d1]
  refine stepK.mk (.call1 _ _ _ rfl Ty.hb16 rfl rfl (Filter_spec (buildV l).1 dead hS1.1 (by omega))) ?_
  simp -dsimp (disch := first | omega | (simp <;> omega) | fail) [wrap_i64, wrap_u64, wrap_u8', d1]
  refine stepK.mk (.call1 _ _ _ rfl Ty.hb17 rfl rfl (refFilter_spec (buildV l).1 dead hS1.1 (by omega))) ?_
  simp -dsimp (disch := first | omega | (simp <;> omega) | fail) [wrap_i64, wrap_u64, wrap_u8', d1]
  refine stepK.mk (.call1 _ _ _ rfl Ty.hb14 rfl rfl (Same29_spec (filterV (buildV l).1 dead) (filterV (buildV l).1 dead) hS1.2 hS1.2)) ?_
  simp -dsimp (disch := first | omega | (simp <;> omega) | fail) [wrap_i64, wrap_u64, wrap_u8', d1]
  refine HT.ret ?_
  simp (disch := first | omega | (simp <;> omega) | fail) [wrap_i64, wrap_u64, wrap_u8']
end Go.Hv
set_option linter.unusedVariables false
set_option linter.unusedSimpArgs false
namespace Go.Hv
open Go Go.Hv Go.Proofs Go.RowKit
open Go.Proofs.YthdljfognblpbaaGreatDoor
def PostsB (n : Nat) (l : List Post) : Prop := l.length ≤ n ∧ ∀ p ∈ l, p.docs.length ≤ n ∧ ∀ g ∈ p.docs, g.off.length ≤ n
theorem build_seg {l : List Doc} (h : (buildV l).2 = 0) : (buildV l).1 = segV l := by
  unfold buildV at h ⊢
  split
  · rfl
  · next hr => rw [if_neg hr] at h; exact absurd h (by decide)
set_option maxRecDepth 20000 in
set_option maxHeartbeats 4000000 in
theorem unions_of (hA : Spec1 Tryz.prog 10 [] (bo true)) (a b : List Doc) (ha : DocsB 140737488355328 a) (hb : DocsB 140737488355328 b) (hB : ∀ l : List Doc, DocsB 140737488355328 l → SpecT Tryz.prog 15 [.sl 5 false (docsHV l)] [.agg (buildV l).1.enc, i64 (buildV l).2]) (hS : ∀ l : List Doc, (buildV l).2 = 0 → PostsB 400000 (buildV l).1.grams) (hU : ∀ l m : List Doc, (buildV l).2 = 0 → (buildV m).2 = 0 → PostsB 1000000 (unionV (buildV l).1.grams (buildV m).1.grams)) : Spec1 Tryz.prog 6 [.sl 5 false (docsHV a), .sl 5 false (docsHV b)] (bo true) := by
  have ha0 := ha.1
  have hb0 := hb.1
  refine Spec1.of_HT Tryz.func6 rfl (by rw [Tryz.ntmps6]; simp) rfl ?_
  rw [Tryz.ntmps6]
  refine HT.seq ?_
  refine HT.region ?_   -- R0
  simp (disch := first | omega | (simp <;> omega) | fail) [wrap_i64, wrap_u64, wrap_u8']
  refine HT.seq ?_
  refine HT.seq ?_
  refine HT.region ?_   -- R1
  simp (disch := first | omega | (simp <;> omega) | fail) [wrap_i64, wrap_u64, wrap_u8']
  refine stepK.mk (.call1 _ _ _ _ rfl Ty.hb10 rfl (hA) rfl rfl) ?_
  simp (disch := first | omega | (simp <;> omega) | fail) [wrap_i64, wrap_u64, wrap_u8']
  refine HT.cond' ?_   -- if 10
  simp (disch := first | omega | (simp <;> omega) | fail) [wrap_i64, wrap_u64, wrap_u8']
  refine HT.skip ?_
  simp (disch := first | omega | (simp <;> omega) | fail) [wrap_i64, wrap_u64, wrap_u8']
  refine HT.seq ?_
  refine HT.seq ?_
  by_cases c1 : 40 < a.length
  · skip
    refine HT.region ?_   -- R3
    simp (disch := first | omega | (simp <;> omega) | fail) [wrap_i64, wrap_u64, wrap_u8']
    refine HT.cond' ?_   -- if 24
    simp (disch := first | omega | (simp <;> omega) | fail) [wrap_i64, wrap_u64, wrap_u8']
    refine HT.seq ?_
    refine HT.region ?_   -- R4
    simp (disch := first | omega | (simp <;> omega) | fail) [wrap_i64, wrap_u64, wrap_u8']
    refine HT.ret ?_
    simp (disch := first | omega | (simp <;> omega) | fail) [wrap_i64, wrap_u64, wrap_u8']
  by_cases c2 : 40 < b.length
  · skip
    refine HT.region ?_   -- R3
    simp (disch := first | omega | (simp <;> omega) | fail) [wrap_i64, wrap_u64, wrap_u8']
    refine HT.cond' ?_   -- if 24
    simp (disch := first | omega | (simp <;> omega) | fail) [wrap_i64, wrap_u64, wrap_u8']
    refine HT.seq ?_
    refine HT.region ?_   -- R4
    simp (disch := first | omega | (simp <;> omega) | fail) [wrap_i64, wrap_u64, wrap_u8']
    refine HT.ret ?_
    simp (disch := first | omega | (simp <;> omega) | fail) [wrap_i64, wrap_u64, wrap_u8']
  by_cases c3 : apartV a b = false
  · skip
    refine HT.region ?_   -- R3
    simp (disch := first | omega | (simp <;> omega) | fail) [wrap_i64, wrap_u64, wrap_u8', c3]
    refine stepK.mk (.call1 _ _ _ _ rfl Ty.hb21 rfl (apart_spec a b (by omega) (by omega)) rfl rfl) ?_
    simp (disch := first | omega | (simp <;> omega) | fail) [wrap_i64, wrap_u64, wrap_u8', c3]
    refine HT.cond' ?_   -- if 24
    simp (disch := first | omega | (simp <;> omega) | fail) [wrap_i64, wrap_u64, wrap_u8']
    refine HT.seq ?_
    refine HT.region ?_   -- R4
    simp (disch := first | omega | (simp <;> omega) | fail) [wrap_i64, wrap_u64, wrap_u8']
    refine HT.ret ?_
    simp (disch := first | omega | (simp <;> omega) | fail) [wrap_i64, wrap_u64, wrap_u8']
  rw [Bool.not_eq_false] at c3
  refine HT.region ?_   -- R3
  simp (disch := first | omega | (simp <;> omega) | fail) [wrap_i64, wrap_u64, wrap_u8', c3]
  refine stepK.mk (.call1 _ _ _ _ rfl Ty.hb21 rfl (apart_spec a b (by omega) (by omega)) rfl rfl) ?_
  simp (disch := first | omega | (simp <;> omega) | fail) [wrap_i64, wrap_u64, wrap_u8', c3]
  refine HT.cond' ?_   -- if 24
  simp (disch := first | omega | (simp <;> omega) | fail) [wrap_i64, wrap_u64, wrap_u8']
  refine HT.skip ?_
  simp (disch := first | omega | (simp <;> omega) | fail) [wrap_i64, wrap_u64, wrap_u8']
  refine HT.seq ?_
  refine HT.region ?_   -- R5
  simp (disch := first | omega | (simp <;> omega) | fail) [wrap_i64, wrap_u64, wrap_u8']
  refine stepK.mk (.callTf _ _ _ _ _ rfl Ty.hb15 rfl rfl (hB a ha) rfl) ?_
  simp (disch := first | omega | (simp <;> omega) | fail) [wrap_i64, wrap_u64, wrap_u8']
  refine HT.seq ?_
  refine HT.region ?_   -- R6
  simp (disch := first | omega | (simp <;> omega) | fail) [wrap_i64, wrap_u64, wrap_u8']
  refine stepK.mk (.callTf _ _ _ _ _ rfl Ty.hb15 rfl rfl (hB b hb) rfl) ?_
  simp (disch := first | omega | (simp <;> omega) | fail) [wrap_i64, wrap_u64, wrap_u8']
  refine HT.seq ?_
  by_cases d1 : ¬ (buildV a).2 = 0
  · skip
    refine HT.draw [.batch [0, 1, 2, 3, 4, 5, 6, 7, 8, 9, 10, 11, 12, 13, 14, 15, 16, 17, 18, 19]] (by kernel_rfl) ?_   -- R7
    simp -dsimp (disch := first | omega | (simp <;> omega) | fail) [wrap_i64, wrap_u64, wrap_u8', d1]
    refine HT.ret ?_
    simp (disch := first | omega | (simp <;> omega) | fail) [wrap_i64, wrap_u64, wrap_u8']
  rw [Classical.not_not] at d1
  by_cases d2 : ¬ (buildV b).2 = 0
  · skip
    refine HT.draw [.batch [0, 1, 2, 3, 4, 5, 6, 7, 8, 9, 10, 11, 12, 13, 14, 15, 16, 17, 18, 19]] (by kernel_rfl) ?_   -- R7
    simp -dsimp (disch := first | omega | (simp <;> omega) | fail) [wrap_i64, wrap_u64, wrap_u8', d1, d2]
    refine HT.ret ?_
    simp (disch := first | omega | (simp <;> omega) | fail) [wrap_i64, wrap_u64, wrap_u8']
  rw [Classical.not_not] at d2
  have sa := hS a d1
  have sb := hS b d2
  have hun : unionR (buildV a).1.grams (buildV b).1.grams = unionV (buildV a).1.grams (buildV b).1.grams := by rw [build_seg d1, build_seg d2]; exact (unions (of_decide_eq_true c3)).symm
  refine HT.draw [.batch [0, 1, 2, 3, 4, 5, 6, 7, 8, 9, 10, 11, 12, 13, 14, 15, 16, 17, 18, 19]] (by kernel_rfl) ?_   -- R7
  simp -dsimp (disch := first | omega | (simp <;> omega) | fail) [wrap_i64, wrap_u64, wrap_u8', d1, d2]
  refine stepK.mk (.call1 _ _ _ rfl Ty.hb23 rfl rfl (Union_spec (buildV a).1.grams (buildV b).1.grams sa.1 sb.1 (fun p hp => (sa.2 p hp).1) (fun p hp => (sb.2 p hp).1))) ?_
  simp -dsimp (disch := first | omega | (simp <;> omega) | fail) [wrap_i64, wrap_u64, wrap_u8', d1, d2]
  refine stepK.mk (.call1 _ _ _ rfl Ty.hb24 rfl rfl (refUnion_spec (buildV a).1.grams (buildV b).1.grams sa.1 sb.1 (fun p hp => (sa.2 p hp).1) (fun p hp => (sb.2 p hp).1))) ?_
  simp -dsimp (disch := first | omega | (simp <;> omega) | fail) [wrap_i64, wrap_u64, wrap_u8', d1, d2, hun]
  refine stepK.mk (.call1 _ _ _ rfl Ty.hb22 rfl rfl (SamePostings_spec (unionV (buildV a).1.grams (buildV b).1.grams) (unionV (buildV a).1.grams (buildV b).1.grams) (by have := (hU a b d1 d2).1; omega) (fun p hp => ⟨by have := ((hU a b d1 d2).2 p hp).1; omega, fun g hg => by have := ((hU a b d1 d2).2 p hp).2 g hg; omega⟩))) ?_
  simp -dsimp (disch := first | omega | (simp <;> omega) | fail) [wrap_i64, wrap_u64, wrap_u8', d1, d2]
  refine HT.ret ?_
  simp (disch := first | omega | (simp <;> omega) | fail) [wrap_i64, wrap_u64, wrap_u8']
end Go.Hv
set_option linter.unusedVariables false
set_option linter.unusedSimpArgs false
namespace Go.Hv
open Go Go.Hv Go.Proofs Go.RowKit
open Go.Proofs.YthdljfognblpbaaGreatDoor
end Go.Hv
set_option linter.unusedVariables false
set_option linter.unusedSimpArgs false
/- The postings of documents, gathered code by code in the order in which they come. -/
namespace Go.Hv
def adK (l : List Int) (c : Int) : List Int := if c ∈ l then l else l ++ [c]
def fK (p : List (Int × Gram)) : List Int := p.foldl (fun a x => adK a x.1) []
def gat (p : List (Int × Gram)) (c : Int) : List Gram := (p.filter fun x => decide (x.1 = c)).map Prod.snd
theorem fK_snoc (p : List (Int × Gram)) (c : Int) (g : Gram) : fK (p ++ [(c, g)]) = adK (fK p) c := by simp [fK]
theorem gat_snoc (p : List (Int × Gram)) (c : Int) (g : Gram) (c' : Int) : gat (p ++ [(c, g)]) c' = gat p c' ++ (if c = c' then [g] else []) := by
  unfold gat
  rw [List.filter_append, List.map_append]
  congr 1
  by_cases h : c = c' <;> simp [h]
theorem adK_mem (l : List Int) (c x : Int) : x ∈ adK l c ↔ x ∈ l ∨ x = c := by
  unfold adK
  split
  · next h => exact ⟨.inl, fun h' => by rcases h' with h' | rfl; exact h'; exact h⟩
  · simp
theorem fK_mem (p : List (Int × Gram)) (c : Int) : c ∈ fK p ↔ ∃ x ∈ p, x.1 = c := by
  have : ∀ (p : List (Int × Gram)) (a : List Int), c ∈ p.foldl (fun a x => adK a x.1) a ↔ c ∈ a ∨ ∃ x ∈ p, x.1 = c := by
    intro p
    induction p with
    | nil => simp
    | cons x p ih =>
      intro a
      rw [List.foldl_cons, ih, adK_mem]
      simp [or_assoc, eq_comm]
  unfold fK; rw [this]; simp
theorem adK_nodup {l : List Int} (h : l.Nodup) (c : Int) : (adK l c).Nodup := by
  unfold adK
  split
  · exact h
  · next hc => rw [List.nodup_append]; exact ⟨h, by simp, fun a ha b hb => by simp at hb; subst hb; rintro rfl; exact hc ha⟩
theorem fK_nodup (p : List (Int × Gram)) : (fK p).Nodup := by
  have : ∀ (p : List (Int × Gram)) (a : List Int), a.Nodup → (p.foldl (fun a x => adK a x.1) a).Nodup := by
    intro p
    induction p with
    | nil => exact fun a h => h
    | cons x p ih => exact fun a h => ih _ (adK_nodup h _)
  exact this p [] (by simp)
theorem fK_length (p : List (Int × Gram)) : (fK p).length ≤ p.length := by
  have : ∀ (p : List (Int × Gram)) (a : List Int), (p.foldl (fun a x => adK a x.1) a).length ≤ a.length + p.length := by
    intro p
    induction p with
    | nil => exact fun a => Nat.le_refl _
    | cons x p ih =>
      intro a
      rw [List.foldl_cons]
      refine Nat.le_trans (ih _) ?_
      have : (adK a x.1).length ≤ a.length + 1 := by unfold adK; split <;> simp
      simp; omega
  have := this p []
  simpa [fK] using this
theorem gat_length (p : List (Int × Gram)) (c : Int) : (gat p c).length ≤ p.length := by
  unfold gat; rw [List.length_map]; exact List.length_filter_le _ _
theorem gat_none {p : List (Int × Gram)} {c : Int} (h : c ∉ fK p) : gat p c = [] := by
  unfold gat
  rw [List.filter_eq_nil_iff.2 (fun x hx => by
    intro h2
    exact h ((fK_mem p c).2 ⟨x, hx, of_decide_eq_true h2⟩))]
  rfl
def evsD (d : Doc) : List (Int × Gram) := (gramsV d.text).map fun g => (g.code, ⟨d.id, g.off⟩)
def evsL (l : List Doc) : List (Int × Gram) := l.flatMap evsD
theorem ofVlen (s : List UInt8) : (ofV s).length ≤ s.length := by have := ofK_length s (s.length - 2); unfold ofV; omega
theorem ofVnodup (s : List UInt8) : (ofV s).Nodup := (ofK_inc s _).imp fun h => by intro e; subst e; omega
theorem gat_append (a b : List (Int × Gram)) (c : Int) : gat (a ++ b) c = gat a c ++ gat b c := by simp [gat]
theorem filter_one {l : List Int} (hn : l.Nodup) (c : Int) : l.filter (fun x => decide (x = c)) = if c ∈ l then [c] else [] := by
  induction l with
  | nil => simp
  | cons x l ih =>
    rw [List.nodup_cons] at hn
    by_cases h : x = c
    · subst h
      rw [List.filter_cons_of_pos (by simp), ih hn.2, if_neg hn.1, if_pos (by simp)]
    · rw [List.filter_cons_of_neg (by simpa using h), ih hn.2]
      by_cases h2 : c ∈ l
      · rw [if_pos h2, if_pos (by simp [h2])]
      · rw [if_neg h2, if_neg (by simp [h2]; exact fun e => h e.symm)]
theorem gat_evsD (d : Doc) (c : Int) : gat (evsD d) c = if offV d.text c ≠ [] then [⟨d.id, offV d.text c⟩] else [] := by
  have e : evsD d = (ofV d.text).map fun c => (c, (⟨d.id, offV d.text c⟩ : Gram)) := by
    unfold evsD gramsV offV; rw [List.map_map]; rfl
  unfold gat
  rw [e, List.filter_map]
  have : ((fun x : Int × Gram => decide (x.1 = c)) ∘ fun c => (c, (⟨d.id, offV d.text c⟩ : Gram))) = fun x => decide (x = c) := rfl
  rw [this, filter_one (ofVnodup _), List.map_map]
  by_cases h : c ∈ ofV d.text
  · rw [if_pos h, if_pos ((offV_ne _ _).2 h)]; rfl
  · rw [if_neg h, if_neg (fun h' => h ((offV_ne _ _).1 h'))]; rfl
theorem gat_evsL (l : List Doc) (c : Int) : gat (evsL l) c = postV l c := by
  induction l with
  | nil => rfl
  | cons d l ih =>
    unfold evsL at ih ⊢
    rw [List.flatMap_cons, gat_append, ih, gat_evsD]
    unfold postV
    rw [List.map_cons]
    by_cases h : offV d.text c = []
    · rw [if_neg (by simpa using h), List.filter_cons_of_neg (by simpa using h)]; rfl
    · rw [if_pos h, List.filter_cons_of_pos (by simpa using h)]; rfl
theorem fK_codes (l : List Doc) : (fK (evsL l)).Perm (codesV l) := by
  refine (List.perm_ext_iff_of_nodup (fK_nodup _) ((codesV_inc l).imp fun h => by intro e; subst e; omega)).2 fun c => ?_
  rw [fK_mem, codesV_mem]
  constructor
  · rintro ⟨x, hx, rfl⟩
    obtain ⟨d, hd, hx⟩ := List.mem_flatMap.1 hx
    obtain ⟨g, hg, rfl⟩ := List.mem_map.1 hx
    obtain ⟨c, hc, rfl⟩ := List.mem_map.1 hg
    exact ⟨d, hd, hc⟩
  · rintro ⟨d, hd, hc⟩
    refine ⟨(c, ⟨d.id, offV d.text c⟩), List.mem_flatMap.2 ⟨d, hd, List.mem_map.2 ⟨⟨c, offV d.text c⟩, List.mem_map.2 ⟨c, hc, rfl⟩, rfl⟩⟩, rfl⟩
def pI (l : List Doc) (d : Doc) (k j : Nat) : List (Int × Gram) := evsL (l.take k) ++ (evsD d).take j
theorem pI_zero (l : List Doc) (d : Doc) (k : Nat) : pI l d k 0 = evsL (l.take k) := by simp [pI]
theorem evsD_length (d : Doc) : (evsD d).length = (gramsV d.text).length := by simp [evsD]
theorem pI_succ (l : List Doc) (d : Doc) (k : Nat) {j : Nat} (h : j < (gramsV d.text).length) : pI l d k (j + 1) = pI l d k j ++ [((gramsV d.text)[j].code, ⟨d.id, (gramsV d.text)[j].off⟩)] := by
  have h' : j < (evsD d).length := by rw [evsD_length]; exact h
  unfold pI
  rw [List.append_assoc, List.take_succ_eq_append_getElem h']
  simp [evsD]
theorem pI_end (l : List Doc) {k : Nat} (h : k < l.length) : pI l l[k] k (gramsV l[k].text).length = evsL (l.take (k + 1)) := by
  unfold pI
  rw [List.take_of_length_le (l := evsD l[k]) (by rw [evsD_length]; omega)]
  rw [List.take_succ_eq_append_getElem (i := k) h]
  unfold evsL
  rw [List.flatMap_append, List.flatMap_cons, List.flatMap_nil, List.append_nil]
theorem evsL_length {l : List Doc} (h : ∀ d ∈ l, d.text.length ≤ 2000) : (evsL l).length ≤ l.length * 2000 := by
  induction l with
  | nil => simp [evsL]
  | cons d l ih =>
    have := ih fun x hx => h x (by simp [hx])
    unfold evsL at this ⊢
    rw [List.flatMap_cons, List.length_append, evsD_length]
    have h1 := h d (by simp)
    have h2 : (gramsV d.text).length ≤ d.text.length := by unfold gramsV; rw [List.length_map]; exact Nat.le_trans (ofVlen _) (by omega)
    simp only [List.length_cons]; omega
theorem pI_length {l : List Doc} {d : Doc} (hd : d ∈ l) (h : ∀ d ∈ l, d.text.length ≤ 2000) (k j : Nat) : (pI l d k j).length ≤ l.length * 2000 + 2000 := by
  unfold pI
  rw [List.length_append]
  have h1 := evsL_length (l := l.take k) fun x hx => h x (List.mem_of_mem_take hx)
  have h2 : (gramsV d.text).length ≤ d.text.length := by unfold gramsV; rw [List.length_map]; exact Nat.le_trans (ofVlen _) (by omega)
  have h3 : ((evsD d).take j).length ≤ (gramsV d.text).length := by rw [List.length_take, evsD_length]; omega
  have h4 := h d hd
  have : (l.take k).length ≤ l.length := by rw [List.length_take]; omega
  have := Nat.mul_le_mul_right 2000 this
  omega
end Go.Hv
