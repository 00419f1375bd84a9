import Derived.Test.YtmpgljmmjipioaaLawMoved
import Derived.Test.YtmpgljmmjipioaaHv28
set_option linter.unusedVariables false
set_option linter.unusedSimpArgs false
namespace Go.Hv
open Go Go.Hv Go.Proofs
open Go.Proofs.Ytmpgljmmjipioaa
theorem docsHV_append (a b : List Doc) : docsHV (a ++ b) = docsHV a ++ docsHV b := by simp [docsHV]
theorem docsHV_cons (a : Doc) (b : List Doc) : docsHV (a :: b) = a.enc :: docsHV b := rfl
@[simp] theorem docsHV_nil : docsHV [] = [] := rfl
theorem refs1_get {B n k : Nat} (h : k < n) : (refs B 1 n)[k]? = some [.ref (B + k)] := by
  unfold refs; rw [List.getElem?_map, List.getElem?_range h]; simp
@[simp] theorem refs1_getElem {B n k : Nat} (h : k < (refs B 1 n).length) : (refs B 1 n)[k] = [.ref (B + k)] := by simp [refs]
theorem refs1_sub {B n k : Nat} (h : k < n) : subLL (B + k) .any .any (refs B 1 n) = (refs B 1 n).set k [.any] := by
  rw [subLL_refs (by omega) (by decide)]
  have : (refs B 1 n).getD k [] = [.ref (B + k)] := by rw [List.getD_eq_getElem?_getD, refs1_get h]; rfl
  simp only [Nat.div_one, Nat.mod_one, this]
  rfl
theorem refs1_back {B n k : Nat} (h : k < n) : (refs B 1 n).set k [.ref (B + k)] = refs B 1 n := by
  apply List.ext_getElem?
  intro i
  rw [List.getElem?_set]
  split
  · next e => subst e; rw [if_pos (by simpa using h), refs1_get h]
  · rfl
/-- The documents of a shard. -/
def partV (l : List Doc) (n : Int) (i : Nat) : List Doc := l.filter fun d => decide (ofV d.repo d.path n = (i : Int))
theorem partV_succ {l : List Doc} {k : Nat} (h : k < l.length) (n : Int) (i : Nat) : partV (l.take (k + 1)) n i = partV (l.take k) n i ++ (if ofV l[k].repo l[k].path n = (i : Int) then [l[k]] else []) := by
  rw [List.take_succ_eq_append_getElem h]
  unfold partV
  rw [List.filter_append]
  congr 1
  by_cases e : ofV l[k].repo l[k].path n = (i : Int) <;> simp [e]
theorem partV_length (l : List Doc) (n : Int) (i : Nat) : (partV l n i).length ≤ l.length := List.length_filter_le _ _
theorem ofV_range (r p : List UInt8) {n : Nat} (h : 1 ≤ n) : ∃ k : Nat, ofV r p n = (k : Int) ∧ k < n := by
  obtain ⟨h1, h2, _⟩ := ofV_next r p (n := n) (by omega)
  exact ⟨(ofV r p n).toNat, by omega, by omega⟩
def spreadH (l : List Doc) (n : Nat) : HV := .sl 1 false (frzs 1 n fun i => (5, docsHV (partV l n i)))
theorem f13_spec (full : Bool) (l : List Doc) (n : Nat) (hl : l.length ≤ 1048576) (hs : Short l) (h1 : 1 ≤ n) (h4 : n ≤ 4) : Spec1 Try.prog 13 [.sl 5 full (docsHV l), i64 n] (spreadH l n) := by
  refine Spec1.of_HT Try.func13 rfl (by rw [Try.ntmps13]; simp) rfl ?_
  rw [Try.ntmps13]
  refine HT.seq ?_
  refine HT.region ?_   -- R0
  simp
  refine HT.seq ?_
  refine HT.seq ?_
  refine HT.region ?_   -- R1
  simp [show ¬ (n : Int) < 1 by omega, show ¬ 4 < (n : Int) by omega]
  refine HT.cond' ?_
  simp
  refine HT.skip ?_
  simp
  refine HT.seq ?_
  refine HT.region ?_   -- R3
  simp [show 24 * (n : Int) ≤ 281474976710656 by omega, show (n : Int) ≤ 9223372036854775807 by omega]
  refine HT.seq ?_
  refine HT.seq ?_
  refine HT.region ?_   -- R4
  simp
  refine HT.block ?_
  refine HT.loop (fun k : {k : Nat // k ≤ l.length} => ⟨[.s 1 (i64 n), .s 5 (.ref 16), .s 17 (.sl 5 full (docsHV l)), .s 18 (i64 l.length), .s 19 (i64 k), .o 16 (.row 27 1 (refs 1000 1 n)),
      .os (fam 1000 n fun i => .row 48 5 (docsHV (partV (l.take k) n i)))], 41⟩) (fun k => l.length - k) ⟨0, by omega⟩
    (HS.le.trans (HS.le_fits (M := [.s 1 (i64 n), .s 5 (.ref 16), .s 17 (.sl 5 full (docsHV l)), .s 18 (i64 l.length), .s 19 (i64 0), .o 16 (.row 27 1 (List.replicate n [.sl 0 true []]))]) ?_)
      (HS.le.trans (HS.le_rows (id := 16) (e := 27) (sz := 1) (es := List.replicate n [.sl 0 true []]) 1000 (fun _ => (48, 5)) ?_ ?_ ?_ (fun _ => by decide)) (HS.le_fits ?_))) ?_
  · simp
  · simp [evB, lowR, belowO, lowRL]
  · simp
  · intro x hx c hc
    obtain ⟨_, rfl⟩ := List.mem_replicate.1 hx
    simp at hc
    exact ⟨0, hc⟩
  · simp [partV]
    intro id o h
    simp only [fam, Option.ite_none_right_eq_some, Option.some.injEq] at h
    obtain ⟨h, rfl⟩ := h
    simp [fam, h, show ¬ 16 = id by omega]
  rintro ⟨k, hk⟩
  refine HT.seq ?_
  refine HT.region ?_   -- R5
  simp
  refine HT.seq ?_
  refine HT.cond' ?_
  simp
  constructor
  · intro h
    have hk' : k < l.length := by omega
    have hsk := hs _ (List.getElem_mem hk')
    obtain ⟨q, hq, hqn⟩ := ofV_range l[k].repo l[k].path h1
    have b1 : ∀ N, 4000000 ≤ N → (partV (l.take k) n q).length ≤ N := fun N h => by have := partV_length (l.take k) n q; simp at this; omega
    have b2 : ∀ N, 4000000 ≤ N → (partV (l.take k) n q).length + 1 ≤ N := fun N h => by have := partV_length (l.take k) n q; simp at this; omega
    have b3 : ∀ N, 400000000 ≤ N → ((partV (l.take k) n q).length + 1) * 80 ≤ N := fun N h => by have := partV_length (l.take k) n q; simp at this; omega
    refine HT.skip ?_
    simp
    refine HT.seq ?_
    refine HT.block ?_
    refine HT.seq ?_
    refine HT.region ?_   -- R6
    simp [h, hk']
    refine HT.seq ?_
    refine HT.region ?_   -- R7 calls [11]
    simp
    refine ⟨_, .call1 _ _ _ _ rfl Ty.hb11 rfl (f11_spec _ _ n hsk.1 hsk.2 (by omega)) rfl rfl, ?_⟩
    simp [hq]
    refine HT.draw [.take 0, .take 1, .take 2, .take 3, .batch [4, 5, 6, 7], .one 8, .batch [9], .one 10] (by kernel_rfl) ?_   -- R8
    simp [hqn, Nat.mod_one, refs1_get hqn, refs1_sub hqn, refs1_back hqn, show (q : Int) < (n : Int) by omega, fam, b1, b2, b3, show ∀ m, m < 1000 → ¬ m = 1000 + q by intro m h; omega, show ∀ m, m < 1000 → ¬ 1000 + q = m by intro m h; omega]
    refine HT.region ?_   -- R9
    simp
    refine ⟨k + 1, by omega, by omega, HS.le_fits ?_⟩
    simp [show ∀ m, m < 1000 → ¬ 1000 + q = m by intro m h; omega, show ∀ m, m < 1000 → ¬ m = 1000 + q by intro m h; omega, refs1_sub hqn, refs1_back hqn]
    refine ⟨?_, fun id o h => ?_⟩
    · rw [wrap_i64] <;> omega
    · simp only [fam, Option.ite_none_right_eq_some, Option.some.injEq] at h
      obtain ⟨h, rfl⟩ := h
      obtain ⟨m, rfl⟩ : ∃ m, id = 1000 + m := ⟨id - 1000, by omega⟩
      rw [partV_succ hk']
      by_cases e : q = m
      · subst e
        simp [hq, docsHV_append, docsHV_cons]
        omega
      · have e2 : ¬ (q : Int) = (m : Int) := by omega
        simp [hq, e, e2, fam, show ∀ p, p < 1000 → ¬ p = 1000 + m by intro m h; omega, show ∀ p, p < 1000 → ¬ 1000 + m = p by intro m h; omega, show m < n by omega]
  · intro h
    obtain rfl : k = l.length := by omega
    refine HT.exit ?_
    simp
    refine HT.weaken (HS.le.trans (HS.le_frz (id := 16) (e := 27) (sz := 1) (m := n) 1000 (fun i => (5, docsHV (partV l n i))) ?_ (by decide) ?_) (HS.le_fits (M := [.s 5 (.ref 16), .o 16 (.row 27 1 (frzs 1 n fun i => (5, docsHV (partV l n i))))]) ?_)) ?_
    · simp
    · intro k hk
      refine ⟨48, ?_, by simp⟩
      simp [fam, show ¬ 16 = 1000 + k by omega, show k < n by omega]
    · simp
    refine HT.seq ?_
    refine HT.region ?_   -- R10
    simp
    refine HT.ret ?_
    simp [spreadH]
end Go.Hv
