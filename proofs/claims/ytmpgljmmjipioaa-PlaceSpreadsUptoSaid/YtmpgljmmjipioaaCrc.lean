import Derived.Test.YtmpgljmmjipioaaHv19
set_option linter.unusedVariables false
set_option linter.unusedSimpArgs false
namespace Go.Hv
open Go
/-! ### The register's step -/
def step1 (x : BitVec 32) : BitVec 32 := if x.getLsbD 0 then (x >>> 1) ^^^ 2197175160#32 else x >>> 1
def stepN : Nat → BitVec 32 → BitVec 32
  | 0, x => x
  | n + 1, x => step1 (stepN n x)
theorem and1 (x : BitVec 32) : (((x &&& 1#32).toNat : Int) = 1) ↔ x.getLsbD 0 = true := by
  rw [BitVec.toNat_and, BitVec.getLsbD, Nat.testBit_zero, show (1#32).toNat = 1 from rfl, Nat.and_one_is_mod]
  simp
  omega

theorem stepN_add (a b : Nat) (x : BitVec 32) : stepN (a + b) x = stepN a (stepN b x) := by
  induction a with
  | zero => simp [stepN]
  | succ a ih => rw [show a + 1 + b = (a + b) + 1 by omega]; simp [stepN, ih]
theorem stepN_comm (n : Nat) (x : BitVec 32) : stepN n (step1 x) = step1 (stepN n x) := by
  rw [show step1 x = stepN 1 x from rfl, ← stepN_add, show n + 1 = 1 + n by omega, stepN_add]; rfl
theorem step1_xor (x y : BitVec 32) : step1 (x ^^^ y) = step1 x ^^^ step1 y := by
  unfold step1
  rw [BitVec.getLsbD_xor]
  have e : (x ^^^ y) >>> 1 = (x >>> 1) ^^^ (y >>> 1) := by
    apply BitVec.eq_of_getLsbD_eq; intro i hi; simp
  rw [e]
  have d : (2197175160#32) ^^^ 2197175160#32 = 0#32 := by simp
  cases x.getLsbD 0 <;> cases y.getLsbD 0 <;> simp only [Bool.xor_true, Bool.xor_false, Bool.false_eq_true, if_true, if_false, Bool.not_true, Bool.not_false]
  · rw [BitVec.xor_assoc]
  · rw [BitVec.xor_assoc, BitVec.xor_assoc, BitVec.xor_comm 2197175160#32]
  · apply BitVec.eq_of_getLsbD_eq; intro i hi
    simp only [BitVec.getLsbD_xor]
    cases (x >>> 1).getLsbD i <;> cases (y >>> 1).getLsbD i <;> cases (2197175160#32).getLsbD i <;> rfl
theorem stepN_xor (n : Nat) (x y : BitVec 32) : stepN n (x ^^^ y) = stepN n x ^^^ stepN n y := by
  induction n with
  | zero => rfl
  | succ n ih => simp only [stepN, ih, step1_xor]
theorem step1_even {x : BitVec 32} (h : x.getLsbD 0 = false) : step1 x = x >>> 1 := by unfold step1; rw [h]; rfl
theorem stepN_low (n : Nat) : ∀ {x : BitVec 32}, (∀ i, i < n → x.getLsbD i = false) → stepN n x = x >>> n := by
  induction n with
  | zero => intro x h; simp [stepN]
  | succ n ih =>
    intro x h
    rw [stepN, ih (fun i hi => h i (by omega)), step1_even (by simp [h n (by omega)])]
    apply BitVec.eq_of_getLsbD_eq; intro i hi; simp [Nat.add_assoc]
theorem stepN_nibble (x : BitVec 32) : stepN 4 x = (x >>> 4) ^^^ stepN 4 (x &&& 15#32) := by
  have e : x = (x &&& ~~~ 15#32) ^^^ (x &&& 15#32) := by
    apply BitVec.eq_of_getLsbD_eq; intro i hi
    simp only [BitVec.getLsbD_xor, BitVec.getLsbD_and, BitVec.getLsbD_not]
    cases x.getLsbD i <;> cases (15#32).getLsbD i <;> simp [hi]
  conv => lhs; rw [e]
  rw [stepN_xor, stepN_low 4 (x := x &&& ~~~ 15#32)]
  · congr 1
    apply BitVec.eq_of_getLsbD_eq; intro i hi
    simp only [BitVec.getLsbD_ushiftRight, BitVec.getLsbD_and, BitVec.getLsbD_not]
    have : (15#32).getLsbD (4 + i) = false := by
      have : ∀ j, j < 32 → (15#32).getLsbD (4 + j) = false := by decide
      exact this i hi
    rw [this]
    rcases Nat.lt_or_ge (4 + i) 32 with h | h
    · simp [h]
    · simp [h, BitVec.getLsbD_of_ge x (4 + i) h]
  · intro i hi
    simp only [BitVec.getLsbD_and, BitVec.getLsbD_not]
    have : ∀ j, j < 4 → (15#32).getLsbD j = true := by decide
    simp [this i hi]

/-- One byte into the register. -/
def takeV (r : BitVec 32) (c : UInt8) : BitVec 32 := stepN 8 (r ^^^ BitVec.ofNat 32 c.toNat)
def extendV (r : BitVec 32) (l : List UInt8) : BitVec 32 := ~~~ l.foldl takeV (~~~ r)
def sumV (l : List UInt8) : BitVec 32 := extendV 0#32 l
theorem takeV_two (r : BitVec 32) (c : UInt8) : takeV r c = (((r ^^^ BitVec.ofNat 32 c.toNat) >>> 4 ^^^ stepN 4 ((r ^^^ BitVec.ofNat 32 c.toNat) &&& 15#32)) >>> 4) ^^^
    stepN 4 (((r ^^^ BitVec.ofNat 32 c.toNat) >>> 4 ^^^ stepN 4 ((r ^^^ BitVec.ofNat 32 c.toNat) &&& 15#32)) &&& 15#32) := by
  unfold takeV
  rw [show (8 : Nat) = 4 + 4 from rfl, stepN_add, stepN_nibble (stepN 4 _), stepN_nibble]
end Go.Hv
