import Derived.Test.YtcmomegkhoggpaaGreatDoorHv28
set_option linter.unusedVariables false
set_option linter.unusedSectionVars false
set_option linter.unusedSimpArgs false
/- Rules for walks that a program prints: loops and joins that keep what they do not turn. -/
namespace Go.Hv
open Go Go.RowKit
variable [GI]
def keepS (L : List Ev) : List Nat → List Ev
 | [] => []
 | t :: r => .s t (get L t) :: keepS L r
def keepO (L : List Ev) : List Nat → List Ev
 | [] => []
 | t :: r => .o t (getO L t) :: keepO L r
attribute [simp] keepS keepO
theorem fits_keepS (L : List Ev) : ∀ ts, fits L (keepS L ts)
 | [] => trivial
 | t :: r => ⟨rfl, fits_keepS L r⟩
theorem fits_keepO (L : List Ev) : ∀ ts, fits L (keepO L ts)
 | [] => trivial
 | t :: r => ⟨rfl, fits_keepO L r⟩
theorem fits_append (L : List Ev) : ∀ A B, fits L A → fits L B → fits L (A ++ B)
 | [], B, _, h => h
 | .s k h :: r, B, hA, hB => ⟨hA.1, fits_append L r B hA.2 hB⟩
 | .o k x :: r, B, hA, hB => ⟨hA.1, fits_append L r B hA.2 hB⟩
 | .os g :: r, B, hA, hB => ⟨hA.1, fits_append L r B hA.2 hB⟩
 | .sub _ _ _ :: _, _, hA, _ => hA.elim
theorem fits_keep {L M : List Ev} (ts os : List Nat) (h : fits L M) : fits L (M ++ (keepS L ts ++ keepO L os)) :=
 fits_append L _ _ h (fits_append L _ _ (fits_keepS L ts) (fits_keepO L os))
structure Round {ι : Type} (μ : ι → Nat) (x : ι) (I : ι → HS) (σ : HS) : Prop where
 out : ∃ y, μ y < μ x ∧ σ.le (I y)
theorem Round.mk' {ι : Type} {μ : ι → Nat} {x : ι} {I : ι → HS} {L : List Ev} {n : Nat} (y : ι) (h : μ y < μ x) (hn : (I y).n = n) (hf : fits L (I y).log) : Round μ x I ⟨L, n⟩ := by
 refine ⟨y, h, ?_⟩
 have := HS.le_fits (n := n) hf
 rw [← hn] at this ⊢
 exact this
theorem HT.loopK {P : Program} {c : Code} {L : List Ev} {n : Nat} {Q : Exit → HS → Prop} {ι : Type} (M : ι → List Ev) (ts os : List Nat) (μ : ι → Nat) (x₀ : ι) (h₀ : fits L (M x₀))
  (round : ∀ x, HT P c ⟨M x ++ (keepS L ts ++ keepO L os), n⟩ (Exit.seqH (Round μ x (fun y => ⟨M y ++ (keepS L ts ++ keepO L os), n⟩)) Q)) : HT P (.loop c) ⟨L, n⟩ Q :=
 HT.loop (fun x => ⟨M x ++ (keepS L ts ++ keepO L os), n⟩) μ x₀ (HS.le_fits (fits_keep ts os h₀)) fun x => (round x).mono fun e σ' q => by
  cases e with
  | normal => exact Round.out q
  | _ => exact q
theorem HT.joinK {P : Program} {x y : Code} {L : List Ev} {n : Nat} {Q : Exit → HS → Prop} (M : List Ev) (ts os : List Nat) (h : HT P x ⟨L, n⟩ (Exit.joinH (M ++ (keepS L ts ++ keepO L os)) n Q)) (k : HT P y ⟨M ++ (keepS L ts ++ keepO L os), n⟩ Q) : HT P (.seq x y) ⟨L, n⟩ Q :=
 HT.join _ h k
structure Pick {ι : Type} (I : ι → HS) (σ : HS) : Prop where
 out : ∃ i, σ.le (I i)
theorem Pick.mk' {ι : Type} {I : ι → HS} {L : List Ev} {n : Nat} (i : ι) (hn : (I i).n = n) (hf : fits L (I i).log) : Pick I ⟨L, n⟩ := by
 refine ⟨i, ?_⟩
 have := HS.le_fits (n := n) hf
 rw [← hn] at this ⊢
 exact this
def Exit.joinE {ι : Type} (M : ι → List Ev) (n : Nat) (Q : Exit → HS → Prop) : Exit → HS → Prop
 | .normal, σ => Pick (fun i => ⟨M i, n⟩) σ
 | e, σ => Q e σ
@[simp] theorem joinE_normal {ι : Type} (M : ι → List Ev) (n : Nat) (Q : Exit → HS → Prop) (σ : HS) : Exit.joinE M n Q .normal σ = Pick (fun i => ⟨M i, n⟩) σ := rfl
@[simp] theorem joinE_ret {ι : Type} (M : ι → List Ev) (n : Nat) (Q : Exit → HS → Prop) (σ : HS) : Exit.joinE M n Q .ret σ = Q .ret σ := rfl
@[simp] theorem joinE_exit {ι : Type} (M : ι → List Ev) (n i : Nat) (Q : Exit → HS → Prop) (σ : HS) : Exit.joinE M n Q (.exit i) σ = Q (.exit i) σ := rfl
theorem HT.joinX {P : Program} {x y : Code} {L : List Ev} {n : Nat} {Q : Exit → HS → Prop} {ι : Type} (M : ι → List Ev) (ts os : List Nat) (h : HT P x ⟨L, n⟩ (Exit.joinE (fun i => M i ++ (keepS L ts ++ keepO L os)) n Q))
  (k : ∀ i, HT P y ⟨M i ++ (keepS L ts ++ keepO L os), n⟩ Q) : HT P (.seq x y) ⟨L, n⟩ Q :=
 HT.seq (h.mono fun e σ' q => by
  cases e with
  | normal => obtain ⟨i, hi⟩ := q.out; exact (k i).weaken hi
  | _ => exact q)
theorem dT {p : Prop} [Decidable p] (h : p) : decide p = true := decide_eq_true h
theorem dF {p : Prop} [Decidable p] (h : ¬ p) : decide p = false := decide_eq_false h
theorem iT {α : Type} {p : Prop} [Decidable p] {a b : α} (h : p) : (if p then a else b) = a := if_pos h
theorem iF {α : Type} {p : Prop} [Decidable p] {a b : α} (h : ¬ p) : (if p then a else b) = b := if_neg h
attribute [simp low] dT dF iT iF
theorem map_toArr {α β : Type} (f : α → β) (l : List α) : List.map f (List.toArray l).toList = List.map f l := rfl
attribute [simp ↓] map_toArr List.map_cons List.map_nil
theorem wrap_u64 {n : Int} (h1 : 0 ≤ n) (h2 : n < 18446744073709551616) : IntKind.wrap .u64 n = n := by
 simp [IntKind.wrap, IntKind.bits, IntKind.signed]
 omega
@[simp] theorem cells_nilFunc : Value.nilFunc.cells = #[Value.nilFunc] := rfl
theorem wrap_u8' {n : Int} (h1 : 0 ≤ n) (h2 : n < 256) : IntKind.wrap .u8 n = n := by
 simp [IntKind.wrap, IntKind.bits, IntKind.signed]
 omega
theorem wr3 : (∀ {n : Int}, -9223372036854775808 ≤ n → n < 9223372036854775808 → IntKind.wrap .i64 n = n) ∧ (∀ {n : Int}, 0 ≤ n → n < 18446744073709551616 → IntKind.wrap .u64 n = n) ∧ (∀ {n : Int}, 0 ≤ n → n < 256 → IntKind.wrap .u8 n = n) := ⟨wrap_i64, wrap_u64, wrap_u8'⟩
end Go.Hv
