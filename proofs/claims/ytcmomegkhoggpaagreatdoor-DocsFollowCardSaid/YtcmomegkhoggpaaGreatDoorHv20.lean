import Derived.Test.YtcmomegkhoggpaaGreatDoorHv19
import Derived.ProofKit
import Derived.OpenShut
import Derived.ShutString
import Derived.ChangeOld
import Derived.Below
import Derived.SizedLaws
set_option linter.unusedVariables false
set_option linter.unusedSectionVars false
set_option linter.unusedSimpArgs false
namespace Go.Hv
open Go Go.RowKit
variable [GI]
@[reducible] def GI.none : GI := ⟨fun _ => True, fun _ => False, fun _ _ _ h => h.elim, fun _ _ _ _ h => h⟩
@[reducible] def GI.int0 : GI where
 G w := ∃ m, w.cell? ⟨0, 0, .none⟩ = some (.int .i64 m)
 foot b := b = 0
 lt w b h hb := by
  subst hb
  obtain ⟨m, hm⟩ := h
  rcases Nat.lt_or_ge 0 w.heap.size with h' | h'
  ·exact h'
  ·simp [World.cell?, Array.getElem?_eq_none h'] at hm
 mono w w' _ hb h := by
  obtain ⟨m, hm⟩ := h
  refine ⟨m, ?_⟩
  have e := hb 0 rfl
  simp only [World.cell?] at hm ⊢
  rw [e]; exact hm
theorem Spec1.calls {P : Program} {f : FuncId} {args : List HV} {h : HV} (s : Spec1 P f args h) (w : World) (hG : GI.G w) (vs : Array Value) (hn : vs.size = args.length)
  (hrep : ∀ (j : Nat) (c : HV) (v : Value), args[j]? = some c → vs[j]? = some v → IRep w (fun _ => False) c v) :
  Calls P f vs w fun e w' => ∃ v, e = .returned v ∧ Below w.heap.size w w' ∧ IRep w' (fun _ => False) h v :=
 (s (fun _ => False) w vs (fun b h => h.elim) hG hn hrep).mono fun e w' ⟨v, h1, h2, h3⟩ => ⟨v, h1, h2.below, h3⟩
theorem irep_string (w : World) (dead : Nat → Prop) (s : ByteArray) : IRep w dead (.str s.data.toList) (.string s) := by
 have := IRep.str (w := w) (dead := dead) s.data.toList
 simpa using this
inductive Reps (w : World) (dead : Nat → Prop) : List HV → List Value → Prop
 | nil : Reps w dead [] []
 | cons {h : HV} {v : Value} {hs : List HV} {vs : List Value} (h1 : IRep w dead h v) (h2 : Reps w dead hs vs) : Reps w dead (h :: hs) (v :: vs)
theorem reps_list {w : World} {dead : Nat → Prop} {hs : List HV} {vs : List Value} (h : Reps w dead hs vs) : ∀ (j : Nat) (c : HV) (v : Value), hs[j]? = some c → vs.toArray[j]? = some v → IRep w dead c v := by
 induction h with
 | nil => intro j c v h; simp at h
 | cons h1 h2 ih =>
  intro j c v hc hv
  cases j with
  | zero => simp at hc hv; subst hc; subst hv; exact h1
  | succ j => exact ih j c v (by simpa using hc) (by simpa using hv)
end Go.Hv
