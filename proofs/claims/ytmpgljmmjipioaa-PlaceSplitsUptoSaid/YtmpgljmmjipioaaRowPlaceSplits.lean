/- PlaceSplits: the law returns true for every input of bulk at most 1048576 (the second form); what it was handed reads as it did. No other condition. -/
import Derived.Test.YtmpgljmmjipioaaPlaceSplitsW1
import Derived.JoinedCond
import Derived.Test.YtmpgljmmjipioaaRows
namespace Go.Proofs.Ytmpgljmmjipioaa.placeSplits
open Go Go.Hv Go.ChangeShapes Go.WideShapes Go.ChangeAt Go.RowKit
open Go.ChangeMaps (open_string shut_string)
set_option linter.unusedVariables false
set_option linter.unusedSimpArgs false
theorem own : ownKnob Try.prog.godebug = none := by kernel_rfl
theorem laidOut : laidOutB Try.prog = true := by kernel_rfl
mutual
theorem bulk_le {H : Type} (d : DataW H) : bulkD d ≤ Rows.uptoBulk d := by
  cases d with
  | lit l => cases l <;> simp [bulkD, Rows.uptoBulk]
  | nil => simp [bulkD, Rows.uptoBulk]
  | ptr d => have := bulk_le d; simp only [bulkD, Rows.uptoBulk]; omega
  | slice elems spare => have := bulks_le elems; have := bulks_le spare; simp only [bulkD, Rows.uptoBulk]; omega
  | agg parts => have := bulks_le parts; simp only [bulkD, Rows.uptoBulk]; omega
  | iface t d => have := bulk_le d; simp only [bulkD, Rows.uptoBulk]; omega
  | map entries => simp [bulkD, Rows.uptoBulk]
  | held h => simp [bulkD, Rows.uptoBulk]
  termination_by structural d
theorem bulks_le {H : Type} (l : List (DataW H)) : bulkA l ≤ Rows.uptoBulkAll l := by
  cases l with
  | nil => simp [bulkA, Rows.uptoBulkAll]
  | cons d r => have := bulk_le d; have := bulks_le r; simp only [bulkA, Rows.uptoBulkAll]; omega
  termination_by structural l
end
theorem contract (H : Type) (enc : TypeId × Value → H) (W : World) (base : Nat) (args : Array Value) (ds gs : List (DataW H)) (before : List MemPlace)
    (hval : ∀ (j : Nat) t v, Try.f5.params[j]? = some t → args[j]? = some v → Value.okWide Try.prog W .any base t v)
    (hW : DataW.Whole enc Try.prog Try.f5.params.toList Rows.placeSplitsSpec.vars false W args.toList ds gs before) (hk : Rows.uptoSmall H (ds ++ gs) = true) :
    Calls Try.prog 5 args W fun e W' => ∃ v, e = .returned v ∧ Rows.placeSplitsSpec.post enc Try.prog Try.f5 false true false false W args v W' := by
  have hW' := hW
  obtain ⟨p, q, hA0, hV, rfl, hfz, hnd⟩ := hW
  have hA : DataW.TrodAll enc Try.prog W 0 (fun _ => true) true Try.f5.params.toList args.toList ds p := hA0
  rw [Try.params5] at hA hval
  obtain ⟨v0, vs0, d0, ds0, p0, q0, hargs, rfl, rfl, h0, r0⟩ := trodAll_cons hA
  obtain ⟨v1, vs1, d1, ds1, p1, q1, rfl, rfl, rfl, h1, r1⟩ := trodAll_cons r0
  obtain ⟨v2, vs2, d2, ds2, p2, q2, rfl, rfl, rfl, h2, r2⟩ := trodAll_cons r1
  obtain ⟨rfl, rfl, rfl⟩ := trodAll_nil r2
  obtain rfl : args = #[v0, v1, v2] := by cases args; simp_all
  obtain ⟨rfl, rfl⟩ := trodVars_none hV
  have hk' : Rows.uptoBulkAll ([d0, d1, d2] ++ []) ≤ 1048576 := of_decide_eq_true hk
  simp only [List.append_nil, Rows.uptoBulkAll] at hk'
  obtain ⟨ad0, ln0, cp0, rfl⟩ := okWide_slice Try.underlying27 (hval 0 27 v0 rfl rfl)
  have k0 := h0
  have lt0 : ∀ x ∈ p0, x.block < W.heap.size := by obtain ⟨m, hm⟩ := k0; exact DataW.trod_lt m _ _ _ hm
  have b0 : bulkD d0 ≤ 1048576 := by have := bulk_le d0; omega
  obtain ⟨full0, a0, e0, g0⟩ := docs_of_trod (by kernel_rfl) h0 b0
  obtain ⟨vs1', rfl⟩ : ∃ vs, v1 = .agg vs := by have := (hval 1 34 v1 rfl rfl); simp only [Value.okWide, Try.underlying34] at this; obtain ⟨cs, h, _⟩ := this; exact ⟨cs, h⟩
  have k1 := h1
  have lt1 : ∀ x ∈ p1, x.block < W.heap.size := by obtain ⟨m, hm⟩ := k1; exact DataW.trod_lt m _ _ _ hm
  have b1 : bulkD d1 ≤ 1048576 := by have := bulk_le d1; omega
  obtain ⟨full1, a1, e1, g1⟩ := delta_of_trod (by kernel_rfl) h1 b1
  obtain ⟨a2, rfl, rfl, rfl, w2⟩ := open_int Try.underlying3 (hval 2 3 v2 rfl rfl) h2
  refine (Spec1.calls (splits_row full0 a0 full1 a1 a2 g0 g1) W #[_, _, _] rfl (reps_list (.cons e0 (.cons e1 (.cons (.lit _) .nil))))).mono fun e W' ⟨u, he, bel, hI⟩ => ?_
  subst he
  cases hI
  exact ⟨_, rfl, _, _, _, [], _, [], hW', trodAll_mk1 (shut_bool Try.underlying4 _), (trodAll_cons_mk (Below.trod laidOut (by kernel_rfl) (of_decide_eq_true (by kernel_rfl)) k0 bel lt0) (trodAll_cons_mk (Below.trod laidOut (by kernel_rfl) (of_decide_eq_true (by kernel_rfl)) k1 bel lt1) (trodAll_cons_mk (shut_int Try.underlying3 w2) trodAll_mk0))), rfl, bel.frame _, fun h => by cases h⟩
set_option maxRecDepth 100000 in
theorem lifted (os : Os) (started : os.Started) (H : Type) (enc : TypeId × Value → H) (F : Stop.Interp) :
    ReturnsInHanded {} Try.checked os 5 .any ((Rows.OpenSpec.upto Rows.placeSplitsSpec).pre6 enc Try.prog Try.f5 Rows.placeSplitsUptoRow.domain false) (((Rows.OpenSpec.upto Rows.placeSplitsSpec).at F).post enc Try.prog Try.f5 false true false false) := by
  refine returnsInHanded_of_cond (C := Try.checked) (s := Rows.OpenSpec.upto Rows.placeSplitsSpec) (k := Rows.uptoSmall) rfl own started (by kernel_rfl) Try.func5
    (OpenSpec.witness (enc := enc) (C := Try.checked) (s := Rows.OpenSpec.upto Rows.placeSplitsSpec) (k := Rows.uptoSmall) rfl false ⟨#[], #[.slice none 0 0, .agg #[.slice none 0 0, .slice none 0 0, .slice none 0 0], .int .i64 0], []⟩ 8 (by kernel_rfl) (by kernel_rfl) (by kernel_rfl)
      (x := ([.nil, .agg [.nil, .nil, .nil], .lit (.int .i64 0)], [], [])) (by kernel_rfl) rfl (by kernel_rfl)) ?_
  intro W base args ds gs before hval hW _ hk _
  exact contract H enc W base args ds gs before hval hW hk
theorem proved : Rows.PlaceSplitsUptoSaid :=
  OpenClaim.holds_of_cond 5 Try.f5 rfl rfl rfl rfl rfl rfl rfl ⟨rfl, rfl, rfl, rfl, rfl⟩ rfl rfl rfl rfl rfl (by kernel_rfl) Try.func5 (by kernel_rfl)
    (of_decide_eq_true (by kernel_rfl)) (by unfold Func.isWrapper; first | (rw [if_pos (by decide +kernel)]; kernel_rfl) | (rw [if_neg (by decide +kernel)]; exact ⟨rfl, rfl⟩))
    (fun os started H enc _ F => lifted os started H enc F)
#print axioms proved
end Go.Proofs.Ytmpgljmmjipioaa.placeSplits
namespace Go.Proofs.Ytmpgljmmjipioaa
theorem placeSplitsUpto_holds : Rows.PlaceSplitsUptoSaid := placeSplits.proved
end Go.Proofs.Ytmpgljmmjipioaa
