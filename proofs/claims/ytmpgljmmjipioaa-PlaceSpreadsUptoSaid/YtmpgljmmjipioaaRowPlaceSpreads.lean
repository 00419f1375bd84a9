/- PlaceSpreads: the law returns true for every input of bulk at most 1048576 (the second form); what it was handed reads as it did. No other condition. -/
import Derived.Test.YtmpgljmmjipioaaLawSpreads2
import Derived.Test.YtmpgljmmjipioaaHv26
import Derived.JoinedCond
import Derived.Test.YtmpgljmmjipioaaRows
namespace Go.Proofs.Ytmpgljmmjipioaa.placeSpreads
open Go Go.Hv Go.ChangeShapes Go.WideShapes Go.ChangeAt Go.RowKit
open Go.ChangeMaps (open_string shut_string)
set_option linter.unusedVariables false
set_option linter.unusedSimpArgs false
theorem own : ownKnob Try.prog.godebug = none := by kernel_rfl
theorem laidOut : laidOutB Try.prog = true := by kernel_rfl
mutual
theorem bulk_le {H : Type} (d : DataW H) : bulkD d ≤ Rows.uptoBulk d := by
  cases d with
  | lit l => cases l <;> simp [bulkD, Rows.uptoBulk]
  | nil => simp [bulkD, Rows.uptoBulk]
  | ptr d => have := bulk_le d; simp only [bulkD, Rows.uptoBulk]; omega
  | slice elems spare => have := bulks_le elems; have := bulks_le spare; simp only [bulkD, Rows.uptoBulk]; omega
  | agg parts => have := bulks_le parts; simp only [bulkD, Rows.uptoBulk]; omega
  | iface t d => have := bulk_le d; simp only [bulkD, Rows.uptoBulk]; omega
  | map entries => simp [bulkD, Rows.uptoBulk]
  | held h => simp [bulkD, Rows.uptoBulk]
  termination_by structural d
theorem bulks_le {H : Type} (l : List (DataW H)) : bulkA l ≤ Rows.uptoBulkAll l := by
  cases l with
  | nil => simp [bulkA, Rows.uptoBulkAll]
  | cons d r => have := bulk_le d; have := bulks_le r; simp only [bulkA, Rows.uptoBulkAll]; omega
  termination_by structural l
end
theorem contract (H : Type) (enc : TypeId × Value → H) (W : World) (base : Nat) (args : Array Value) (ds gs : List (DataW H)) (before : List MemPlace)
    (hval : ∀ (j : Nat) t v, Try.f4.params[j]? = some t → args[j]? = some v → Value.okWide Try.prog W .any base t v)
    (hW : DataW.Whole enc Try.prog Try.f4.params.toList Rows.placeSpreadsSpec.vars false W args.toList ds gs before) (hk : Rows.uptoSmall H (ds ++ gs) = true) :
    Calls Try.prog 4 args W fun e W' => ∃ v, e = .returned v ∧ Rows.placeSpreadsSpec.post enc Try.prog Try.f4 false true false false W args v W' := by
  have hW' := hW
  obtain ⟨p, q, hA0, hV, rfl, hfz, hnd⟩ := hW
  have hA : DataW.TrodAll enc Try.prog W 0 (fun _ => true) true Try.f4.params.toList args.toList ds p := hA0
  rw [Try.params4] at hA hval
  obtain ⟨v0, vs0, d0, ds0, p0, q0, hargs, rfl, rfl, h0, r0⟩ := trodAll_cons hA
  obtain ⟨v1, vs1, d1, ds1, p1, q1, rfl, rfl, rfl, h1, r1⟩ := trodAll_cons r0
  obtain ⟨rfl, rfl, rfl⟩ := trodAll_nil r1
  obtain rfl : args = #[v0, v1] := by cases args; simp_all
  obtain ⟨rfl, rfl⟩ := trodVars_none hV
  have hk' : Rows.uptoBulkAll ([d0, d1] ++ []) ≤ 1048576 := of_decide_eq_true hk
  simp only [List.append_nil, Rows.uptoBulkAll] at hk'
  obtain ⟨ad0, ln0, cp0, rfl⟩ := okWide_slice Try.underlying27 (hval 0 27 v0 rfl rfl)
  have k0 := h0
  have lt0 : ∀ x ∈ p0, x.block < W.heap.size := by obtain ⟨m, hm⟩ := k0; exact DataW.trod_lt m _ _ _ hm
  have b0 : bulkD d0 ≤ 1048576 := by have := bulk_le d0; omega
  obtain ⟨full0, a0, e0, g0⟩ := docs_of_trod (by kernel_rfl) h0 b0
  obtain ⟨a1, rfl, rfl, rfl, w1⟩ := open_int Try.underlying3 (hval 1 3 v1 rfl rfl) h1
  refine (Spec1.calls (spreads_law full0 a0 a1 g0) W #[_, _] rfl (reps_list (.cons e0 (.cons (.lit _) .nil)))).mono fun e W' ⟨u, he, bel, hI⟩ => ?_
  subst he
  cases hI
  exact ⟨_, rfl, _, _, _, [], _, [], hW', trodAll_mk1 (shut_bool Try.underlying4 _), (trodAll_cons_mk (Below.trod laidOut (by kernel_rfl) (of_decide_eq_true (by kernel_rfl)) k0 bel lt0) (trodAll_cons_mk (shut_int Try.underlying3 w1) trodAll_mk0)), rfl, bel.frame _, fun h => by cases h⟩
set_option maxRecDepth 100000 in
theorem lifted (os : Os) (started : os.Started) (H : Type) (enc : TypeId × Value → H) (F : Stop.Interp) :
    ReturnsInHanded {} Try.checked os 4 .any ((Rows.OpenSpec.upto Rows.placeSpreadsSpec).pre6 enc Try.prog Try.f4 Rows.placeSpreadsUptoRow.domain false) (((Rows.OpenSpec.upto Rows.placeSpreadsSpec).at F).post enc Try.prog Try.f4 false true false false) := by
  refine returnsInHanded_of_cond (C := Try.checked) (s := Rows.OpenSpec.upto Rows.placeSpreadsSpec) (k := Rows.uptoSmall) rfl own started (by kernel_rfl) Try.func4
    (OpenSpec.witness (enc := enc) (C := Try.checked) (s := Rows.OpenSpec.upto Rows.placeSpreadsSpec) (k := Rows.uptoSmall) rfl false ⟨#[], #[.slice none 0 0, .int .i64 0], []⟩ 8 (by kernel_rfl) (by kernel_rfl) (by kernel_rfl)
      (x := ([.nil, .lit (.int .i64 0)], [], [])) (by kernel_rfl) rfl (by kernel_rfl)) ?_
  intro W base args ds gs before hval hW _ hk _
  exact contract H enc W base args ds gs before hval hW hk
theorem proved : Rows.PlaceSpreadsUptoSaid :=
  OpenClaim.holds_of_cond 4 Try.f4 rfl rfl rfl rfl rfl rfl rfl ⟨rfl, rfl, rfl, rfl, rfl⟩ rfl rfl rfl rfl rfl (by kernel_rfl) Try.func4 (by kernel_rfl)
    (of_decide_eq_true (by kernel_rfl)) (by unfold Func.isWrapper; first | (rw [if_pos (by decide +kernel)]; kernel_rfl) | (rw [if_neg (by decide +kernel)]; exact ⟨rfl, rfl⟩))
    (fun os started H enc _ F => lifted os started H enc F)
#print axioms proved
end Go.Proofs.Ytmpgljmmjipioaa.placeSpreads
namespace Go.Proofs.Ytmpgljmmjipioaa
theorem placeSpreadsUpto_holds : Rows.PlaceSpreadsUptoSaid := placeSpreads.proved
end Go.Proofs.Ytmpgljmmjipioaa
