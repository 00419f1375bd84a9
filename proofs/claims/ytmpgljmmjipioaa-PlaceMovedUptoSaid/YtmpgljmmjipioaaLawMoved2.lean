import Derived.Test.YtmpgljmmjipioaaDocArg
namespace Go.Hv
open Go Go.Proofs
theorem moved_law (full : Bool) (l : List Doc) (a b : Int) (h : l.length ≤ 1048576 ∧ ∀ d ∈ l, DocB 1048576 d) : Spec1 Try.prog 7 [.sl 5 full (docsHV l), i64 a, i64 b] (bo true) :=
  f7_spec full l a b h.1 (fun d hd => ⟨(h.2 d hd).1, (h.2 d hd).2.1⟩)
end Go.Hv
