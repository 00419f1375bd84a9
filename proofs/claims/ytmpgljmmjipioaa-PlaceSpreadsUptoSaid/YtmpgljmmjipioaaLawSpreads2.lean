import Derived.Test.YtmpgljmmjipioaaDocArg
import Derived.Test.YtmpgljmmjipioaaLawSpreads
namespace Go.Hv
open Go Go.Proofs
theorem docK_of {d : Doc} (h : DocB 1048576 d) : DocK d := by
  obtain ⟨h1, h2, h3, h4, h5, h6, h7⟩ := h
  exact ⟨h1, h2, h3, by omega, h7⟩
theorem spreads_law (full : Bool) (l : List Doc) (n : Int) (h : l.length ≤ 1048576 ∧ ∀ d ∈ l, DocB 1048576 d) : Spec1 Try.prog 4 [.sl 5 full (docsHV l), i64 n] (bo true) :=
  f4_spec full l n h.1 (fun d hd => docK_of (h.2 d hd))
end Go.Hv
