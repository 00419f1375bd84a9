/-
  No cell of these rows narrows 'for every input' (looked for: loops, veiled, ifaces, maps, wideKeys, modest, calm, conditions, laid).
  DERIVED. THE GIVEN ROWS OF THIS SEAT. 5 by the template 'for every input the law returns true; each argument reads behind the call as it read before'; 0 by the template 'total and deterministic' (their statements: YtmpgljmmjipioaaTotals.lean).
  GIVEN WITH THE SEED: the statements are not yours to turn. If you find one false, say at which input.
  Laid BY PROGRAM, IN A SANDBOX (cutbox-rows.mjs): the forced cells as the released guide's own fill.sh prints them over the translation 34605fcafd91e6e8… (all of the seat's roots in one cut). By AI agents, Wed Nov 11 2026. No macro, syntax, notation, axiom, sorry.
-/
import Derived.Test.YtmpgljmmjipioaaChecked
import GoSem.Claim
import GoSem.ClaimJoined
import GoSem.ClaimMapViews
import Derived.JoinedTies
import Derived.KernelRfl
namespace Go.Proofs.Ytmpgljmmjipioaa
/- THE CELL 'sum', in the pinned program and in every row, IS THE sha256 OF THE DUMP (.gsa) THAT YtmpgljmmjipioaaProg.lean LOADS. Nothing in Lean hashes anything: it is a label: what it is worth is what the hold of that sum in a sandbox is worth. -/
noncomputable def Try.pinned : Pinned := { name := "ytmpgljmmjipioaa", sum := "34605fcafd91e6e8baa5168138d0c938012ffeca561cdbcce5dee0ed3fa80adf", checked := Try.checked }
namespace Rows
def none {H : Type} : Left H := { results := [], args := [] }

/-- 'codesearchlaw34.PlaceWeights': WHATEVER THE INPUT: true; the input reads as it did. -/
def placeWeightsSpec : ChangeSpec := { name := "placeWeights", fn := fun _ => fun
  | [d1, d2, d3] => { results := [.lit (.bool true)], args := [d1, d2, d3] }
  | _ => none }
def placeWeightsRow : OpenClaim := { program := "ytmpgljmmjipioaa", sum := "34605fcafd91e6e8baa5168138d0c938012ffeca561cdbcce5dee0ed3fa80adf", func := "codesearch/codesearchlaw34.PlaceWeights", spec := "placeWeights", apart := false }
def PlaceWeightsSaid : Prop := placeWeightsRow.holds Try.pinned (OpenSpec.ofChange placeWeightsSpec)

/-- ITS FALSE NEIGHBOUR: 'it returns false'. Refute it at one input. -/
def placeWeightsWrong : ChangeSpec := { name := "placeWeights", fn := fun _ => fun
  | [d1, d2, d3] => { results := [.lit (.bool false)], args := [d1, d2, d3] }
  | _ => none }
def PlaceWeightsWrongFalsely : Prop := placeWeightsRow.holds Try.pinned (OpenSpec.ofChange placeWeightsWrong)

/-- 'codesearchlaw34.PlaceSpreads': WHATEVER THE INPUT: true; the input reads as it did. -/
def placeSpreadsSpec : ChangeSpec := { name := "placeSpreads", fn := fun _ => fun
  | [d1, d2] => { results := [.lit (.bool true)], args := [d1, d2] }
  | _ => none }
def placeSpreadsRow : OpenClaim := { program := "ytmpgljmmjipioaa", sum := "34605fcafd91e6e8baa5168138d0c938012ffeca561cdbcce5dee0ed3fa80adf", func := "codesearch/codesearchlaw34.PlaceSpreads", spec := "placeSpreads", apart := false }
def PlaceSpreadsSaid : Prop := placeSpreadsRow.holds Try.pinned (OpenSpec.ofChange placeSpreadsSpec)

/-- ITS FALSE NEIGHBOUR: 'it returns false'. Refute it at one input. -/
def placeSpreadsWrong : ChangeSpec := { name := "placeSpreads", fn := fun _ => fun
  | [d1, d2] => { results := [.lit (.bool false)], args := [d1, d2] }
  | _ => none }
def PlaceSpreadsWrongFalsely : Prop := placeSpreadsRow.holds Try.pinned (OpenSpec.ofChange placeSpreadsWrong)

/-- 'codesearchlaw34.PlaceSplits': WHATEVER THE INPUT: true; the input reads as it did. -/
def placeSplitsSpec : ChangeSpec := { name := "placeSplits", fn := fun _ => fun
  | [d1, d2, d3] => { results := [.lit (.bool true)], args := [d1, d2, d3] }
  | _ => none }
def placeSplitsRow : OpenClaim := { program := "ytmpgljmmjipioaa", sum := "34605fcafd91e6e8baa5168138d0c938012ffeca561cdbcce5dee0ed3fa80adf", func := "codesearch/codesearchlaw34.PlaceSplits", spec := "placeSplits", apart := false }
def PlaceSplitsSaid : Prop := placeSplitsRow.holds Try.pinned (OpenSpec.ofChange placeSplitsSpec)

/-- ITS FALSE NEIGHBOUR: 'it returns false'. Refute it at one input. -/
def placeSplitsWrong : ChangeSpec := { name := "placeSplits", fn := fun _ => fun
  | [d1, d2, d3] => { results := [.lit (.bool false)], args := [d1, d2, d3] }
  | _ => none }
def PlaceSplitsWrongFalsely : Prop := placeSplitsRow.holds Try.pinned (OpenSpec.ofChange placeSplitsWrong)

/-- 'codesearchlaw34.PlaceMoves': WHATEVER THE INPUT: true; the input reads as it did. -/
def placeMovesSpec : ChangeSpec := { name := "placeMoves", fn := fun _ => fun
  | [d1, d2, d3] => { results := [.lit (.bool true)], args := [d1, d2, d3] }
  | _ => none }
def placeMovesRow : OpenClaim := { program := "ytmpgljmmjipioaa", sum := "34605fcafd91e6e8baa5168138d0c938012ffeca561cdbcce5dee0ed3fa80adf", func := "codesearch/codesearchlaw34.PlaceMoves", spec := "placeMoves", apart := false }
def PlaceMovesSaid : Prop := placeMovesRow.holds Try.pinned (OpenSpec.ofChange placeMovesSpec)

/-- ITS FALSE NEIGHBOUR: 'it returns false'. Refute it at one input. -/
def placeMovesWrong : ChangeSpec := { name := "placeMoves", fn := fun _ => fun
  | [d1, d2, d3] => { results := [.lit (.bool false)], args := [d1, d2, d3] }
  | _ => none }
def PlaceMovesWrongFalsely : Prop := placeMovesRow.holds Try.pinned (OpenSpec.ofChange placeMovesWrong)

/-- 'codesearchlaw34.PlaceMoved': WHATEVER THE INPUT: true; the input reads as it did. -/
def placeMovedSpec : ChangeSpec := { name := "placeMoved", fn := fun _ => fun
  | [d1, d2, d3] => { results := [.lit (.bool true)], args := [d1, d2, d3] }
  | _ => none }
def placeMovedRow : OpenClaim := { program := "ytmpgljmmjipioaa", sum := "34605fcafd91e6e8baa5168138d0c938012ffeca561cdbcce5dee0ed3fa80adf", func := "codesearch/codesearchlaw34.PlaceMoved", spec := "placeMoved", apart := false }
def PlaceMovedSaid : Prop := placeMovedRow.holds Try.pinned (OpenSpec.ofChange placeMovedSpec)

/-- ITS FALSE NEIGHBOUR: 'it returns false'. Refute it at one input. -/
def placeMovedWrong : ChangeSpec := { name := "placeMoved", fn := fun _ => fun
  | [d1, d2, d3] => { results := [.lit (.bool false)], args := [d1, d2, d3] }
  | _ => none }
def PlaceMovedWrongFalsely : Prop := placeMovedRow.holds Try.pinned (OpenSpec.ofChange placeMovedWrong)

/- THE SECOND FORM. 'bulk': how many values and letters a reading holds, each counted each time it is reached (what is shared counts as often as it is met; a slice's spare places count too). A statement '..UptoSaid' is the law's where the arguments, and the package variables that the reading takes, are together of bulk at most 1048576: NARROWER than '..Said'. Prove '..Said' where nothing that the law and all that it calls make is longer than what came in: it says more and counts as full. Else prove '..UptoSaid'. A law counts once. -/
mutual
def uptoBulk {H : Type} : DataW H → Nat
  | .lit (.string bytes) => bytes.length + 1
  | .lit _ => 1
  | .nil => 1
  | .ptr d => uptoBulk d + 1
  | .slice elems spare => uptoBulkAll elems + uptoBulkAll spare + 1
  | .agg parts => uptoBulkAll parts + 1
  | .iface _ d => uptoBulk d + 1
  | .map entries => uptoBulkEntries entries + 1
  | .held _ => 1
def uptoBulkAll {H : Type} : List (DataW H) → Nat
  | [] => 0
  | d :: r => uptoBulk d + uptoBulkAll r
def uptoBulkEntries {H : Type} : List (Lit × DataW H) → Nat
  | [] => 0
  | x :: r => uptoBulkEntry x + uptoBulkEntries r
def uptoBulkEntry {H : Type} : Lit × DataW H → Nat
  | (.string bytes, d) => bytes.length + uptoBulk d + 1
  | (_, d) => uptoBulk d + 1
 end
def uptoSmall : (H : Type) → List (DataW H) → Bool := fun _ ds => decide (uptoBulkAll ds ≤ 1048576)
def OpenSpec.upto (s : _root_.Go.ChangeSpec) : _root_.Go.OpenSpec := { _root_.Go.OpenSpec.ofChange s with cond := some uptoSmall }

/-- 'codesearchlaw34.PlaceWeights', WHERE WHAT IT READS IS OF BULK AT MOST 1048576: true; the input reads as it did. -/
def placeWeightsUptoRow : OpenClaim := { program := "ytmpgljmmjipioaa", sum := "34605fcafd91e6e8baa5168138d0c938012ffeca561cdbcce5dee0ed3fa80adf", func := "codesearch/codesearchlaw34.PlaceWeights", spec := "placeWeights", apart := false, narrowed := true }
def PlaceWeightsUptoSaid : Prop := placeWeightsUptoRow.holds Try.pinned (OpenSpec.upto placeWeightsSpec)

/-- 'codesearchlaw34.PlaceSpreads', WHERE WHAT IT READS IS OF BULK AT MOST 1048576: true; the input reads as it did. -/
def placeSpreadsUptoRow : OpenClaim := { program := "ytmpgljmmjipioaa", sum := "34605fcafd91e6e8baa5168138d0c938012ffeca561cdbcce5dee0ed3fa80adf", func := "codesearch/codesearchlaw34.PlaceSpreads", spec := "placeSpreads", apart := false, narrowed := true }
def PlaceSpreadsUptoSaid : Prop := placeSpreadsUptoRow.holds Try.pinned (OpenSpec.upto placeSpreadsSpec)

/-- 'codesearchlaw34.PlaceSplits', WHERE WHAT IT READS IS OF BULK AT MOST 1048576: true; the input reads as it did. -/
def placeSplitsUptoRow : OpenClaim := { program := "ytmpgljmmjipioaa", sum := "34605fcafd91e6e8baa5168138d0c938012ffeca561cdbcce5dee0ed3fa80adf", func := "codesearch/codesearchlaw34.PlaceSplits", spec := "placeSplits", apart := false, narrowed := true }
def PlaceSplitsUptoSaid : Prop := placeSplitsUptoRow.holds Try.pinned (OpenSpec.upto placeSplitsSpec)

/-- 'codesearchlaw34.PlaceMoves', WHERE WHAT IT READS IS OF BULK AT MOST 1048576: true; the input reads as it did. -/
def placeMovesUptoRow : OpenClaim := { program := "ytmpgljmmjipioaa", sum := "34605fcafd91e6e8baa5168138d0c938012ffeca561cdbcce5dee0ed3fa80adf", func := "codesearch/codesearchlaw34.PlaceMoves", spec := "placeMoves", apart := false, narrowed := true }
def PlaceMovesUptoSaid : Prop := placeMovesUptoRow.holds Try.pinned (OpenSpec.upto placeMovesSpec)

/-- 'codesearchlaw34.PlaceMoved', WHERE WHAT IT READS IS OF BULK AT MOST 1048576: true; the input reads as it did. -/
def placeMovedUptoRow : OpenClaim := { program := "ytmpgljmmjipioaa", sum := "34605fcafd91e6e8baa5168138d0c938012ffeca561cdbcce5dee0ed3fa80adf", func := "codesearch/codesearchlaw34.PlaceMoved", spec := "placeMoved", apart := false, narrowed := true }
def PlaceMovedUptoSaid : Prop := placeMovedUptoRow.holds Try.pinned (OpenSpec.upto placeMovedSpec)

end Rows
end Go.Proofs.Ytmpgljmmjipioaa
