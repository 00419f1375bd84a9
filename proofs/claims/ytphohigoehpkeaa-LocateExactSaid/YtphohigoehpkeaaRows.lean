/-
  No cell of these rows narrows 'for every input' (looked for: loops, veiled, ifaces, maps, wideKeys, modest, calm, conditions, laid).
  DERIVED. THE GIVEN ROWS OF THIS SEAT. 13 by the template 'for every input the law returns true; each argument reads behind the call as it read before'; 0 by the template 'total and deterministic' (their statements: YtphohigoehpkeaaTotals.lean).
  GIVEN WITH THE SEED: the statements are not yours to turn. If you find one false, say at which input.
  Laid BY PROGRAM, IN A SANDBOX (cutbox-rows.mjs): the forced cells as the released guide's own fill.sh prints them over the translation ae385322bb6b8591… (all of the seat's roots in one cut). By AI agents, Wed Nov 11 2026. No macro, syntax, notation, axiom, sorry.
-/
import Derived.Test.YtphohigoehpkeaaChecked
import GoSem.Claim
import GoSem.ClaimJoined
import GoSem.ClaimMapViews
import Derived.JoinedTies
import Derived.KernelRfl
namespace Go.Proofs.Ytphohigoehpkeaa
/- THE CELL 'sum', in the pinned program and in every row, IS THE sha256 OF THE DUMP (.gsa) THAT YtphohigoehpkeaaProg.lean LOADS. Nothing in Lean hashes anything: it is a label: what it is worth is what the hold of that sum in a sandbox is worth. -/
noncomputable def Try.pinned : Pinned := { name := "ytphohigoehpkeaa", sum := "ae385322bb6b85916b38f6719903d6e9502e962d9306766235748349477fa266", checked := Try.checked }
namespace Rows
def none {H : Type} : Left H := { results := [], args := [] }

/-- 'codesearchlaw07.LocateFinds': WHATEVER THE INPUT: true; the input reads as it did. -/
def locateFindsSpec : ChangeSpec := { name := "locateFinds", fn := fun _ => fun
  | [d1, d2, d3] => { results := [.lit (.bool true)], args := [d1, d2, d3] }
  | _ => none }
def locateFindsRow : OpenClaim := { program := "ytphohigoehpkeaa", sum := "ae385322bb6b85916b38f6719903d6e9502e962d9306766235748349477fa266", func := "codesearch/codesearchlaw07.LocateFinds", spec := "locateFinds", inPlace := ["internal/bytealg.CountString", "internal/bytealg.IndexByteString", "internal/bytealg.IndexString"], unfollowed := true, recurses := true, named := ["internal/bytealg.MaxLen"], apart := false }
def LocateFindsSaid : Prop := locateFindsRow.holds Try.pinned (OpenSpec.ofChange locateFindsSpec)

/-- ITS FALSE NEIGHBOUR: 'it returns false'. Refute it at one input. -/
def locateFindsWrong : ChangeSpec := { name := "locateFinds", fn := fun _ => fun
  | [d1, d2, d3] => { results := [.lit (.bool false)], args := [d1, d2, d3] }
  | _ => none }
def LocateFindsWrongFalsely : Prop := locateFindsRow.holds Try.pinned (OpenSpec.ofChange locateFindsWrong)

/-- 'codesearchlaw07.LocateCodes': WHATEVER THE INPUT: true; the input reads as it did. -/
def locateCodesSpec : ChangeSpec := { name := "locateCodes", fn := fun _ => fun
  | [d1, d2] => { results := [.lit (.bool true)], args := [d1, d2] }
  | _ => none }
def locateCodesRow : OpenClaim := { program := "ytphohigoehpkeaa", sum := "ae385322bb6b85916b38f6719903d6e9502e962d9306766235748349477fa266", func := "codesearch/codesearchlaw07.LocateCodes", spec := "locateCodes", inPlace := ["internal/bytealg.CountString", "internal/bytealg.IndexByteString", "internal/bytealg.IndexString"], unfollowed := true, recurses := true, named := ["internal/bytealg.MaxLen"], apart := false }
def LocateCodesSaid : Prop := locateCodesRow.holds Try.pinned (OpenSpec.ofChange locateCodesSpec)

/-- ITS FALSE NEIGHBOUR: 'it returns false'. Refute it at one input. -/
def locateCodesWrong : ChangeSpec := { name := "locateCodes", fn := fun _ => fun
  | [d1, d2] => { results := [.lit (.bool false)], args := [d1, d2] }
  | _ => none }
def LocateCodesWrongFalsely : Prop := locateCodesRow.holds Try.pinned (OpenSpec.ofChange locateCodesWrong)

/-- 'codesearchlaw07.LocateCandidates': WHATEVER THE INPUT: true; the input reads as it did. -/
def locateCandidatesSpec : ChangeSpec := { name := "locateCandidates", fn := fun _ => fun
  | [d1, d2] => { results := [.lit (.bool true)], args := [d1, d2] }
  | _ => none }
def locateCandidatesRow : OpenClaim := { program := "ytphohigoehpkeaa", sum := "ae385322bb6b85916b38f6719903d6e9502e962d9306766235748349477fa266", func := "codesearch/codesearchlaw07.LocateCandidates", spec := "locateCandidates", inPlace := ["internal/bytealg.CountString", "internal/bytealg.IndexByteString", "internal/bytealg.IndexString"], unfollowed := true, recurses := true, named := ["internal/bytealg.MaxLen"], apart := false }
def LocateCandidatesSaid : Prop := locateCandidatesRow.holds Try.pinned (OpenSpec.ofChange locateCandidatesSpec)

/-- ITS FALSE NEIGHBOUR: 'it returns false'. Refute it at one input. -/
def locateCandidatesWrong : ChangeSpec := { name := "locateCandidates", fn := fun _ => fun
  | [d1, d2] => { results := [.lit (.bool false)], args := [d1, d2] }
  | _ => none }
def LocateCandidatesWrongFalsely : Prop := locateCandidatesRow.holds Try.pinned (OpenSpec.ofChange locateCandidatesWrong)

/-- 'codesearchlaw07.LocateFolds': WHATEVER THE INPUT: true; the input reads as it did. -/
def locateFoldsSpec : ChangeSpec := { name := "locateFolds", fn := fun _ => fun
  | [d1, d2] => { results := [.lit (.bool true)], args := [d1, d2] }
  | _ => none }
def locateFoldsRow : OpenClaim := { program := "ytphohigoehpkeaa", sum := "ae385322bb6b85916b38f6719903d6e9502e962d9306766235748349477fa266", func := "codesearch/codesearchlaw07.LocateFolds", spec := "locateFolds", inPlace := ["internal/bytealg.CountString", "internal/bytealg.IndexByteString", "internal/bytealg.IndexString"], unfollowed := true, recurses := true, named := ["internal/bytealg.MaxLen"], apart := false }
def LocateFoldsSaid : Prop := locateFoldsRow.holds Try.pinned (OpenSpec.ofChange locateFoldsSpec)

/-- ITS FALSE NEIGHBOUR: 'it returns false'. Refute it at one input. -/
def locateFoldsWrong : ChangeSpec := { name := "locateFolds", fn := fun _ => fun
  | [d1, d2] => { results := [.lit (.bool false)], args := [d1, d2] }
  | _ => none }
def LocateFoldsWrongFalsely : Prop := locateFoldsRow.holds Try.pinned (OpenSpec.ofChange locateFoldsWrong)

/-- 'codesearchlaw07.LocateApart': WHATEVER THE INPUT: true; the input reads as it did. -/
def locateApartSpec : ChangeSpec := { name := "locateApart", fn := fun _ => fun
  | [d1, d2, d3] => { results := [.lit (.bool true)], args := [d1, d2, d3] }
  | _ => none }
def locateApartRow : OpenClaim := { program := "ytphohigoehpkeaa", sum := "ae385322bb6b85916b38f6719903d6e9502e962d9306766235748349477fa266", func := "codesearch/codesearchlaw07.LocateApart", spec := "locateApart", inPlace := ["internal/bytealg.CountString", "internal/bytealg.IndexByteString", "internal/bytealg.IndexString"], unfollowed := true, recurses := true, named := ["internal/bytealg.MaxLen"], apart := false }
def LocateApartSaid : Prop := locateApartRow.holds Try.pinned (OpenSpec.ofChange locateApartSpec)

/-- ITS FALSE NEIGHBOUR: 'it returns false'. Refute it at one input. -/
def locateApartWrong : ChangeSpec := { name := "locateApart", fn := fun _ => fun
  | [d1, d2, d3] => { results := [.lit (.bool false)], args := [d1, d2, d3] }
  | _ => none }
def LocateApartWrongFalsely : Prop := locateApartRow.holds Try.pinned (OpenSpec.ofChange locateApartWrong)

/-- 'codesearchlaw07.LocateNeeds': WHATEVER THE INPUT: true; the input reads as it did. -/
def locateNeedsSpec : ChangeSpec := { name := "locateNeeds", fn := fun _ => fun
  | [d1, d2, d3] => { results := [.lit (.bool true)], args := [d1, d2, d3] }
  | _ => none }
def locateNeedsRow : OpenClaim := { program := "ytphohigoehpkeaa", sum := "ae385322bb6b85916b38f6719903d6e9502e962d9306766235748349477fa266", func := "codesearch/codesearchlaw07.LocateNeeds", spec := "locateNeeds", inPlace := ["internal/bytealg.CountString", "internal/bytealg.IndexByteString", "internal/bytealg.IndexString"], unfollowed := true, recurses := true, named := ["internal/bytealg.MaxLen"], apart := false }
def LocateNeedsSaid : Prop := locateNeedsRow.holds Try.pinned (OpenSpec.ofChange locateNeedsSpec)

/-- ITS FALSE NEIGHBOUR: 'it returns false'. Refute it at one input. -/
def locateNeedsWrong : ChangeSpec := { name := "locateNeeds", fn := fun _ => fun
  | [d1, d2, d3] => { results := [.lit (.bool false)], args := [d1, d2, d3] }
  | _ => none }
def LocateNeedsWrongFalsely : Prop := locateNeedsRow.holds Try.pinned (OpenSpec.ofChange locateNeedsWrong)

/-- 'codesearchlaw06.TrigramCodes': WHATEVER THE INPUT: true; the input reads as it did. -/
def trigramCodesSpec : ChangeSpec := { name := "trigramCodes", fn := fun _ => fun
  | [d1, d2] => { results := [.lit (.bool true)], args := [d1, d2] }
  | _ => none }
def trigramCodesRow : OpenClaim := { program := "ytphohigoehpkeaa", sum := "ae385322bb6b85916b38f6719903d6e9502e962d9306766235748349477fa266", func := "codesearch/codesearchlaw06.TrigramCodes", spec := "trigramCodes", unfollowed := true, recurses := true, apart := false }
def TrigramCodesSaid : Prop := trigramCodesRow.holds Try.pinned (OpenSpec.ofChange trigramCodesSpec)

/-- ITS FALSE NEIGHBOUR: 'it returns false'. Refute it at one input. -/
def trigramCodesWrong : ChangeSpec := { name := "trigramCodes", fn := fun _ => fun
  | [d1, d2] => { results := [.lit (.bool false)], args := [d1, d2] }
  | _ => none }
def TrigramCodesWrongFalsely : Prop := trigramCodesRow.holds Try.pinned (OpenSpec.ofChange trigramCodesWrong)

/-- 'codesearchlaw06.TrigramSets': WHATEVER THE INPUT: true; the input reads as it did. -/
def trigramSetsSpec : ChangeSpec := { name := "trigramSets", fn := fun _ => fun
  | [d] => { results := [.lit (.bool true)], args := [d] }
  | _ => none }
def trigramSetsRow : OpenClaim := { program := "ytphohigoehpkeaa", sum := "ae385322bb6b85916b38f6719903d6e9502e962d9306766235748349477fa266", func := "codesearch/codesearchlaw06.TrigramSets", spec := "trigramSets", unfollowed := true, recurses := true, apart := false }
def TrigramSetsSaid : Prop := trigramSetsRow.holds Try.pinned (OpenSpec.ofChange trigramSetsSpec)

/-- ITS FALSE NEIGHBOUR: 'it returns false'. Refute it at one input. -/
def trigramSetsWrong : ChangeSpec := { name := "trigramSets", fn := fun _ => fun
  | [d] => { results := [.lit (.bool false)], args := [d] }
  | _ => none }
def TrigramSetsWrongFalsely : Prop := trigramSetsRow.holds Try.pinned (OpenSpec.ofChange trigramSetsWrong)

/-- 'codesearchlaw06.TrigramLooks': WHATEVER THE INPUT: true; the input reads as it did. -/
def trigramLooksSpec : ChangeSpec := { name := "trigramLooks", fn := fun _ => fun
  | [d1, d2] => { results := [.lit (.bool true)], args := [d1, d2] }
  | _ => none }
def trigramLooksRow : OpenClaim := { program := "ytphohigoehpkeaa", sum := "ae385322bb6b85916b38f6719903d6e9502e962d9306766235748349477fa266", func := "codesearch/codesearchlaw06.TrigramLooks", spec := "trigramLooks", unfollowed := true, recurses := true, apart := false }
def TrigramLooksSaid : Prop := trigramLooksRow.holds Try.pinned (OpenSpec.ofChange trigramLooksSpec)

/-- ITS FALSE NEIGHBOUR: 'it returns false'. Refute it at one input. -/
def trigramLooksWrong : ChangeSpec := { name := "trigramLooks", fn := fun _ => fun
  | [d1, d2] => { results := [.lit (.bool false)], args := [d1, d2] }
  | _ => none }
def TrigramLooksWrongFalsely : Prop := trigramLooksRow.holds Try.pinned (OpenSpec.ofChange trigramLooksWrong)

/-- 'codesearchlaw06.TrigramOccurs': WHATEVER THE INPUT: true; the input reads as it did. -/
def trigramOccursSpec : ChangeSpec := { name := "trigramOccurs", fn := fun _ => fun
  | [d1, d2] => { results := [.lit (.bool true)], args := [d1, d2] }
  | _ => none }
def trigramOccursRow : OpenClaim := { program := "ytphohigoehpkeaa", sum := "ae385322bb6b85916b38f6719903d6e9502e962d9306766235748349477fa266", func := "codesearch/codesearchlaw06.TrigramOccurs", spec := "trigramOccurs", unfollowed := true, recurses := true, apart := false }
def TrigramOccursSaid : Prop := trigramOccursRow.holds Try.pinned (OpenSpec.ofChange trigramOccursSpec)

/-- ITS FALSE NEIGHBOUR: 'it returns false'. Refute it at one input. -/
def trigramOccursWrong : ChangeSpec := { name := "trigramOccurs", fn := fun _ => fun
  | [d1, d2] => { results := [.lit (.bool false)], args := [d1, d2] }
  | _ => none }
def TrigramOccursWrongFalsely : Prop := trigramOccursRow.holds Try.pinned (OpenSpec.ofChange trigramOccursWrong)

/-- 'codesearchlaw06.TrigramOffsets': WHATEVER THE INPUT: true; the input reads as it did. -/
def trigramOffsetsSpec : ChangeSpec := { name := "trigramOffsets", fn := fun _ => fun
  | [d] => { results := [.lit (.bool true)], args := [d] }
  | _ => none }
def trigramOffsetsRow : OpenClaim := { program := "ytphohigoehpkeaa", sum := "ae385322bb6b85916b38f6719903d6e9502e962d9306766235748349477fa266", func := "codesearch/codesearchlaw06.TrigramOffsets", spec := "trigramOffsets", unfollowed := true, recurses := true, apart := false }
def TrigramOffsetsSaid : Prop := trigramOffsetsRow.holds Try.pinned (OpenSpec.ofChange trigramOffsetsSpec)

/-- ITS FALSE NEIGHBOUR: 'it returns false'. Refute it at one input. -/
def trigramOffsetsWrong : ChangeSpec := { name := "trigramOffsets", fn := fun _ => fun
  | [d] => { results := [.lit (.bool false)], args := [d] }
  | _ => none }
def TrigramOffsetsWrongFalsely : Prop := trigramOffsetsRow.holds Try.pinned (OpenSpec.ofChange trigramOffsetsWrong)

/-- 'codesearchlaw06.TrigramFolds': WHATEVER THE INPUT: true; the input reads as it did. -/
def trigramFoldsSpec : ChangeSpec := { name := "trigramFolds", fn := fun _ => fun
  | [d1, d2] => { results := [.lit (.bool true)], args := [d1, d2] }
  | _ => none }
def trigramFoldsRow : OpenClaim := { program := "ytphohigoehpkeaa", sum := "ae385322bb6b85916b38f6719903d6e9502e962d9306766235748349477fa266", func := "codesearch/codesearchlaw06.TrigramFolds", spec := "trigramFolds", unfollowed := true, recurses := true, apart := false }
def TrigramFoldsSaid : Prop := trigramFoldsRow.holds Try.pinned (OpenSpec.ofChange trigramFoldsSpec)

/-- ITS FALSE NEIGHBOUR: 'it returns false'. Refute it at one input. -/
def trigramFoldsWrong : ChangeSpec := { name := "trigramFolds", fn := fun _ => fun
  | [d1, d2] => { results := [.lit (.bool false)], args := [d1, d2] }
  | _ => none }
def TrigramFoldsWrongFalsely : Prop := trigramFoldsRow.holds Try.pinned (OpenSpec.ofChange trigramFoldsWrong)

/-- 'codesearchlaw07.LocateExact': WHATEVER THE INPUT: true; the input reads as it did. -/
def locateExactSpec : ChangeSpec := { name := "locateExact", fn := fun _ => fun
  | [d1, d2] => { results := [.lit (.bool true)], args := [d1, d2] }
  | _ => none }
def locateExactRow : OpenClaim := { program := "ytphohigoehpkeaa", sum := "ae385322bb6b85916b38f6719903d6e9502e962d9306766235748349477fa266", func := "codesearch/codesearchlaw07.LocateExact", spec := "locateExact", inPlace := ["internal/bytealg.CountString", "internal/bytealg.IndexByteString", "internal/bytealg.IndexString"], unfollowed := true, recurses := true, named := ["internal/bytealg.MaxLen"], apart := false }
def LocateExactSaid : Prop := locateExactRow.holds Try.pinned (OpenSpec.ofChange locateExactSpec)

/-- ITS FALSE NEIGHBOUR: 'it returns false'. Refute it at one input. -/
def locateExactWrong : ChangeSpec := { name := "locateExact", fn := fun _ => fun
  | [d1, d2] => { results := [.lit (.bool false)], args := [d1, d2] }
  | _ => none }
def LocateExactWrongFalsely : Prop := locateExactRow.holds Try.pinned (OpenSpec.ofChange locateExactWrong)

/- THE SECOND FORM. 'bulk': how many values and letters a reading holds, each counted each time it is reached (what is shared counts as often as it is met; a slice's spare places count too). A statement '..UptoSaid' is the law's where the arguments, and the package variables that the reading takes, are together of bulk at most 1048576: NARROWER than '..Said'. Prove '..Said' where nothing that the law and all that it calls make is longer than what came in: it says more and counts as full. Else prove '..UptoSaid'. A law counts once. -/
mutual
def uptoBulk {H : Type} : DataW H → Nat
  | .lit (.string bytes) => bytes.length + 1
  | .lit _ => 1
  | .nil => 1
  | .ptr d => uptoBulk d + 1
  | .slice elems spare => uptoBulkAll elems + uptoBulkAll spare + 1
  | .agg parts => uptoBulkAll parts + 1
  | .iface _ d => uptoBulk d + 1
  | .map entries => uptoBulkEntries entries + 1
  | .held _ => 1
def uptoBulkAll {H : Type} : List (DataW H) → Nat
  | [] => 0
  | d :: r => uptoBulk d + uptoBulkAll r
def uptoBulkEntries {H : Type} : List (Lit × DataW H) → Nat
  | [] => 0
  | x :: r => uptoBulkEntry x + uptoBulkEntries r
def uptoBulkEntry {H : Type} : Lit × DataW H → Nat
  | (.string bytes, d) => bytes.length + uptoBulk d + 1
  | (_, d) => uptoBulk d + 1
 end
def uptoSmall : (H : Type) → List (DataW H) → Bool := fun _ ds => decide (uptoBulkAll ds ≤ 1048576)
def OpenSpec.upto (s : _root_.Go.ChangeSpec) : _root_.Go.OpenSpec := { _root_.Go.OpenSpec.ofChange s with cond := some uptoSmall }

/-- 'codesearchlaw07.LocateFinds', WHERE WHAT IT READS IS OF BULK AT MOST 1048576: true; the input reads as it did. -/
def locateFindsUptoRow : OpenClaim := { program := "ytphohigoehpkeaa", sum := "ae385322bb6b85916b38f6719903d6e9502e962d9306766235748349477fa266", func := "codesearch/codesearchlaw07.LocateFinds", spec := "locateFinds", inPlace := ["internal/bytealg.CountString", "internal/bytealg.IndexByteString", "internal/bytealg.IndexString"], unfollowed := true, recurses := true, named := ["internal/bytealg.MaxLen"], apart := false, narrowed := true }
def LocateFindsUptoSaid : Prop := locateFindsUptoRow.holds Try.pinned (OpenSpec.upto locateFindsSpec)

/-- 'codesearchlaw07.LocateCodes', WHERE WHAT IT READS IS OF BULK AT MOST 1048576: true; the input reads as it did. -/
def locateCodesUptoRow : OpenClaim := { program := "ytphohigoehpkeaa", sum := "ae385322bb6b85916b38f6719903d6e9502e962d9306766235748349477fa266", func := "codesearch/codesearchlaw07.LocateCodes", spec := "locateCodes", inPlace := ["internal/bytealg.CountString", "internal/bytealg.IndexByteString", "internal/bytealg.IndexString"], unfollowed := true, recurses := true, named := ["internal/bytealg.MaxLen"], apart := false, narrowed := true }
def LocateCodesUptoSaid : Prop := locateCodesUptoRow.holds Try.pinned (OpenSpec.upto locateCodesSpec)

/-- 'codesearchlaw07.LocateCandidates', WHERE WHAT IT READS IS OF BULK AT MOST 1048576: true; the input reads as it did. -/
def locateCandidatesUptoRow : OpenClaim := { program := "ytphohigoehpkeaa", sum := "ae385322bb6b85916b38f6719903d6e9502e962d9306766235748349477fa266", func := "codesearch/codesearchlaw07.LocateCandidates", spec := "locateCandidates", inPlace := ["internal/bytealg.CountString", "internal/bytealg.IndexByteString", "internal/bytealg.IndexString"], unfollowed := true, recurses := true, named := ["internal/bytealg.MaxLen"], apart := false, narrowed := true }
def LocateCandidatesUptoSaid : Prop := locateCandidatesUptoRow.holds Try.pinned (OpenSpec.upto locateCandidatesSpec)

/-- 'codesearchlaw07.LocateFolds', WHERE WHAT IT READS IS OF BULK AT MOST 1048576: true; the input reads as it did. -/
def locateFoldsUptoRow : OpenClaim := { program := "ytphohigoehpkeaa", sum := "ae385322bb6b85916b38f6719903d6e9502e962d9306766235748349477fa266", func := "codesearch/codesearchlaw07.LocateFolds", spec := "locateFolds", inPlace := ["internal/bytealg.CountString", "internal/bytealg.IndexByteString", "internal/bytealg.IndexString"], unfollowed := true, recurses := true, named := ["internal/bytealg.MaxLen"], apart := false, narrowed := true }
def LocateFoldsUptoSaid : Prop := locateFoldsUptoRow.holds Try.pinned (OpenSpec.upto locateFoldsSpec)

/-- 'codesearchlaw07.LocateApart', WHERE WHAT IT READS IS OF BULK AT MOST 1048576: true; the input reads as it did. -/
def locateApartUptoRow : OpenClaim := { program := "ytphohigoehpkeaa", sum := "ae385322bb6b85916b38f6719903d6e9502e962d9306766235748349477fa266", func := "codesearch/codesearchlaw07.LocateApart", spec := "locateApart", inPlace := ["internal/bytealg.CountString", "internal/bytealg.IndexByteString", "internal/bytealg.IndexString"], unfollowed := true, recurses := true, named := ["internal/bytealg.MaxLen"], apart := false, narrowed := true }
def LocateApartUptoSaid : Prop := locateApartUptoRow.holds Try.pinned (OpenSpec.upto locateApartSpec)

/-- 'codesearchlaw07.LocateNeeds', WHERE WHAT IT READS IS OF BULK AT MOST 1048576: true; the input reads as it did. -/
def locateNeedsUptoRow : OpenClaim := { program := "ytphohigoehpkeaa", sum := "ae385322bb6b85916b38f6719903d6e9502e962d9306766235748349477fa266", func := "codesearch/codesearchlaw07.LocateNeeds", spec := "locateNeeds", inPlace := ["internal/bytealg.CountString", "internal/bytealg.IndexByteString", "internal/bytealg.IndexString"], unfollowed := true, recurses := true, named := ["internal/bytealg.MaxLen"], apart := false, narrowed := true }
def LocateNeedsUptoSaid : Prop := locateNeedsUptoRow.holds Try.pinned (OpenSpec.upto locateNeedsSpec)

/-- 'codesearchlaw06.TrigramCodes', WHERE WHAT IT READS IS OF BULK AT MOST 1048576: true; the input reads as it did. -/
def trigramCodesUptoRow : OpenClaim := { program := "ytphohigoehpkeaa", sum := "ae385322bb6b85916b38f6719903d6e9502e962d9306766235748349477fa266", func := "codesearch/codesearchlaw06.TrigramCodes", spec := "trigramCodes", unfollowed := true, recurses := true, apart := false, narrowed := true }
def TrigramCodesUptoSaid : Prop := trigramCodesUptoRow.holds Try.pinned (OpenSpec.upto trigramCodesSpec)

/-- 'codesearchlaw06.TrigramSets', WHERE WHAT IT READS IS OF BULK AT MOST 1048576: true; the input reads as it did. -/
def trigramSetsUptoRow : OpenClaim := { program := "ytphohigoehpkeaa", sum := "ae385322bb6b85916b38f6719903d6e9502e962d9306766235748349477fa266", func := "codesearch/codesearchlaw06.TrigramSets", spec := "trigramSets", unfollowed := true, recurses := true, apart := false, narrowed := true }
def TrigramSetsUptoSaid : Prop := trigramSetsUptoRow.holds Try.pinned (OpenSpec.upto trigramSetsSpec)

/-- 'codesearchlaw06.TrigramLooks', WHERE WHAT IT READS IS OF BULK AT MOST 1048576: true; the input reads as it did. -/
def trigramLooksUptoRow : OpenClaim := { program := "ytphohigoehpkeaa", sum := "ae385322bb6b85916b38f6719903d6e9502e962d9306766235748349477fa266", func := "codesearch/codesearchlaw06.TrigramLooks", spec := "trigramLooks", unfollowed := true, recurses := true, apart := false, narrowed := true }
def TrigramLooksUptoSaid : Prop := trigramLooksUptoRow.holds Try.pinned (OpenSpec.upto trigramLooksSpec)

/-- 'codesearchlaw06.TrigramOccurs', WHERE WHAT IT READS IS OF BULK AT MOST 1048576: true; the input reads as it did. -/
def trigramOccursUptoRow : OpenClaim := { program := "ytphohigoehpkeaa", sum := "ae385322bb6b85916b38f6719903d6e9502e962d9306766235748349477fa266", func := "codesearch/codesearchlaw06.TrigramOccurs", spec := "trigramOccurs", unfollowed := true, recurses := true, apart := false, narrowed := true }
def TrigramOccursUptoSaid : Prop := trigramOccursUptoRow.holds Try.pinned (OpenSpec.upto trigramOccursSpec)

/-- 'codesearchlaw06.TrigramOffsets', WHERE WHAT IT READS IS OF BULK AT MOST 1048576: true; the input reads as it did. -/
def trigramOffsetsUptoRow : OpenClaim := { program := "ytphohigoehpkeaa", sum := "ae385322bb6b85916b38f6719903d6e9502e962d9306766235748349477fa266", func := "codesearch/codesearchlaw06.TrigramOffsets", spec := "trigramOffsets", unfollowed := true, recurses := true, apart := false, narrowed := true }
def TrigramOffsetsUptoSaid : Prop := trigramOffsetsUptoRow.holds Try.pinned (OpenSpec.upto trigramOffsetsSpec)

/-- 'codesearchlaw06.TrigramFolds', WHERE WHAT IT READS IS OF BULK AT MOST 1048576: true; the input reads as it did. -/
def trigramFoldsUptoRow : OpenClaim := { program := "ytphohigoehpkeaa", sum := "ae385322bb6b85916b38f6719903d6e9502e962d9306766235748349477fa266", func := "codesearch/codesearchlaw06.TrigramFolds", spec := "trigramFolds", unfollowed := true, recurses := true, apart := false, narrowed := true }
def TrigramFoldsUptoSaid : Prop := trigramFoldsUptoRow.holds Try.pinned (OpenSpec.upto trigramFoldsSpec)

/-- 'codesearchlaw07.LocateExact', WHERE WHAT IT READS IS OF BULK AT MOST 1048576: true; the input reads as it did. -/
def locateExactUptoRow : OpenClaim := { program := "ytphohigoehpkeaa", sum := "ae385322bb6b85916b38f6719903d6e9502e962d9306766235748349477fa266", func := "codesearch/codesearchlaw07.LocateExact", spec := "locateExact", inPlace := ["internal/bytealg.CountString", "internal/bytealg.IndexByteString", "internal/bytealg.IndexString"], unfollowed := true, recurses := true, named := ["internal/bytealg.MaxLen"], apart := false, narrowed := true }
def LocateExactUptoSaid : Prop := locateExactUptoRow.holds Try.pinned (OpenSpec.upto locateExactSpec)

end Rows
end Go.Proofs.Ytphohigoehpkeaa
