/-
  NARROWER THAN 'FOR EVERY INPUT', by the rows' own cells (each row's printed sentence says how): SegmentBuilds: laid · SegmentChecks: laid · SegmentAsks: laid · SegmentFinds: loops, laid · SegmentExact: loops, laid · SegmentSizes: laid · SegmentParts: laid.
  DERIVED. THE GIVEN ROWS OF THIS SEAT. 7 by the template 'for every input the law returns true; each argument reads behind the call as it read before'; 0 by the template 'total and deterministic' (their statements: YtlbmbnpknobjdaaGreatDoorTotals.lean).
  GIVEN WITH THE SEED: the statements are not yours to turn. If you find one false, say at which input.
  Laid BY PROGRAM, IN A SANDBOX (cutbox-rows.mjs): the forced cells as the released guide's own fill.sh prints them over the translation d1522e7ee5915b60… (all of the seat's roots in one cut). By AI agents, Wed Nov 11 2026. No macro, syntax, notation, axiom, sorry.
-/
import Derived.Test.YtlbmbnpknobjdaaGreatDoorChecked
import GoSem.PinnedTables
import GoSem.Claim
import GoSem.ClaimJoined
import GoSem.ClaimMapViews
import Derived.JoinedTies
import Derived.KernelRfl
namespace Go.Proofs.YtlbmbnpknobjdaaGreatDoor
/- THE CELL 'sum', in the pinned program and in every row, IS THE sha256 OF THE DUMP (.gsa) THAT YtlbmbnpknobjdaaGreatDoorProg.lean LOADS. Nothing in Lean hashes anything: it is a label: what it is worth is what the hold of that sum in a sandbox is worth. -/
noncomputable def Tryz.pinned : Pinned := { name := "ytlbmbnpknobjdaagreatdoor", sum := "d1522e7ee5915b60469875ad26ac99c1a80dac82a1a338f93387749655040b25", checked := Tryz.checked }
namespace Rows
def none {H : Type} : Left H := { results := [], args := [] }

/- WHAT THE LISTED PACKAGE-LEVEL VARIABLES READ AS WHEN THE CALL BEGINS. Each datum BY PROGRAM (the guide's laid-datum.mjs) off the statement by which the dump's own 'gosem.cut.vars' lays the variable. In a bare row this is a premise. The card (YtlbmbnpknobjdaaGreatDoorCards.lean) ties it to the program's text. -/
def laid_unicode_utf8_acceptRanges {H : Type} : DataW H := .agg [.agg [.lit (.int .u8 128), .lit (.int .u8 191)], .agg [.lit (.int .u8 160), .lit (.int .u8 191)], .agg [.lit (.int .u8 128), .lit (.int .u8 159)], .agg [.lit (.int .u8 144), .lit (.int .u8 191)], .agg [.lit (.int .u8 128), .lit (.int .u8 143)], .agg [.lit (.int .u8 0), .lit (.int .u8 0)], .agg [.lit (.int .u8 0), .lit (.int .u8 0)], .agg [.lit (.int .u8 0), .lit (.int .u8 0)], .agg [.lit (.int .u8 0), .lit (.int .u8 0)], .agg [.lit (.int .u8 0), .lit (.int .u8 0)], .agg [.lit (.int .u8 0), .lit (.int .u8 0)], .agg [.lit (.int .u8 0), .lit (.int .u8 0)], .agg [.lit (.int .u8 0), .lit (.int .u8 0)], .agg [.lit (.int .u8 0), .lit (.int .u8 0)], .agg [.lit (.int .u8 0), .lit (.int .u8 0)], .agg [.lit (.int .u8 0), .lit (.int .u8 0)]]
/-- One of Go's own tables, pinned by name: the form's constant. -/
def laid_unicode_utf8_first : DataW Unit := Go.Pinned.utf8First

/-- 'codesearchlaw29.SegmentBuilds': WHATEVER THE INPUT: true; the input reads as it did. -/
def segmentBuildsSpec : ChangeSpec := { name := "segmentBuilds", fn := fun _ => fun
  | [d] => { results := [.lit (.bool true)], args := [d] }
  | _ => none }
def segmentBuildsRow : OpenClaim := { program := "ytlbmbnpknobjdaagreatdoor", sum := "d1522e7ee5915b60469875ad26ac99c1a80dac82a1a338f93387749655040b25", func := "codesearch/codesearchlaw29.SegmentBuilds", spec := "segmentBuilds", inPlace := ["internal/bytealg.CountString", "internal/bytealg.IndexByteString", "internal/bytealg.IndexString"], unfollowed := true, recurses := true, named := ["unicode/utf8.first", "unicode/utf8.acceptRanges", "internal/bytealg.MaxLen"], plainKeys := false, apart := false, laid := [("unicode/utf8.acceptRanges", laid_unicode_utf8_acceptRanges), ("unicode/utf8.first", laid_unicode_utf8_first)] }
def SegmentBuildsSaid : Prop := segmentBuildsRow.holds Tryz.pinned (OpenSpec.ofChange segmentBuildsSpec)

/-- ITS FALSE NEIGHBOUR: 'it returns false'. Refute it at one input. -/
def segmentBuildsWrong : ChangeSpec := { name := "segmentBuilds", fn := fun _ => fun
  | [d] => { results := [.lit (.bool false)], args := [d] }
  | _ => none }
def SegmentBuildsWrongFalsely : Prop := segmentBuildsRow.holds Tryz.pinned (OpenSpec.ofChange segmentBuildsWrong)

/-- 'codesearchlaw29.SegmentChecks': WHATEVER THE INPUT: true; the input reads as it did. -/
def segmentChecksSpec : ChangeSpec := { name := "segmentChecks", fn := fun _ => fun
  | [d1, d2] => { results := [.lit (.bool true)], args := [d1, d2] }
  | _ => none }
def segmentChecksRow : OpenClaim := { program := "ytlbmbnpknobjdaagreatdoor", sum := "d1522e7ee5915b60469875ad26ac99c1a80dac82a1a338f93387749655040b25", func := "codesearch/codesearchlaw29.SegmentChecks", spec := "segmentChecks", inPlace := ["internal/bytealg.CountString", "internal/bytealg.IndexByteString", "internal/bytealg.IndexString"], unfollowed := true, recurses := true, named := ["unicode/utf8.first", "unicode/utf8.acceptRanges", "internal/bytealg.MaxLen"], plainKeys := false, apart := false, laid := [("unicode/utf8.acceptRanges", laid_unicode_utf8_acceptRanges), ("unicode/utf8.first", laid_unicode_utf8_first)] }
def SegmentChecksSaid : Prop := segmentChecksRow.holds Tryz.pinned (OpenSpec.ofChange segmentChecksSpec)

/-- ITS FALSE NEIGHBOUR: 'it returns false'. Refute it at one input. -/
def segmentChecksWrong : ChangeSpec := { name := "segmentChecks", fn := fun _ => fun
  | [d1, d2] => { results := [.lit (.bool false)], args := [d1, d2] }
  | _ => none }
def SegmentChecksWrongFalsely : Prop := segmentChecksRow.holds Tryz.pinned (OpenSpec.ofChange segmentChecksWrong)

/-- 'codesearchlaw29.SegmentAsks': WHATEVER THE INPUT: true; the input reads as it did. -/
def segmentAsksSpec : ChangeSpec := { name := "segmentAsks", fn := fun _ => fun
  | [d1, d2, d3] => { results := [.lit (.bool true)], args := [d1, d2, d3] }
  | _ => none }
def segmentAsksRow : OpenClaim := { program := "ytlbmbnpknobjdaagreatdoor", sum := "d1522e7ee5915b60469875ad26ac99c1a80dac82a1a338f93387749655040b25", func := "codesearch/codesearchlaw29.SegmentAsks", spec := "segmentAsks", inPlace := ["internal/bytealg.CountString", "internal/bytealg.IndexByteString", "internal/bytealg.IndexString"], unfollowed := true, recurses := true, named := ["unicode/utf8.first", "unicode/utf8.acceptRanges", "internal/bytealg.MaxLen"], plainKeys := false, apart := false, laid := [("unicode/utf8.acceptRanges", laid_unicode_utf8_acceptRanges), ("unicode/utf8.first", laid_unicode_utf8_first)] }
def SegmentAsksSaid : Prop := segmentAsksRow.holds Tryz.pinned (OpenSpec.ofChange segmentAsksSpec)

/-- ITS FALSE NEIGHBOUR: 'it returns false'. Refute it at one input. -/
def segmentAsksWrong : ChangeSpec := { name := "segmentAsks", fn := fun _ => fun
  | [d1, d2, d3] => { results := [.lit (.bool false)], args := [d1, d2, d3] }
  | _ => none }
def SegmentAsksWrongFalsely : Prop := segmentAsksRow.holds Tryz.pinned (OpenSpec.ofChange segmentAsksWrong)

/-- 'codesearchlaw29.SegmentFinds': WHATEVER THE INPUT: true; the input reads as it did. -/
def segmentFindsSpec : ChangeSpec := { name := "segmentFinds", fn := fun _ => fun
  | [d1, d2, d3] => { results := [.lit (.bool true)], args := [d1, d2, d3] }
  | _ => none }
def segmentFindsRow : OpenClaim := { program := "ytlbmbnpknobjdaagreatdoor", sum := "d1522e7ee5915b60469875ad26ac99c1a80dac82a1a338f93387749655040b25", func := "codesearch/codesearchlaw29.SegmentFinds", spec := "segmentFinds", inPlace := ["internal/bytealg.CountString", "internal/bytealg.IndexByteString", "internal/bytealg.IndexString"], unfollowed := true, recurses := true, named := ["unicode/utf8.first", "unicode/utf8.acceptRanges", "internal/bytealg.MaxLen"], loops := true, plainKeys := false, apart := false, laid := [("unicode/utf8.acceptRanges", laid_unicode_utf8_acceptRanges), ("unicode/utf8.first", laid_unicode_utf8_first)] }
def SegmentFindsSaid : Prop := segmentFindsRow.holds Tryz.pinned (OpenSpec.ofChange segmentFindsSpec)

/-- ITS FALSE NEIGHBOUR: 'it returns false'. Refute it at one input. -/
def segmentFindsWrong : ChangeSpec := { name := "segmentFinds", fn := fun _ => fun
  | [d1, d2, d3] => { results := [.lit (.bool false)], args := [d1, d2, d3] }
  | _ => none }
def SegmentFindsWrongFalsely : Prop := segmentFindsRow.holds Tryz.pinned (OpenSpec.ofChange segmentFindsWrong)

/-- 'codesearchlaw29.SegmentExact': WHATEVER THE INPUT: true; the input reads as it did. -/
def segmentExactSpec : ChangeSpec := { name := "segmentExact", fn := fun _ => fun
  | [d1, d2, d3] => { results := [.lit (.bool true)], args := [d1, d2, d3] }
  | _ => none }
def segmentExactRow : OpenClaim := { program := "ytlbmbnpknobjdaagreatdoor", sum := "d1522e7ee5915b60469875ad26ac99c1a80dac82a1a338f93387749655040b25", func := "codesearch/codesearchlaw29.SegmentExact", spec := "segmentExact", inPlace := ["internal/bytealg.CountString", "internal/bytealg.IndexByteString", "internal/bytealg.IndexString"], unfollowed := true, recurses := true, named := ["unicode/utf8.first", "unicode/utf8.acceptRanges", "internal/bytealg.MaxLen"], loops := true, plainKeys := false, apart := false, laid := [("unicode/utf8.acceptRanges", laid_unicode_utf8_acceptRanges), ("unicode/utf8.first", laid_unicode_utf8_first)] }
def SegmentExactSaid : Prop := segmentExactRow.holds Tryz.pinned (OpenSpec.ofChange segmentExactSpec)

/-- ITS FALSE NEIGHBOUR: 'it returns false'. Refute it at one input. -/
def segmentExactWrong : ChangeSpec := { name := "segmentExact", fn := fun _ => fun
  | [d1, d2, d3] => { results := [.lit (.bool false)], args := [d1, d2, d3] }
  | _ => none }
def SegmentExactWrongFalsely : Prop := segmentExactRow.holds Tryz.pinned (OpenSpec.ofChange segmentExactWrong)

/-- 'codesearchlaw29.SegmentSizes': WHATEVER THE INPUT: true; the input reads as it did. -/
def segmentSizesSpec : ChangeSpec := { name := "segmentSizes", fn := fun _ => fun
  | [d] => { results := [.lit (.bool true)], args := [d] }
  | _ => none }
def segmentSizesRow : OpenClaim := { program := "ytlbmbnpknobjdaagreatdoor", sum := "d1522e7ee5915b60469875ad26ac99c1a80dac82a1a338f93387749655040b25", func := "codesearch/codesearchlaw29.SegmentSizes", spec := "segmentSizes", inPlace := ["internal/bytealg.CountString", "internal/bytealg.IndexByteString", "internal/bytealg.IndexString"], unfollowed := true, recurses := true, named := ["unicode/utf8.first", "unicode/utf8.acceptRanges", "internal/bytealg.MaxLen"], plainKeys := false, apart := false, laid := [("unicode/utf8.acceptRanges", laid_unicode_utf8_acceptRanges), ("unicode/utf8.first", laid_unicode_utf8_first)] }
def SegmentSizesSaid : Prop := segmentSizesRow.holds Tryz.pinned (OpenSpec.ofChange segmentSizesSpec)

/-- ITS FALSE NEIGHBOUR: 'it returns false'. Refute it at one input. -/
def segmentSizesWrong : ChangeSpec := { name := "segmentSizes", fn := fun _ => fun
  | [d] => { results := [.lit (.bool false)], args := [d] }
  | _ => none }
def SegmentSizesWrongFalsely : Prop := segmentSizesRow.holds Tryz.pinned (OpenSpec.ofChange segmentSizesWrong)

/-- 'codesearchlaw29.SegmentParts': WHATEVER THE INPUT: true; the input reads as it did. -/
def segmentPartsSpec : ChangeSpec := { name := "segmentParts", fn := fun _ => fun
  | [d1, d2] => { results := [.lit (.bool true)], args := [d1, d2] }
  | _ => none }
def segmentPartsRow : OpenClaim := { program := "ytlbmbnpknobjdaagreatdoor", sum := "d1522e7ee5915b60469875ad26ac99c1a80dac82a1a338f93387749655040b25", func := "codesearch/codesearchlaw29.SegmentParts", spec := "segmentParts", inPlace := ["internal/bytealg.CountString", "internal/bytealg.IndexByteString", "internal/bytealg.IndexString"], unfollowed := true, recurses := true, named := ["unicode/utf8.first", "unicode/utf8.acceptRanges", "internal/bytealg.MaxLen"], plainKeys := false, apart := false, laid := [("unicode/utf8.acceptRanges", laid_unicode_utf8_acceptRanges), ("unicode/utf8.first", laid_unicode_utf8_first)] }
def SegmentPartsSaid : Prop := segmentPartsRow.holds Tryz.pinned (OpenSpec.ofChange segmentPartsSpec)

/-- ITS FALSE NEIGHBOUR: 'it returns false'. Refute it at one input. -/
def segmentPartsWrong : ChangeSpec := { name := "segmentParts", fn := fun _ => fun
  | [d1, d2] => { results := [.lit (.bool false)], args := [d1, d2] }
  | _ => none }
def SegmentPartsWrongFalsely : Prop := segmentPartsRow.holds Tryz.pinned (OpenSpec.ofChange segmentPartsWrong)

/- THE SECOND FORM. 'bulk': how many values and letters a reading holds, each counted each time it is reached (what is shared counts as often as it is met; a slice's spare places count too). A statement '..UptoSaid' is the law's where the arguments, and the package variables that the reading takes, are together of bulk at most 1048576: NARROWER than '..Said'. Prove '..Said' where nothing that the law and all that it calls make is longer than what came in: it says more and counts as full. Else prove '..UptoSaid'. A law counts once. -/
mutual
def uptoBulk {H : Type} : DataW H → Nat
  | .lit (.string bytes) => bytes.length + 1
  | .lit _ => 1
  | .nil => 1
  | .ptr d => uptoBulk d + 1
  | .slice elems spare => uptoBulkAll elems + uptoBulkAll spare + 1
  | .agg parts => uptoBulkAll parts + 1
  | .iface _ d => uptoBulk d + 1
  | .map entries => uptoBulkEntries entries + 1
  | .held _ => 1
def uptoBulkAll {H : Type} : List (DataW H) → Nat
  | [] => 0
  | d :: r => uptoBulk d + uptoBulkAll r
def uptoBulkEntries {H : Type} : List (Lit × DataW H) → Nat
  | [] => 0
  | x :: r => uptoBulkEntry x + uptoBulkEntries r
def uptoBulkEntry {H : Type} : Lit × DataW H → Nat
  | (.string bytes, d) => bytes.length + uptoBulk d + 1
  | (_, d) => uptoBulk d + 1
 end
def uptoSmall : (H : Type) → List (DataW H) → Bool := fun _ ds => decide (uptoBulkAll ds ≤ 1048576)
def OpenSpec.upto (s : _root_.Go.ChangeSpec) : _root_.Go.OpenSpec := { _root_.Go.OpenSpec.ofChange s with cond := some uptoSmall }

/-- 'codesearchlaw29.SegmentBuilds', WHERE WHAT IT READS IS OF BULK AT MOST 1048576: true; the input reads as it did. -/
def segmentBuildsUptoRow : OpenClaim := { program := "ytlbmbnpknobjdaagreatdoor", sum := "d1522e7ee5915b60469875ad26ac99c1a80dac82a1a338f93387749655040b25", func := "codesearch/codesearchlaw29.SegmentBuilds", spec := "segmentBuilds", inPlace := ["internal/bytealg.CountString", "internal/bytealg.IndexByteString", "internal/bytealg.IndexString"], unfollowed := true, recurses := true, named := ["unicode/utf8.first", "unicode/utf8.acceptRanges", "internal/bytealg.MaxLen"], plainKeys := false, apart := false, laid := [("unicode/utf8.acceptRanges", laid_unicode_utf8_acceptRanges), ("unicode/utf8.first", laid_unicode_utf8_first)], narrowed := true }
def SegmentBuildsUptoSaid : Prop := segmentBuildsUptoRow.holds Tryz.pinned (OpenSpec.upto segmentBuildsSpec)

/-- 'codesearchlaw29.SegmentChecks', WHERE WHAT IT READS IS OF BULK AT MOST 1048576: true; the input reads as it did. -/
def segmentChecksUptoRow : OpenClaim := { program := "ytlbmbnpknobjdaagreatdoor", sum := "d1522e7ee5915b60469875ad26ac99c1a80dac82a1a338f93387749655040b25", func := "codesearch/codesearchlaw29.SegmentChecks", spec := "segmentChecks", inPlace := ["internal/bytealg.CountString", "internal/bytealg.IndexByteString", "internal/bytealg.IndexString"], unfollowed := true, recurses := true, named := ["unicode/utf8.first", "unicode/utf8.acceptRanges", "internal/bytealg.MaxLen"], plainKeys := false, apart := false, laid := [("unicode/utf8.acceptRanges", laid_unicode_utf8_acceptRanges), ("unicode/utf8.first", laid_unicode_utf8_first)], narrowed := true }
def SegmentChecksUptoSaid : Prop := segmentChecksUptoRow.holds Tryz.pinned (OpenSpec.upto segmentChecksSpec)

/-- 'codesearchlaw29.SegmentAsks', WHERE WHAT IT READS IS OF BULK AT MOST 1048576: true; the input reads as it did. -/
def segmentAsksUptoRow : OpenClaim := { program := "ytlbmbnpknobjdaagreatdoor", sum := "d1522e7ee5915b60469875ad26ac99c1a80dac82a1a338f93387749655040b25", func := "codesearch/codesearchlaw29.SegmentAsks", spec := "segmentAsks", inPlace := ["internal/bytealg.CountString", "internal/bytealg.IndexByteString", "internal/bytealg.IndexString"], unfollowed := true, recurses := true, named := ["unicode/utf8.first", "unicode/utf8.acceptRanges", "internal/bytealg.MaxLen"], plainKeys := false, apart := false, laid := [("unicode/utf8.acceptRanges", laid_unicode_utf8_acceptRanges), ("unicode/utf8.first", laid_unicode_utf8_first)], narrowed := true }
def SegmentAsksUptoSaid : Prop := segmentAsksUptoRow.holds Tryz.pinned (OpenSpec.upto segmentAsksSpec)

/-- 'codesearchlaw29.SegmentFinds', WHERE WHAT IT READS IS OF BULK AT MOST 1048576: true; the input reads as it did. -/
def segmentFindsUptoRow : OpenClaim := { program := "ytlbmbnpknobjdaagreatdoor", sum := "d1522e7ee5915b60469875ad26ac99c1a80dac82a1a338f93387749655040b25", func := "codesearch/codesearchlaw29.SegmentFinds", spec := "segmentFinds", inPlace := ["internal/bytealg.CountString", "internal/bytealg.IndexByteString", "internal/bytealg.IndexString"], unfollowed := true, recurses := true, named := ["unicode/utf8.first", "unicode/utf8.acceptRanges", "internal/bytealg.MaxLen"], loops := true, plainKeys := false, apart := false, laid := [("unicode/utf8.acceptRanges", laid_unicode_utf8_acceptRanges), ("unicode/utf8.first", laid_unicode_utf8_first)], narrowed := true }
def SegmentFindsUptoSaid : Prop := segmentFindsUptoRow.holds Tryz.pinned (OpenSpec.upto segmentFindsSpec)

/-- 'codesearchlaw29.SegmentExact', WHERE WHAT IT READS IS OF BULK AT MOST 1048576: true; the input reads as it did. -/
def segmentExactUptoRow : OpenClaim := { program := "ytlbmbnpknobjdaagreatdoor", sum := "d1522e7ee5915b60469875ad26ac99c1a80dac82a1a338f93387749655040b25", func := "codesearch/codesearchlaw29.SegmentExact", spec := "segmentExact", inPlace := ["internal/bytealg.CountString", "internal/bytealg.IndexByteString", "internal/bytealg.IndexString"], unfollowed := true, recurses := true, named := ["unicode/utf8.first", "unicode/utf8.acceptRanges", "internal/bytealg.MaxLen"], loops := true, plainKeys := false, apart := false, laid := [("unicode/utf8.acceptRanges", laid_unicode_utf8_acceptRanges), ("unicode/utf8.first", laid_unicode_utf8_first)], narrowed := true }
def SegmentExactUptoSaid : Prop := segmentExactUptoRow.holds Tryz.pinned (OpenSpec.upto segmentExactSpec)

/-- 'codesearchlaw29.SegmentSizes', WHERE WHAT IT READS IS OF BULK AT MOST 1048576: true; the input reads as it did. -/
def segmentSizesUptoRow : OpenClaim := { program := "ytlbmbnpknobjdaagreatdoor", sum := "d1522e7ee5915b60469875ad26ac99c1a80dac82a1a338f93387749655040b25", func := "codesearch/codesearchlaw29.SegmentSizes", spec := "segmentSizes", inPlace := ["internal/bytealg.CountString", "internal/bytealg.IndexByteString", "internal/bytealg.IndexString"], unfollowed := true, recurses := true, named := ["unicode/utf8.first", "unicode/utf8.acceptRanges", "internal/bytealg.MaxLen"], plainKeys := false, apart := false, laid := [("unicode/utf8.acceptRanges", laid_unicode_utf8_acceptRanges), ("unicode/utf8.first", laid_unicode_utf8_first)], narrowed := true }
def SegmentSizesUptoSaid : Prop := segmentSizesUptoRow.holds Tryz.pinned (OpenSpec.upto segmentSizesSpec)

/-- 'codesearchlaw29.SegmentParts', WHERE WHAT IT READS IS OF BULK AT MOST 1048576: true; the input reads as it did. -/
def segmentPartsUptoRow : OpenClaim := { program := "ytlbmbnpknobjdaagreatdoor", sum := "d1522e7ee5915b60469875ad26ac99c1a80dac82a1a338f93387749655040b25", func := "codesearch/codesearchlaw29.SegmentParts", spec := "segmentParts", inPlace := ["internal/bytealg.CountString", "internal/bytealg.IndexByteString", "internal/bytealg.IndexString"], unfollowed := true, recurses := true, named := ["unicode/utf8.first", "unicode/utf8.acceptRanges", "internal/bytealg.MaxLen"], plainKeys := false, apart := false, laid := [("unicode/utf8.acceptRanges", laid_unicode_utf8_acceptRanges), ("unicode/utf8.first", laid_unicode_utf8_first)], narrowed := true }
def SegmentPartsUptoSaid : Prop := segmentPartsUptoRow.holds Tryz.pinned (OpenSpec.upto segmentPartsSpec)

end Rows
end Go.Proofs.YtlbmbnpknobjdaaGreatDoor
