/-
  NARROWER THAN 'FOR EVERY INPUT', by the rows' own cells (each row's printed sentence says how): DocsRights: laid · DocsOf: laid · DocsChanges: laid · DocsApplies: laid · DocsFinds: laid · DocsFollow: laid · DocsBranches: laid.
  DERIVED. THE GIVEN ROWS OF THIS SEAT. 7 by the template 'for every input the law returns true; each argument reads behind the call as it read before'; 0 by the template 'total and deterministic' (their statements: YtcmomegkhoggpaaGreatDoorTotals.lean).
  GIVEN WITH THE SEED: the statements are not yours to turn. If you find one false, say at which input.
  Laid BY PROGRAM, IN A SANDBOX (cutbox-rows.mjs): the forced cells as the released guide's own fill.sh prints them over the translation 3a9c218f9b36de75… (all of the seat's roots in one cut). By AI agents, Wed Nov 11 2026. No macro, syntax, notation, axiom, sorry.
-/
import Derived.Test.YtcmomegkhoggpaaGreatDoorChecked
import GoSem.PinnedTables
import GoSem.Claim
import GoSem.ClaimJoined
import GoSem.ClaimMapViews
import Derived.JoinedTies
import Derived.KernelRfl
namespace Go.Proofs.YtcmomegkhoggpaaGreatDoor
/- THE CELL 'sum', in the pinned program and in every row, IS THE sha256 OF THE DUMP (.gsa) THAT YtcmomegkhoggpaaGreatDoorProg.lean LOADS. Nothing in Lean hashes anything: it is a label: what it is worth is what the hold of that sum in a sandbox is worth. -/
noncomputable def Tryz.pinned : Pinned := { name := "ytcmomegkhoggpaagreatdoor", sum := "3a9c218f9b36de75ea0799e4e4e07476fbcb50c7063aabb7d9ff56e687acd642", checked := Tryz.checked }
namespace Rows
def none {H : Type} : Left H := { results := [], args := [] }

/- WHAT THE LISTED PACKAGE-LEVEL VARIABLES READ AS WHEN THE CALL BEGINS. Each datum BY PROGRAM (the guide's laid-datum.mjs) off the statement by which the dump's own 'gosem.cut.vars' lays the variable. In a bare row this is a premise. The card (YtcmomegkhoggpaaGreatDoorCards.lean) ties it to the program's text. -/
def laid_unicode_utf8_acceptRanges {H : Type} : DataW H := .agg [.agg [.lit (.int .u8 128), .lit (.int .u8 191)], .agg [.lit (.int .u8 160), .lit (.int .u8 191)], .agg [.lit (.int .u8 128), .lit (.int .u8 159)], .agg [.lit (.int .u8 144), .lit (.int .u8 191)], .agg [.lit (.int .u8 128), .lit (.int .u8 143)], .agg [.lit (.int .u8 0), .lit (.int .u8 0)], .agg [.lit (.int .u8 0), .lit (.int .u8 0)], .agg [.lit (.int .u8 0), .lit (.int .u8 0)], .agg [.lit (.int .u8 0), .lit (.int .u8 0)], .agg [.lit (.int .u8 0), .lit (.int .u8 0)], .agg [.lit (.int .u8 0), .lit (.int .u8 0)], .agg [.lit (.int .u8 0), .lit (.int .u8 0)], .agg [.lit (.int .u8 0), .lit (.int .u8 0)], .agg [.lit (.int .u8 0), .lit (.int .u8 0)], .agg [.lit (.int .u8 0), .lit (.int .u8 0)], .agg [.lit (.int .u8 0), .lit (.int .u8 0)]]
/-- One of Go's own tables, pinned by name: the form's constant. -/
def laid_unicode_utf8_first : DataW Unit := Go.Pinned.utf8First

/-- 'codesearchlaw28.DocsRights': WHATEVER THE INPUT: true; the input reads as it did. -/
def docsRightsSpec : ChangeSpec := { name := "docsRights", fn := fun _ => fun
  | [d1, d2] => { results := [.lit (.bool true)], args := [d1, d2] }
  | _ => none }
def docsRightsRow : OpenClaim := { program := "ytcmomegkhoggpaagreatdoor", sum := "3a9c218f9b36de75ea0799e4e4e07476fbcb50c7063aabb7d9ff56e687acd642", func := "codesearch/codesearchlaw28.DocsRights", spec := "docsRights", inPlace := ["internal/bytealg.CountString", "internal/bytealg.IndexByteString", "internal/bytealg.IndexString", "internal/reflectlite.ValueOf", "internal/reflectlite.Swapper", "(internal/reflectlite.Value).Len"], unfollowed := true, recurses := true, named := ["unicode/utf8.first", "unicode/utf8.acceptRanges", "internal/bytealg.MaxLen"], plainKeys := false, apart := false, laid := [("unicode/utf8.acceptRanges", laid_unicode_utf8_acceptRanges), ("unicode/utf8.first", laid_unicode_utf8_first)] }
def DocsRightsSaid : Prop := docsRightsRow.holds Tryz.pinned (OpenSpec.ofChange docsRightsSpec)

/-- ITS FALSE NEIGHBOUR: 'it returns false'. Refute it at one input. -/
def docsRightsWrong : ChangeSpec := { name := "docsRights", fn := fun _ => fun
  | [d1, d2] => { results := [.lit (.bool false)], args := [d1, d2] }
  | _ => none }
def DocsRightsWrongFalsely : Prop := docsRightsRow.holds Tryz.pinned (OpenSpec.ofChange docsRightsWrong)

/-- 'codesearchlaw28.DocsOf': WHATEVER THE INPUT: true; the input reads as it did. -/
def docsOfSpec : ChangeSpec := { name := "docsOf", fn := fun _ => fun
  | [d] => { results := [.lit (.bool true)], args := [d] }
  | _ => none }
def docsOfRow : OpenClaim := { program := "ytcmomegkhoggpaagreatdoor", sum := "3a9c218f9b36de75ea0799e4e4e07476fbcb50c7063aabb7d9ff56e687acd642", func := "codesearch/codesearchlaw28.DocsOf", spec := "docsOf", inPlace := ["internal/bytealg.CountString", "internal/bytealg.IndexByteString", "internal/bytealg.IndexString", "internal/reflectlite.ValueOf", "internal/reflectlite.Swapper", "(internal/reflectlite.Value).Len"], unfollowed := true, recurses := true, named := ["unicode/utf8.first", "unicode/utf8.acceptRanges", "internal/bytealg.MaxLen"], plainKeys := false, apart := false, laid := [("unicode/utf8.acceptRanges", laid_unicode_utf8_acceptRanges), ("unicode/utf8.first", laid_unicode_utf8_first)] }
def DocsOfSaid : Prop := docsOfRow.holds Tryz.pinned (OpenSpec.ofChange docsOfSpec)

/-- ITS FALSE NEIGHBOUR: 'it returns false'. Refute it at one input. -/
def docsOfWrong : ChangeSpec := { name := "docsOf", fn := fun _ => fun
  | [d] => { results := [.lit (.bool false)], args := [d] }
  | _ => none }
def DocsOfWrongFalsely : Prop := docsOfRow.holds Tryz.pinned (OpenSpec.ofChange docsOfWrong)

/-- 'codesearchlaw28.DocsChanges': WHATEVER THE INPUT: true; the input reads as it did. -/
def docsChangesSpec : ChangeSpec := { name := "docsChanges", fn := fun _ => fun
  | [d1, d2, d3] => { results := [.lit (.bool true)], args := [d1, d2, d3] }
  | _ => none }
def docsChangesRow : OpenClaim := { program := "ytcmomegkhoggpaagreatdoor", sum := "3a9c218f9b36de75ea0799e4e4e07476fbcb50c7063aabb7d9ff56e687acd642", func := "codesearch/codesearchlaw28.DocsChanges", spec := "docsChanges", inPlace := ["internal/bytealg.CountString", "internal/bytealg.IndexByteString", "internal/bytealg.IndexString", "internal/reflectlite.ValueOf", "internal/reflectlite.Swapper", "(internal/reflectlite.Value).Len"], unfollowed := true, recurses := true, named := ["unicode/utf8.first", "unicode/utf8.acceptRanges", "internal/bytealg.MaxLen"], plainKeys := false, apart := false, laid := [("unicode/utf8.acceptRanges", laid_unicode_utf8_acceptRanges), ("unicode/utf8.first", laid_unicode_utf8_first)] }
def DocsChangesSaid : Prop := docsChangesRow.holds Tryz.pinned (OpenSpec.ofChange docsChangesSpec)

/-- ITS FALSE NEIGHBOUR: 'it returns false'. Refute it at one input. -/
def docsChangesWrong : ChangeSpec := { name := "docsChanges", fn := fun _ => fun
  | [d1, d2, d3] => { results := [.lit (.bool false)], args := [d1, d2, d3] }
  | _ => none }
def DocsChangesWrongFalsely : Prop := docsChangesRow.holds Tryz.pinned (OpenSpec.ofChange docsChangesWrong)

/-- 'codesearchlaw28.DocsApplies': WHATEVER THE INPUT: true; the input reads as it did. -/
def docsAppliesSpec : ChangeSpec := { name := "docsApplies", fn := fun _ => fun
  | [d1, d2] => { results := [.lit (.bool true)], args := [d1, d2] }
  | _ => none }
def docsAppliesRow : OpenClaim := { program := "ytcmomegkhoggpaagreatdoor", sum := "3a9c218f9b36de75ea0799e4e4e07476fbcb50c7063aabb7d9ff56e687acd642", func := "codesearch/codesearchlaw28.DocsApplies", spec := "docsApplies", inPlace := ["internal/bytealg.CountString", "internal/bytealg.IndexByteString", "internal/bytealg.IndexString", "internal/reflectlite.ValueOf", "internal/reflectlite.Swapper", "(internal/reflectlite.Value).Len"], unfollowed := true, recurses := true, named := ["unicode/utf8.first", "unicode/utf8.acceptRanges", "internal/bytealg.MaxLen"], plainKeys := false, apart := false, laid := [("unicode/utf8.acceptRanges", laid_unicode_utf8_acceptRanges), ("unicode/utf8.first", laid_unicode_utf8_first)] }
def DocsAppliesSaid : Prop := docsAppliesRow.holds Tryz.pinned (OpenSpec.ofChange docsAppliesSpec)

/-- ITS FALSE NEIGHBOUR: 'it returns false'. Refute it at one input. -/
def docsAppliesWrong : ChangeSpec := { name := "docsApplies", fn := fun _ => fun
  | [d1, d2] => { results := [.lit (.bool false)], args := [d1, d2] }
  | _ => none }
def DocsAppliesWrongFalsely : Prop := docsAppliesRow.holds Tryz.pinned (OpenSpec.ofChange docsAppliesWrong)

/-- 'codesearchlaw28.DocsFinds': WHATEVER THE INPUT: true; the input reads as it did. -/
def docsFindsSpec : ChangeSpec := { name := "docsFinds", fn := fun _ => fun
  | [d1, d2] => { results := [.lit (.bool true)], args := [d1, d2] }
  | _ => none }
def docsFindsRow : OpenClaim := { program := "ytcmomegkhoggpaagreatdoor", sum := "3a9c218f9b36de75ea0799e4e4e07476fbcb50c7063aabb7d9ff56e687acd642", func := "codesearch/codesearchlaw28.DocsFinds", spec := "docsFinds", inPlace := ["internal/bytealg.CountString", "internal/bytealg.IndexByteString", "internal/bytealg.IndexString", "internal/reflectlite.ValueOf", "internal/reflectlite.Swapper", "(internal/reflectlite.Value).Len"], unfollowed := true, recurses := true, named := ["unicode/utf8.first", "unicode/utf8.acceptRanges", "internal/bytealg.MaxLen"], plainKeys := false, apart := false, laid := [("unicode/utf8.acceptRanges", laid_unicode_utf8_acceptRanges), ("unicode/utf8.first", laid_unicode_utf8_first)] }
def DocsFindsSaid : Prop := docsFindsRow.holds Tryz.pinned (OpenSpec.ofChange docsFindsSpec)

/-- ITS FALSE NEIGHBOUR: 'it returns false'. Refute it at one input. -/
def docsFindsWrong : ChangeSpec := { name := "docsFinds", fn := fun _ => fun
  | [d1, d2] => { results := [.lit (.bool false)], args := [d1, d2] }
  | _ => none }
def DocsFindsWrongFalsely : Prop := docsFindsRow.holds Tryz.pinned (OpenSpec.ofChange docsFindsWrong)

/-- 'codesearchlaw28.DocsFollow': WHATEVER THE INPUT: true; the input reads as it did. -/
def docsFollowSpec : ChangeSpec := { name := "docsFollow", fn := fun _ => fun
  | [d1, d2, d3] => { results := [.lit (.bool true)], args := [d1, d2, d3] }
  | _ => none }
def docsFollowRow : OpenClaim := { program := "ytcmomegkhoggpaagreatdoor", sum := "3a9c218f9b36de75ea0799e4e4e07476fbcb50c7063aabb7d9ff56e687acd642", func := "codesearch/codesearchlaw28.DocsFollow", spec := "docsFollow", inPlace := ["internal/bytealg.CountString", "internal/bytealg.IndexByteString", "internal/bytealg.IndexString", "internal/reflectlite.ValueOf", "internal/reflectlite.Swapper", "(internal/reflectlite.Value).Len"], unfollowed := true, recurses := true, named := ["unicode/utf8.first", "unicode/utf8.acceptRanges", "internal/bytealg.MaxLen"], plainKeys := false, apart := false, laid := [("unicode/utf8.acceptRanges", laid_unicode_utf8_acceptRanges), ("unicode/utf8.first", laid_unicode_utf8_first)] }
def DocsFollowSaid : Prop := docsFollowRow.holds Tryz.pinned (OpenSpec.ofChange docsFollowSpec)

/-- ITS FALSE NEIGHBOUR: 'it returns false'. Refute it at one input. -/
def docsFollowWrong : ChangeSpec := { name := "docsFollow", fn := fun _ => fun
  | [d1, d2, d3] => { results := [.lit (.bool false)], args := [d1, d2, d3] }
  | _ => none }
def DocsFollowWrongFalsely : Prop := docsFollowRow.holds Tryz.pinned (OpenSpec.ofChange docsFollowWrong)

/-- 'codesearchlaw28.DocsBranches': WHATEVER THE INPUT: true; the input reads as it did. -/
def docsBranchesSpec : ChangeSpec := { name := "docsBranches", fn := fun _ => fun
  | [d] => { results := [.lit (.bool true)], args := [d] }
  | _ => none }
def docsBranchesRow : OpenClaim := { program := "ytcmomegkhoggpaagreatdoor", sum := "3a9c218f9b36de75ea0799e4e4e07476fbcb50c7063aabb7d9ff56e687acd642", func := "codesearch/codesearchlaw28.DocsBranches", spec := "docsBranches", inPlace := ["internal/bytealg.CountString", "internal/bytealg.IndexByteString", "internal/bytealg.IndexString", "internal/reflectlite.ValueOf", "internal/reflectlite.Swapper", "(internal/reflectlite.Value).Len"], unfollowed := true, recurses := true, named := ["unicode/utf8.first", "unicode/utf8.acceptRanges", "internal/bytealg.MaxLen"], plainKeys := false, apart := false, laid := [("unicode/utf8.acceptRanges", laid_unicode_utf8_acceptRanges), ("unicode/utf8.first", laid_unicode_utf8_first)] }
def DocsBranchesSaid : Prop := docsBranchesRow.holds Tryz.pinned (OpenSpec.ofChange docsBranchesSpec)

/-- ITS FALSE NEIGHBOUR: 'it returns false'. Refute it at one input. -/
def docsBranchesWrong : ChangeSpec := { name := "docsBranches", fn := fun _ => fun
  | [d] => { results := [.lit (.bool false)], args := [d] }
  | _ => none }
def DocsBranchesWrongFalsely : Prop := docsBranchesRow.holds Tryz.pinned (OpenSpec.ofChange docsBranchesWrong)

/- THE SECOND FORM. 'bulk': how many values and letters a reading holds, each counted each time it is reached (what is shared counts as often as it is met; a slice's spare places count too). A statement '..UptoSaid' is the law's where the arguments, and the package variables that the reading takes, are together of bulk at most 1048576: NARROWER than '..Said'. Prove '..Said' where nothing that the law and all that it calls make is longer than what came in: it says more and counts as full. Else prove '..UptoSaid'. A law counts once. -/
mutual
def uptoBulk {H : Type} : DataW H → Nat
  | .lit (.string bytes) => bytes.length + 1
  | .lit _ => 1
  | .nil => 1
  | .ptr d => uptoBulk d + 1
  | .slice elems spare => uptoBulkAll elems + uptoBulkAll spare + 1
  | .agg parts => uptoBulkAll parts + 1
  | .iface _ d => uptoBulk d + 1
  | .map entries => uptoBulkEntries entries + 1
  | .held _ => 1
def uptoBulkAll {H : Type} : List (DataW H) → Nat
  | [] => 0
  | d :: r => uptoBulk d + uptoBulkAll r
def uptoBulkEntries {H : Type} : List (Lit × DataW H) → Nat
  | [] => 0
  | x :: r => uptoBulkEntry x + uptoBulkEntries r
def uptoBulkEntry {H : Type} : Lit × DataW H → Nat
  | (.string bytes, d) => bytes.length + uptoBulk d + 1
  | (_, d) => uptoBulk d + 1
 end
def uptoSmall : (H : Type) → List (DataW H) → Bool := fun _ ds => decide (uptoBulkAll ds ≤ 1048576)
def OpenSpec.upto (s : _root_.Go.ChangeSpec) : _root_.Go.OpenSpec := { _root_.Go.OpenSpec.ofChange s with cond := some uptoSmall }

/-- 'codesearchlaw28.DocsRights', WHERE WHAT IT READS IS OF BULK AT MOST 1048576: true; the input reads as it did. -/
def docsRightsUptoRow : OpenClaim := { program := "ytcmomegkhoggpaagreatdoor", sum := "3a9c218f9b36de75ea0799e4e4e07476fbcb50c7063aabb7d9ff56e687acd642", func := "codesearch/codesearchlaw28.DocsRights", spec := "docsRights", inPlace := ["internal/bytealg.CountString", "internal/bytealg.IndexByteString", "internal/bytealg.IndexString", "internal/reflectlite.ValueOf", "internal/reflectlite.Swapper", "(internal/reflectlite.Value).Len"], unfollowed := true, recurses := true, named := ["unicode/utf8.first", "unicode/utf8.acceptRanges", "internal/bytealg.MaxLen"], plainKeys := false, apart := false, laid := [("unicode/utf8.acceptRanges", laid_unicode_utf8_acceptRanges), ("unicode/utf8.first", laid_unicode_utf8_first)], narrowed := true }
def DocsRightsUptoSaid : Prop := docsRightsUptoRow.holds Tryz.pinned (OpenSpec.upto docsRightsSpec)

/-- 'codesearchlaw28.DocsOf', WHERE WHAT IT READS IS OF BULK AT MOST 1048576: true; the input reads as it did. -/
def docsOfUptoRow : OpenClaim := { program := "ytcmomegkhoggpaagreatdoor", sum := "3a9c218f9b36de75ea0799e4e4e07476fbcb50c7063aabb7d9ff56e687acd642", func := "codesearch/codesearchlaw28.DocsOf", spec := "docsOf", inPlace := ["internal/bytealg.CountString", "internal/bytealg.IndexByteString", "internal/bytealg.IndexString", "internal/reflectlite.ValueOf", "internal/reflectlite.Swapper", "(internal/reflectlite.Value).Len"], unfollowed := true, recurses := true, named := ["unicode/utf8.first", "unicode/utf8.acceptRanges", "internal/bytealg.MaxLen"], plainKeys := false, apart := false, laid := [("unicode/utf8.acceptRanges", laid_unicode_utf8_acceptRanges), ("unicode/utf8.first", laid_unicode_utf8_first)], narrowed := true }
def DocsOfUptoSaid : Prop := docsOfUptoRow.holds Tryz.pinned (OpenSpec.upto docsOfSpec)

/-- 'codesearchlaw28.DocsChanges', WHERE WHAT IT READS IS OF BULK AT MOST 1048576: true; the input reads as it did. -/
def docsChangesUptoRow : OpenClaim := { program := "ytcmomegkhoggpaagreatdoor", sum := "3a9c218f9b36de75ea0799e4e4e07476fbcb50c7063aabb7d9ff56e687acd642", func := "codesearch/codesearchlaw28.DocsChanges", spec := "docsChanges", inPlace := ["internal/bytealg.CountString", "internal/bytealg.IndexByteString", "internal/bytealg.IndexString", "internal/reflectlite.ValueOf", "internal/reflectlite.Swapper", "(internal/reflectlite.Value).Len"], unfollowed := true, recurses := true, named := ["unicode/utf8.first", "unicode/utf8.acceptRanges", "internal/bytealg.MaxLen"], plainKeys := false, apart := false, laid := [("unicode/utf8.acceptRanges", laid_unicode_utf8_acceptRanges), ("unicode/utf8.first", laid_unicode_utf8_first)], narrowed := true }
def DocsChangesUptoSaid : Prop := docsChangesUptoRow.holds Tryz.pinned (OpenSpec.upto docsChangesSpec)

/-- 'codesearchlaw28.DocsApplies', WHERE WHAT IT READS IS OF BULK AT MOST 1048576: true; the input reads as it did. -/
def docsAppliesUptoRow : OpenClaim := { program := "ytcmomegkhoggpaagreatdoor", sum := "3a9c218f9b36de75ea0799e4e4e07476fbcb50c7063aabb7d9ff56e687acd642", func := "codesearch/codesearchlaw28.DocsApplies", spec := "docsApplies", inPlace := ["internal/bytealg.CountString", "internal/bytealg.IndexByteString", "internal/bytealg.IndexString", "internal/reflectlite.ValueOf", "internal/reflectlite.Swapper", "(internal/reflectlite.Value).Len"], unfollowed := true, recurses := true, named := ["unicode/utf8.first", "unicode/utf8.acceptRanges", "internal/bytealg.MaxLen"], plainKeys := false, apart := false, laid := [("unicode/utf8.acceptRanges", laid_unicode_utf8_acceptRanges), ("unicode/utf8.first", laid_unicode_utf8_first)], narrowed := true }
def DocsAppliesUptoSaid : Prop := docsAppliesUptoRow.holds Tryz.pinned (OpenSpec.upto docsAppliesSpec)

/-- 'codesearchlaw28.DocsFinds', WHERE WHAT IT READS IS OF BULK AT MOST 1048576: true; the input reads as it did. -/
def docsFindsUptoRow : OpenClaim := { program := "ytcmomegkhoggpaagreatdoor", sum := "3a9c218f9b36de75ea0799e4e4e07476fbcb50c7063aabb7d9ff56e687acd642", func := "codesearch/codesearchlaw28.DocsFinds", spec := "docsFinds", inPlace := ["internal/bytealg.CountString", "internal/bytealg.IndexByteString", "internal/bytealg.IndexString", "internal/reflectlite.ValueOf", "internal/reflectlite.Swapper", "(internal/reflectlite.Value).Len"], unfollowed := true, recurses := true, named := ["unicode/utf8.first", "unicode/utf8.acceptRanges", "internal/bytealg.MaxLen"], plainKeys := false, apart := false, laid := [("unicode/utf8.acceptRanges", laid_unicode_utf8_acceptRanges), ("unicode/utf8.first", laid_unicode_utf8_first)], narrowed := true }
def DocsFindsUptoSaid : Prop := docsFindsUptoRow.holds Tryz.pinned (OpenSpec.upto docsFindsSpec)

/-- 'codesearchlaw28.DocsFollow', WHERE WHAT IT READS IS OF BULK AT MOST 1048576: true; the input reads as it did. -/
def docsFollowUptoRow : OpenClaim := { program := "ytcmomegkhoggpaagreatdoor", sum := "3a9c218f9b36de75ea0799e4e4e07476fbcb50c7063aabb7d9ff56e687acd642", func := "codesearch/codesearchlaw28.DocsFollow", spec := "docsFollow", inPlace := ["internal/bytealg.CountString", "internal/bytealg.IndexByteString", "internal/bytealg.IndexString", "internal/reflectlite.ValueOf", "internal/reflectlite.Swapper", "(internal/reflectlite.Value).Len"], unfollowed := true, recurses := true, named := ["unicode/utf8.first", "unicode/utf8.acceptRanges", "internal/bytealg.MaxLen"], plainKeys := false, apart := false, laid := [("unicode/utf8.acceptRanges", laid_unicode_utf8_acceptRanges), ("unicode/utf8.first", laid_unicode_utf8_first)], narrowed := true }
def DocsFollowUptoSaid : Prop := docsFollowUptoRow.holds Tryz.pinned (OpenSpec.upto docsFollowSpec)

/-- 'codesearchlaw28.DocsBranches', WHERE WHAT IT READS IS OF BULK AT MOST 1048576: true; the input reads as it did. -/
def docsBranchesUptoRow : OpenClaim := { program := "ytcmomegkhoggpaagreatdoor", sum := "3a9c218f9b36de75ea0799e4e4e07476fbcb50c7063aabb7d9ff56e687acd642", func := "codesearch/codesearchlaw28.DocsBranches", spec := "docsBranches", inPlace := ["internal/bytealg.CountString", "internal/bytealg.IndexByteString", "internal/bytealg.IndexString", "internal/reflectlite.ValueOf", "internal/reflectlite.Swapper", "(internal/reflectlite.Value).Len"], unfollowed := true, recurses := true, named := ["unicode/utf8.first", "unicode/utf8.acceptRanges", "internal/bytealg.MaxLen"], plainKeys := false, apart := false, laid := [("unicode/utf8.acceptRanges", laid_unicode_utf8_acceptRanges), ("unicode/utf8.first", laid_unicode_utf8_first)], narrowed := true }
def DocsBranchesUptoSaid : Prop := docsBranchesUptoRow.holds Tryz.pinned (OpenSpec.upto docsBranchesSpec)

end Rows
end Go.Proofs.YtcmomegkhoggpaaGreatDoor
