/-
  NARROWER THAN 'FOR EVERY INPUT', by the rows' own cells (each row's printed sentence says how): CompactMerges: laid · CompactFilters: laid · CompactPicks: laid · CompactUnions: laid · CompactParts: laid · CompactChoice: laid · CompactRebuilds: laid.
  DERIVED. THE GIVEN ROWS OF THIS SEAT. 7 by the template 'for every input the law returns true; each argument reads behind the call as it read before'; 0 by the template 'total and deterministic' (their statements: YthdljfognblpbaaGreatDoorTotals.lean).
  GIVEN WITH THE SEED: the statements are not yours to turn. If you find one false, say at which input.
  Laid BY PROGRAM, IN A SANDBOX (cutbox-rows.mjs): the forced cells as the released guide's own fill.sh prints them over the translation 3c34fe37ec416b07… (all of the seat's roots in one cut). By AI agents, Wed Nov 11 2026. No macro, syntax, notation, axiom, sorry.
-/
import Derived.Test.YthdljfognblpbaaGreatDoorChecked
import GoSem.PinnedTables
import GoSem.Claim
import GoSem.ClaimJoined
import GoSem.ClaimMapViews
import Derived.JoinedTies
import Derived.KernelRfl
namespace Go.Proofs.YthdljfognblpbaaGreatDoor
/- THE CELL 'sum', in the pinned program and in every row, IS THE sha256 OF THE DUMP (.gsa) THAT YthdljfognblpbaaGreatDoorProg.lean LOADS. Nothing in Lean hashes anything: it is a label: what it is worth is what the hold of that sum in a sandbox is worth. -/
noncomputable def Tryz.pinned : Pinned := { name := "ythdljfognblpbaagreatdoor", sum := "3c34fe37ec416b07763a32408a22cb45a38fdb9020ce6eeca561a17a6006682d", checked := Tryz.checked }
namespace Rows
def none {H : Type} : Left H := { results := [], args := [] }

/- WHAT THE LISTED PACKAGE-LEVEL VARIABLES READ AS WHEN THE CALL BEGINS. Each datum BY PROGRAM (the guide's laid-datum.mjs) off the statement by which the dump's own 'gosem.cut.vars' lays the variable. In a bare row this is a premise. The card (YthdljfognblpbaaGreatDoorCards.lean) ties it to the program's text. -/
def laid_unicode_utf8_acceptRanges {H : Type} : DataW H := .agg [.agg [.lit (.int .u8 128), .lit (.int .u8 191)], .agg [.lit (.int .u8 160), .lit (.int .u8 191)], .agg [.lit (.int .u8 128), .lit (.int .u8 159)], .agg [.lit (.int .u8 144), .lit (.int .u8 191)], .agg [.lit (.int .u8 128), .lit (.int .u8 143)], .agg [.lit (.int .u8 0), .lit (.int .u8 0)], .agg [.lit (.int .u8 0), .lit (.int .u8 0)], .agg [.lit (.int .u8 0), .lit (.int .u8 0)], .agg [.lit (.int .u8 0), .lit (.int .u8 0)], .agg [.lit (.int .u8 0), .lit (.int .u8 0)], .agg [.lit (.int .u8 0), .lit (.int .u8 0)], .agg [.lit (.int .u8 0), .lit (.int .u8 0)], .agg [.lit (.int .u8 0), .lit (.int .u8 0)], .agg [.lit (.int .u8 0), .lit (.int .u8 0)], .agg [.lit (.int .u8 0), .lit (.int .u8 0)], .agg [.lit (.int .u8 0), .lit (.int .u8 0)]]
/-- One of Go's own tables, pinned by name: the form's constant. -/
def laid_unicode_utf8_first : DataW Unit := Go.Pinned.utf8First

/-- 'codesearchlaw31.CompactMerges': WHATEVER THE INPUT: true; the input reads as it did. -/
def compactMergesSpec : ChangeSpec := { name := "compactMerges", fn := fun _ => fun
  | [d1, d2] => { results := [.lit (.bool true)], args := [d1, d2] }
  | _ => none }
def compactMergesRow : OpenClaim := { program := "ythdljfognblpbaagreatdoor", sum := "3c34fe37ec416b07763a32408a22cb45a38fdb9020ce6eeca561a17a6006682d", func := "codesearch/codesearchlaw31.CompactMerges", spec := "compactMerges", inPlace := ["internal/reflectlite.ValueOf", "internal/reflectlite.Swapper", "(internal/reflectlite.Value).Len", "internal/bytealg.CountString", "internal/bytealg.IndexByteString", "internal/bytealg.IndexString"], unfollowed := true, recurses := true, named := ["unicode/utf8.first", "unicode/utf8.acceptRanges", "internal/bytealg.MaxLen"], plainKeys := false, apart := false, laid := [("unicode/utf8.acceptRanges", laid_unicode_utf8_acceptRanges), ("unicode/utf8.first", laid_unicode_utf8_first)] }
def CompactMergesSaid : Prop := compactMergesRow.holds Tryz.pinned (OpenSpec.ofChange compactMergesSpec)

/-- ITS FALSE NEIGHBOUR: 'it returns false'. Refute it at one input. -/
def compactMergesWrong : ChangeSpec := { name := "compactMerges", fn := fun _ => fun
  | [d1, d2] => { results := [.lit (.bool false)], args := [d1, d2] }
  | _ => none }
def CompactMergesWrongFalsely : Prop := compactMergesRow.holds Tryz.pinned (OpenSpec.ofChange compactMergesWrong)

/-- 'codesearchlaw31.CompactFilters': WHATEVER THE INPUT: true; the input reads as it did. -/
def compactFiltersSpec : ChangeSpec := { name := "compactFilters", fn := fun _ => fun
  | [d1, d2] => { results := [.lit (.bool true)], args := [d1, d2] }
  | _ => none }
def compactFiltersRow : OpenClaim := { program := "ythdljfognblpbaagreatdoor", sum := "3c34fe37ec416b07763a32408a22cb45a38fdb9020ce6eeca561a17a6006682d", func := "codesearch/codesearchlaw31.CompactFilters", spec := "compactFilters", inPlace := ["internal/reflectlite.ValueOf", "internal/reflectlite.Swapper", "(internal/reflectlite.Value).Len", "internal/bytealg.CountString", "internal/bytealg.IndexByteString", "internal/bytealg.IndexString"], unfollowed := true, recurses := true, named := ["unicode/utf8.first", "unicode/utf8.acceptRanges", "internal/bytealg.MaxLen"], plainKeys := false, apart := false, laid := [("unicode/utf8.acceptRanges", laid_unicode_utf8_acceptRanges), ("unicode/utf8.first", laid_unicode_utf8_first)] }
def CompactFiltersSaid : Prop := compactFiltersRow.holds Tryz.pinned (OpenSpec.ofChange compactFiltersSpec)

/-- ITS FALSE NEIGHBOUR: 'it returns false'. Refute it at one input. -/
def compactFiltersWrong : ChangeSpec := { name := "compactFilters", fn := fun _ => fun
  | [d1, d2] => { results := [.lit (.bool false)], args := [d1, d2] }
  | _ => none }
def CompactFiltersWrongFalsely : Prop := compactFiltersRow.holds Tryz.pinned (OpenSpec.ofChange compactFiltersWrong)

/-- 'codesearchlaw31.CompactPicks': WHATEVER THE INPUT: true; the input reads as it did. -/
def compactPicksSpec : ChangeSpec := { name := "compactPicks", fn := fun _ => fun
  | [d] => { results := [.lit (.bool true)], args := [d] }
  | _ => none }
def compactPicksRow : OpenClaim := { program := "ythdljfognblpbaagreatdoor", sum := "3c34fe37ec416b07763a32408a22cb45a38fdb9020ce6eeca561a17a6006682d", func := "codesearch/codesearchlaw31.CompactPicks", spec := "compactPicks", inPlace := ["internal/reflectlite.ValueOf", "internal/reflectlite.Swapper", "(internal/reflectlite.Value).Len", "internal/bytealg.CountString", "internal/bytealg.IndexByteString", "internal/bytealg.IndexString"], unfollowed := true, recurses := true, named := ["unicode/utf8.first", "unicode/utf8.acceptRanges", "internal/bytealg.MaxLen"], plainKeys := false, apart := false, laid := [("unicode/utf8.acceptRanges", laid_unicode_utf8_acceptRanges), ("unicode/utf8.first", laid_unicode_utf8_first)] }
def CompactPicksSaid : Prop := compactPicksRow.holds Tryz.pinned (OpenSpec.ofChange compactPicksSpec)

/-- ITS FALSE NEIGHBOUR: 'it returns false'. Refute it at one input. -/
def compactPicksWrong : ChangeSpec := { name := "compactPicks", fn := fun _ => fun
  | [d] => { results := [.lit (.bool false)], args := [d] }
  | _ => none }
def CompactPicksWrongFalsely : Prop := compactPicksRow.holds Tryz.pinned (OpenSpec.ofChange compactPicksWrong)

/-- 'codesearchlaw31.CompactUnions': WHATEVER THE INPUT: true; the input reads as it did. -/
def compactUnionsSpec : ChangeSpec := { name := "compactUnions", fn := fun _ => fun
  | [d1, d2] => { results := [.lit (.bool true)], args := [d1, d2] }
  | _ => none }
def compactUnionsRow : OpenClaim := { program := "ythdljfognblpbaagreatdoor", sum := "3c34fe37ec416b07763a32408a22cb45a38fdb9020ce6eeca561a17a6006682d", func := "codesearch/codesearchlaw31.CompactUnions", spec := "compactUnions", inPlace := ["internal/reflectlite.ValueOf", "internal/reflectlite.Swapper", "(internal/reflectlite.Value).Len", "internal/bytealg.CountString", "internal/bytealg.IndexByteString", "internal/bytealg.IndexString"], unfollowed := true, recurses := true, named := ["unicode/utf8.first", "unicode/utf8.acceptRanges", "internal/bytealg.MaxLen"], plainKeys := false, apart := false, laid := [("unicode/utf8.acceptRanges", laid_unicode_utf8_acceptRanges), ("unicode/utf8.first", laid_unicode_utf8_first)] }
def CompactUnionsSaid : Prop := compactUnionsRow.holds Tryz.pinned (OpenSpec.ofChange compactUnionsSpec)

/-- ITS FALSE NEIGHBOUR: 'it returns false'. Refute it at one input. -/
def compactUnionsWrong : ChangeSpec := { name := "compactUnions", fn := fun _ => fun
  | [d1, d2] => { results := [.lit (.bool false)], args := [d1, d2] }
  | _ => none }
def CompactUnionsWrongFalsely : Prop := compactUnionsRow.holds Tryz.pinned (OpenSpec.ofChange compactUnionsWrong)

/-- 'codesearchlaw31.CompactParts': WHATEVER THE INPUT: true; the input reads as it did. -/
def compactPartsSpec : ChangeSpec := { name := "compactParts", fn := fun _ => fun
  | [d1, d2, d3] => { results := [.lit (.bool true)], args := [d1, d2, d3] }
  | _ => none }
def compactPartsRow : OpenClaim := { program := "ythdljfognblpbaagreatdoor", sum := "3c34fe37ec416b07763a32408a22cb45a38fdb9020ce6eeca561a17a6006682d", func := "codesearch/codesearchlaw31.CompactParts", spec := "compactParts", inPlace := ["internal/reflectlite.ValueOf", "internal/reflectlite.Swapper", "(internal/reflectlite.Value).Len", "internal/bytealg.CountString", "internal/bytealg.IndexByteString", "internal/bytealg.IndexString"], unfollowed := true, recurses := true, named := ["unicode/utf8.first", "unicode/utf8.acceptRanges", "internal/bytealg.MaxLen"], plainKeys := false, apart := false, laid := [("unicode/utf8.acceptRanges", laid_unicode_utf8_acceptRanges), ("unicode/utf8.first", laid_unicode_utf8_first)] }
def CompactPartsSaid : Prop := compactPartsRow.holds Tryz.pinned (OpenSpec.ofChange compactPartsSpec)

/-- ITS FALSE NEIGHBOUR: 'it returns false'. Refute it at one input. -/
def compactPartsWrong : ChangeSpec := { name := "compactParts", fn := fun _ => fun
  | [d1, d2, d3] => { results := [.lit (.bool false)], args := [d1, d2, d3] }
  | _ => none }
def CompactPartsWrongFalsely : Prop := compactPartsRow.holds Tryz.pinned (OpenSpec.ofChange compactPartsWrong)

/-- 'codesearchlaw31.CompactChoice': WHATEVER THE INPUT: true; the input reads as it did. -/
def compactChoiceSpec : ChangeSpec := { name := "compactChoice", fn := fun _ => fun
  | [d] => { results := [.lit (.bool true)], args := [d] }
  | _ => none }
def compactChoiceRow : OpenClaim := { program := "ythdljfognblpbaagreatdoor", sum := "3c34fe37ec416b07763a32408a22cb45a38fdb9020ce6eeca561a17a6006682d", func := "codesearch/codesearchlaw31.CompactChoice", spec := "compactChoice", inPlace := ["internal/reflectlite.ValueOf", "internal/reflectlite.Swapper", "(internal/reflectlite.Value).Len", "internal/bytealg.CountString", "internal/bytealg.IndexByteString", "internal/bytealg.IndexString"], unfollowed := true, recurses := true, named := ["unicode/utf8.first", "unicode/utf8.acceptRanges", "internal/bytealg.MaxLen"], plainKeys := false, apart := false, laid := [("unicode/utf8.acceptRanges", laid_unicode_utf8_acceptRanges), ("unicode/utf8.first", laid_unicode_utf8_first)] }
def CompactChoiceSaid : Prop := compactChoiceRow.holds Tryz.pinned (OpenSpec.ofChange compactChoiceSpec)

/-- ITS FALSE NEIGHBOUR: 'it returns false'. Refute it at one input. -/
def compactChoiceWrong : ChangeSpec := { name := "compactChoice", fn := fun _ => fun
  | [d] => { results := [.lit (.bool false)], args := [d] }
  | _ => none }
def CompactChoiceWrongFalsely : Prop := compactChoiceRow.holds Tryz.pinned (OpenSpec.ofChange compactChoiceWrong)

/-- 'codesearchlaw31.CompactRebuilds': WHATEVER THE INPUT: true; the input reads as it did. -/
def compactRebuildsSpec : ChangeSpec := { name := "compactRebuilds", fn := fun _ => fun
  | [d1, d2, d3] => { results := [.lit (.bool true)], args := [d1, d2, d3] }
  | _ => none }
def compactRebuildsRow : OpenClaim := { program := "ythdljfognblpbaagreatdoor", sum := "3c34fe37ec416b07763a32408a22cb45a38fdb9020ce6eeca561a17a6006682d", func := "codesearch/codesearchlaw31.CompactRebuilds", spec := "compactRebuilds", inPlace := ["internal/reflectlite.ValueOf", "internal/reflectlite.Swapper", "(internal/reflectlite.Value).Len", "internal/bytealg.CountString", "internal/bytealg.IndexByteString", "internal/bytealg.IndexString"], unfollowed := true, recurses := true, named := ["unicode/utf8.first", "unicode/utf8.acceptRanges", "internal/bytealg.MaxLen"], plainKeys := false, apart := false, laid := [("unicode/utf8.acceptRanges", laid_unicode_utf8_acceptRanges), ("unicode/utf8.first", laid_unicode_utf8_first)] }
def CompactRebuildsSaid : Prop := compactRebuildsRow.holds Tryz.pinned (OpenSpec.ofChange compactRebuildsSpec)

/-- ITS FALSE NEIGHBOUR: 'it returns false'. Refute it at one input. -/
def compactRebuildsWrong : ChangeSpec := { name := "compactRebuilds", fn := fun _ => fun
  | [d1, d2, d3] => { results := [.lit (.bool false)], args := [d1, d2, d3] }
  | _ => none }
def CompactRebuildsWrongFalsely : Prop := compactRebuildsRow.holds Tryz.pinned (OpenSpec.ofChange compactRebuildsWrong)

/- THE SECOND FORM. 'bulk': how many values and letters a reading holds, each counted each time it is reached (what is shared counts as often as it is met; a slice's spare places count too). A statement '..UptoSaid' is the law's where the arguments, and the package variables that the reading takes, are together of bulk at most 1048576: NARROWER than '..Said'. Prove '..Said' where nothing that the law and all that it calls make is longer than what came in: it says more and counts as full. Else prove '..UptoSaid'. A law counts once. -/
mutual
def uptoBulk {H : Type} : DataW H → Nat
  | .lit (.string bytes) => bytes.length + 1
  | .lit _ => 1
  | .nil => 1
  | .ptr d => uptoBulk d + 1
  | .slice elems spare => uptoBulkAll elems + uptoBulkAll spare + 1
  | .agg parts => uptoBulkAll parts + 1
  | .iface _ d => uptoBulk d + 1
  | .map entries => uptoBulkEntries entries + 1
  | .held _ => 1
def uptoBulkAll {H : Type} : List (DataW H) → Nat
  | [] => 0
  | d :: r => uptoBulk d + uptoBulkAll r
def uptoBulkEntries {H : Type} : List (Lit × DataW H) → Nat
  | [] => 0
  | x :: r => uptoBulkEntry x + uptoBulkEntries r
def uptoBulkEntry {H : Type} : Lit × DataW H → Nat
  | (.string bytes, d) => bytes.length + uptoBulk d + 1
  | (_, d) => uptoBulk d + 1
 end
def uptoSmall : (H : Type) → List (DataW H) → Bool := fun _ ds => decide (uptoBulkAll ds ≤ 1048576)
def OpenSpec.upto (s : _root_.Go.ChangeSpec) : _root_.Go.OpenSpec := { _root_.Go.OpenSpec.ofChange s with cond := some uptoSmall }

/-- 'codesearchlaw31.CompactMerges', WHERE WHAT IT READS IS OF BULK AT MOST 1048576: true; the input reads as it did. -/
def compactMergesUptoRow : OpenClaim := { program := "ythdljfognblpbaagreatdoor", sum := "3c34fe37ec416b07763a32408a22cb45a38fdb9020ce6eeca561a17a6006682d", func := "codesearch/codesearchlaw31.CompactMerges", spec := "compactMerges", inPlace := ["internal/reflectlite.ValueOf", "internal/reflectlite.Swapper", "(internal/reflectlite.Value).Len", "internal/bytealg.CountString", "internal/bytealg.IndexByteString", "internal/bytealg.IndexString"], unfollowed := true, recurses := true, named := ["unicode/utf8.first", "unicode/utf8.acceptRanges", "internal/bytealg.MaxLen"], plainKeys := false, apart := false, laid := [("unicode/utf8.acceptRanges", laid_unicode_utf8_acceptRanges), ("unicode/utf8.first", laid_unicode_utf8_first)], narrowed := true }
def CompactMergesUptoSaid : Prop := compactMergesUptoRow.holds Tryz.pinned (OpenSpec.upto compactMergesSpec)

/-- 'codesearchlaw31.CompactFilters', WHERE WHAT IT READS IS OF BULK AT MOST 1048576: true; the input reads as it did. -/
def compactFiltersUptoRow : OpenClaim := { program := "ythdljfognblpbaagreatdoor", sum := "3c34fe37ec416b07763a32408a22cb45a38fdb9020ce6eeca561a17a6006682d", func := "codesearch/codesearchlaw31.CompactFilters", spec := "compactFilters", inPlace := ["internal/reflectlite.ValueOf", "internal/reflectlite.Swapper", "(internal/reflectlite.Value).Len", "internal/bytealg.CountString", "internal/bytealg.IndexByteString", "internal/bytealg.IndexString"], unfollowed := true, recurses := true, named := ["unicode/utf8.first", "unicode/utf8.acceptRanges", "internal/bytealg.MaxLen"], plainKeys := false, apart := false, laid := [("unicode/utf8.acceptRanges", laid_unicode_utf8_acceptRanges), ("unicode/utf8.first", laid_unicode_utf8_first)], narrowed := true }
def CompactFiltersUptoSaid : Prop := compactFiltersUptoRow.holds Tryz.pinned (OpenSpec.upto compactFiltersSpec)

/-- 'codesearchlaw31.CompactPicks', WHERE WHAT IT READS IS OF BULK AT MOST 1048576: true; the input reads as it did. -/
def compactPicksUptoRow : OpenClaim := { program := "ythdljfognblpbaagreatdoor", sum := "3c34fe37ec416b07763a32408a22cb45a38fdb9020ce6eeca561a17a6006682d", func := "codesearch/codesearchlaw31.CompactPicks", spec := "compactPicks", inPlace := ["internal/reflectlite.ValueOf", "internal/reflectlite.Swapper", "(internal/reflectlite.Value).Len", "internal/bytealg.CountString", "internal/bytealg.IndexByteString", "internal/bytealg.IndexString"], unfollowed := true, recurses := true, named := ["unicode/utf8.first", "unicode/utf8.acceptRanges", "internal/bytealg.MaxLen"], plainKeys := false, apart := false, laid := [("unicode/utf8.acceptRanges", laid_unicode_utf8_acceptRanges), ("unicode/utf8.first", laid_unicode_utf8_first)], narrowed := true }
def CompactPicksUptoSaid : Prop := compactPicksUptoRow.holds Tryz.pinned (OpenSpec.upto compactPicksSpec)

/-- 'codesearchlaw31.CompactUnions', WHERE WHAT IT READS IS OF BULK AT MOST 1048576: true; the input reads as it did. -/
def compactUnionsUptoRow : OpenClaim := { program := "ythdljfognblpbaagreatdoor", sum := "3c34fe37ec416b07763a32408a22cb45a38fdb9020ce6eeca561a17a6006682d", func := "codesearch/codesearchlaw31.CompactUnions", spec := "compactUnions", inPlace := ["internal/reflectlite.ValueOf", "internal/reflectlite.Swapper", "(internal/reflectlite.Value).Len", "internal/bytealg.CountString", "internal/bytealg.IndexByteString", "internal/bytealg.IndexString"], unfollowed := true, recurses := true, named := ["unicode/utf8.first", "unicode/utf8.acceptRanges", "internal/bytealg.MaxLen"], plainKeys := false, apart := false, laid := [("unicode/utf8.acceptRanges", laid_unicode_utf8_acceptRanges), ("unicode/utf8.first", laid_unicode_utf8_first)], narrowed := true }
def CompactUnionsUptoSaid : Prop := compactUnionsUptoRow.holds Tryz.pinned (OpenSpec.upto compactUnionsSpec)

/-- 'codesearchlaw31.CompactParts', WHERE WHAT IT READS IS OF BULK AT MOST 1048576: true; the input reads as it did. -/
def compactPartsUptoRow : OpenClaim := { program := "ythdljfognblpbaagreatdoor", sum := "3c34fe37ec416b07763a32408a22cb45a38fdb9020ce6eeca561a17a6006682d", func := "codesearch/codesearchlaw31.CompactParts", spec := "compactParts", inPlace := ["internal/reflectlite.ValueOf", "internal/reflectlite.Swapper", "(internal/reflectlite.Value).Len", "internal/bytealg.CountString", "internal/bytealg.IndexByteString", "internal/bytealg.IndexString"], unfollowed := true, recurses := true, named := ["unicode/utf8.first", "unicode/utf8.acceptRanges", "internal/bytealg.MaxLen"], plainKeys := false, apart := false, laid := [("unicode/utf8.acceptRanges", laid_unicode_utf8_acceptRanges), ("unicode/utf8.first", laid_unicode_utf8_first)], narrowed := true }
def CompactPartsUptoSaid : Prop := compactPartsUptoRow.holds Tryz.pinned (OpenSpec.upto compactPartsSpec)

/-- 'codesearchlaw31.CompactChoice', WHERE WHAT IT READS IS OF BULK AT MOST 1048576: true; the input reads as it did. -/
def compactChoiceUptoRow : OpenClaim := { program := "ythdljfognblpbaagreatdoor", sum := "3c34fe37ec416b07763a32408a22cb45a38fdb9020ce6eeca561a17a6006682d", func := "codesearch/codesearchlaw31.CompactChoice", spec := "compactChoice", inPlace := ["internal/reflectlite.ValueOf", "internal/reflectlite.Swapper", "(internal/reflectlite.Value).Len", "internal/bytealg.CountString", "internal/bytealg.IndexByteString", "internal/bytealg.IndexString"], unfollowed := true, recurses := true, named := ["unicode/utf8.first", "unicode/utf8.acceptRanges", "internal/bytealg.MaxLen"], plainKeys := false, apart := false, laid := [("unicode/utf8.acceptRanges", laid_unicode_utf8_acceptRanges), ("unicode/utf8.first", laid_unicode_utf8_first)], narrowed := true }
def CompactChoiceUptoSaid : Prop := compactChoiceUptoRow.holds Tryz.pinned (OpenSpec.upto compactChoiceSpec)

/-- 'codesearchlaw31.CompactRebuilds', WHERE WHAT IT READS IS OF BULK AT MOST 1048576: true; the input reads as it did. -/
def compactRebuildsUptoRow : OpenClaim := { program := "ythdljfognblpbaagreatdoor", sum := "3c34fe37ec416b07763a32408a22cb45a38fdb9020ce6eeca561a17a6006682d", func := "codesearch/codesearchlaw31.CompactRebuilds", spec := "compactRebuilds", inPlace := ["internal/reflectlite.ValueOf", "internal/reflectlite.Swapper", "(internal/reflectlite.Value).Len", "internal/bytealg.CountString", "internal/bytealg.IndexByteString", "internal/bytealg.IndexString"], unfollowed := true, recurses := true, named := ["unicode/utf8.first", "unicode/utf8.acceptRanges", "internal/bytealg.MaxLen"], plainKeys := false, apart := false, laid := [("unicode/utf8.acceptRanges", laid_unicode_utf8_acceptRanges), ("unicode/utf8.first", laid_unicode_utf8_first)], narrowed := true }
def CompactRebuildsUptoSaid : Prop := compactRebuildsUptoRow.holds Tryz.pinned (OpenSpec.upto compactRebuildsSpec)

end Rows
end Go.Proofs.YthdljfognblpbaaGreatDoor
