/-
  DERIVED. GIVEN WITH THE SEED: THE CARDS: each row of YtcmomegkhoggpaaGreatDoorRows.lean that lists a variable, with what it lists TIED to the program's text (the seventh form; the later family's looks); each row that meets fmt, with fmt's text TOLD by the authors' own Lean function (tested against real Go, not proved from fmt's source: count such statements apart). THE CARD IS WHAT COUNTS. Prove the row's statement (the work); the ties are given (YtcmomegkhoggpaaGreatDoorTie.lean); close each card by the builder's one call (the guide's Derived/Test/ToyasCard.lean, 'card_holds'). Laid BY PROGRAM, IN A SANDBOX (cutbox-door.mjs). By AI agents, Wed Nov 11 2026. No macro, syntax, notation, axiom, sorry.
-/
import Derived.Test.YtcmomegkhoggpaaGreatDoorRows
import GoSem.ClaimSeven
namespace Go.Proofs.YtcmomegkhoggpaaGreatDoor
namespace Rows

/-- THE TIED CARD OF 'codesearchlaw28.DocsRights'. -/
def docsRightsCard : Claim7 := { stood := { row := docsRightsRow, standIns := [], harness := (true, "efbebab041a30e46413da4ac13bbdeefd5b6a85fd5feff56c49287c3911abb07"), looks := false }, kinds := [], alts := [], laidByText := true, laidKinds := [.data, .pinned], laidTests := true, laidLooks := .later }
def DocsRightsCardSaid : Prop := Claim7.holds Tryz.pinned (.plain (OpenSpec.ofChange docsRightsSpec)) docsRightsCard

/-- THE TIED CARD OF 'codesearchlaw28.DocsOf'. -/
def docsOfCard : Claim7 := { stood := { row := docsOfRow, standIns := [], harness := (true, "efbebab041a30e46413da4ac13bbdeefd5b6a85fd5feff56c49287c3911abb07"), looks := false }, kinds := [], alts := [], laidByText := true, laidKinds := [.data, .pinned], laidTests := true, laidLooks := .later }
def DocsOfCardSaid : Prop := Claim7.holds Tryz.pinned (.plain (OpenSpec.ofChange docsOfSpec)) docsOfCard

/-- THE TIED CARD OF 'codesearchlaw28.DocsChanges'. -/
def docsChangesCard : Claim7 := { stood := { row := docsChangesRow, standIns := [], harness := (true, "efbebab041a30e46413da4ac13bbdeefd5b6a85fd5feff56c49287c3911abb07"), looks := false }, kinds := [], alts := [], laidByText := true, laidKinds := [.data, .pinned], laidTests := true, laidLooks := .later }
def DocsChangesCardSaid : Prop := Claim7.holds Tryz.pinned (.plain (OpenSpec.ofChange docsChangesSpec)) docsChangesCard

/-- THE TIED CARD OF 'codesearchlaw28.DocsApplies'. -/
def docsAppliesCard : Claim7 := { stood := { row := docsAppliesRow, standIns := [], harness := (true, "efbebab041a30e46413da4ac13bbdeefd5b6a85fd5feff56c49287c3911abb07"), looks := false }, kinds := [], alts := [], laidByText := true, laidKinds := [.data, .pinned], laidTests := true, laidLooks := .later }
def DocsAppliesCardSaid : Prop := Claim7.holds Tryz.pinned (.plain (OpenSpec.ofChange docsAppliesSpec)) docsAppliesCard

/-- THE TIED CARD OF 'codesearchlaw28.DocsFinds'. -/
def docsFindsCard : Claim7 := { stood := { row := docsFindsRow, standIns := [], harness := (true, "efbebab041a30e46413da4ac13bbdeefd5b6a85fd5feff56c49287c3911abb07"), looks := false }, kinds := [], alts := [], laidByText := true, laidKinds := [.data, .pinned], laidTests := true, laidLooks := .later }
def DocsFindsCardSaid : Prop := Claim7.holds Tryz.pinned (.plain (OpenSpec.ofChange docsFindsSpec)) docsFindsCard

/-- THE TIED CARD OF 'codesearchlaw28.DocsFollow'. -/
def docsFollowCard : Claim7 := { stood := { row := docsFollowRow, standIns := [], harness := (true, "efbebab041a30e46413da4ac13bbdeefd5b6a85fd5feff56c49287c3911abb07"), looks := false }, kinds := [], alts := [], laidByText := true, laidKinds := [.data, .pinned], laidTests := true, laidLooks := .later }
def DocsFollowCardSaid : Prop := Claim7.holds Tryz.pinned (.plain (OpenSpec.ofChange docsFollowSpec)) docsFollowCard

/-- THE TIED CARD OF 'codesearchlaw28.DocsBranches'. -/
def docsBranchesCard : Claim7 := { stood := { row := docsBranchesRow, standIns := [], harness := (true, "efbebab041a30e46413da4ac13bbdeefd5b6a85fd5feff56c49287c3911abb07"), looks := false }, kinds := [], alts := [], laidByText := true, laidKinds := [.data, .pinned], laidTests := true, laidLooks := .later }
def DocsBranchesCardSaid : Prop := Claim7.holds Tryz.pinned (.plain (OpenSpec.ofChange docsBranchesSpec)) docsBranchesCard

/-- THE SECOND FORM's CARD OF 'codesearchlaw28.DocsRights'. -/
def docsRightsUptoCard : Claim7 := { stood := { row := docsRightsUptoRow, standIns := [], harness := (true, "efbebab041a30e46413da4ac13bbdeefd5b6a85fd5feff56c49287c3911abb07"), looks := false }, kinds := [], alts := [], laidByText := true, laidKinds := [.data, .pinned], laidTests := true, laidLooks := .later }
def DocsRightsUptoCardSaid : Prop := Claim7.holds Tryz.pinned (.plain (OpenSpec.upto docsRightsSpec)) docsRightsUptoCard

/-- THE SECOND FORM's CARD OF 'codesearchlaw28.DocsOf'. -/
def docsOfUptoCard : Claim7 := { stood := { row := docsOfUptoRow, standIns := [], harness := (true, "efbebab041a30e46413da4ac13bbdeefd5b6a85fd5feff56c49287c3911abb07"), looks := false }, kinds := [], alts := [], laidByText := true, laidKinds := [.data, .pinned], laidTests := true, laidLooks := .later }
def DocsOfUptoCardSaid : Prop := Claim7.holds Tryz.pinned (.plain (OpenSpec.upto docsOfSpec)) docsOfUptoCard

/-- THE SECOND FORM's CARD OF 'codesearchlaw28.DocsChanges'. -/
def docsChangesUptoCard : Claim7 := { stood := { row := docsChangesUptoRow, standIns := [], harness := (true, "efbebab041a30e46413da4ac13bbdeefd5b6a85fd5feff56c49287c3911abb07"), looks := false }, kinds := [], alts := [], laidByText := true, laidKinds := [.data, .pinned], laidTests := true, laidLooks := .later }
def DocsChangesUptoCardSaid : Prop := Claim7.holds Tryz.pinned (.plain (OpenSpec.upto docsChangesSpec)) docsChangesUptoCard

/-- THE SECOND FORM's CARD OF 'codesearchlaw28.DocsApplies'. -/
def docsAppliesUptoCard : Claim7 := { stood := { row := docsAppliesUptoRow, standIns := [], harness := (true, "efbebab041a30e46413da4ac13bbdeefd5b6a85fd5feff56c49287c3911abb07"), looks := false }, kinds := [], alts := [], laidByText := true, laidKinds := [.data, .pinned], laidTests := true, laidLooks := .later }
def DocsAppliesUptoCardSaid : Prop := Claim7.holds Tryz.pinned (.plain (OpenSpec.upto docsAppliesSpec)) docsAppliesUptoCard

/-- THE SECOND FORM's CARD OF 'codesearchlaw28.DocsFinds'. -/
def docsFindsUptoCard : Claim7 := { stood := { row := docsFindsUptoRow, standIns := [], harness := (true, "efbebab041a30e46413da4ac13bbdeefd5b6a85fd5feff56c49287c3911abb07"), looks := false }, kinds := [], alts := [], laidByText := true, laidKinds := [.data, .pinned], laidTests := true, laidLooks := .later }
def DocsFindsUptoCardSaid : Prop := Claim7.holds Tryz.pinned (.plain (OpenSpec.upto docsFindsSpec)) docsFindsUptoCard

/-- THE SECOND FORM's CARD OF 'codesearchlaw28.DocsFollow'. -/
def docsFollowUptoCard : Claim7 := { stood := { row := docsFollowUptoRow, standIns := [], harness := (true, "efbebab041a30e46413da4ac13bbdeefd5b6a85fd5feff56c49287c3911abb07"), looks := false }, kinds := [], alts := [], laidByText := true, laidKinds := [.data, .pinned], laidTests := true, laidLooks := .later }
def DocsFollowUptoCardSaid : Prop := Claim7.holds Tryz.pinned (.plain (OpenSpec.upto docsFollowSpec)) docsFollowUptoCard

/-- THE SECOND FORM's CARD OF 'codesearchlaw28.DocsBranches'. -/
def docsBranchesUptoCard : Claim7 := { stood := { row := docsBranchesUptoRow, standIns := [], harness := (true, "efbebab041a30e46413da4ac13bbdeefd5b6a85fd5feff56c49287c3911abb07"), looks := false }, kinds := [], alts := [], laidByText := true, laidKinds := [.data, .pinned], laidTests := true, laidLooks := .later }
def DocsBranchesUptoCardSaid : Prop := Claim7.holds Tryz.pinned (.plain (OpenSpec.upto docsBranchesSpec)) docsBranchesUptoCard
end Rows
end Go.Proofs.YtcmomegkhoggpaaGreatDoor
