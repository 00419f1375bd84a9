/-
  DERIVED. GIVEN WITH THE SEED: THE CARDS: each row of YthdljfognblpbaaGreatDoorRows.lean that lists a variable, with what it lists TIED to the program's text (the seventh form; the later family's looks); each row that meets fmt, with fmt's text TOLD by the authors' own Lean function (tested against real Go, not proved from fmt's source: count such statements apart). THE CARD IS WHAT COUNTS. Prove the row's statement (the work); the ties are given (YthdljfognblpbaaGreatDoorTie.lean); close each card by the builder's one call (the guide's Derived/Test/ToyasCard.lean, 'card_holds'). Laid BY PROGRAM, IN A SANDBOX (cutbox-door.mjs). By AI agents, Wed Nov 11 2026. No macro, syntax, notation, axiom, sorry.
-/
import Derived.Test.YthdljfognblpbaaGreatDoorRows
import GoSem.ClaimSeven
namespace Go.Proofs.YthdljfognblpbaaGreatDoor
namespace Rows

/-- THE TIED CARD OF 'codesearchlaw31.CompactMerges'. -/
def compactMergesCard : Claim7 := { stood := { row := compactMergesRow, standIns := [], harness := (true, "95a4f51a7d7e1c7dac4965b29fd4b3539df527b91d7d7484a4372482ace03e87"), looks := false }, kinds := [], alts := [], laidByText := true, laidKinds := [.data, .pinned], laidTests := true, laidLooks := .later }
def CompactMergesCardSaid : Prop := Claim7.holds Tryz.pinned (.plain (OpenSpec.ofChange compactMergesSpec)) compactMergesCard

/-- THE TIED CARD OF 'codesearchlaw31.CompactFilters'. -/
def compactFiltersCard : Claim7 := { stood := { row := compactFiltersRow, standIns := [], harness := (true, "95a4f51a7d7e1c7dac4965b29fd4b3539df527b91d7d7484a4372482ace03e87"), looks := false }, kinds := [], alts := [], laidByText := true, laidKinds := [.data, .pinned], laidTests := true, laidLooks := .later }
def CompactFiltersCardSaid : Prop := Claim7.holds Tryz.pinned (.plain (OpenSpec.ofChange compactFiltersSpec)) compactFiltersCard

/-- THE TIED CARD OF 'codesearchlaw31.CompactPicks'. -/
def compactPicksCard : Claim7 := { stood := { row := compactPicksRow, standIns := [], harness := (true, "95a4f51a7d7e1c7dac4965b29fd4b3539df527b91d7d7484a4372482ace03e87"), looks := false }, kinds := [], alts := [], laidByText := true, laidKinds := [.data, .pinned], laidTests := true, laidLooks := .later }
def CompactPicksCardSaid : Prop := Claim7.holds Tryz.pinned (.plain (OpenSpec.ofChange compactPicksSpec)) compactPicksCard

/-- THE TIED CARD OF 'codesearchlaw31.CompactUnions'. -/
def compactUnionsCard : Claim7 := { stood := { row := compactUnionsRow, standIns := [], harness := (true, "95a4f51a7d7e1c7dac4965b29fd4b3539df527b91d7d7484a4372482ace03e87"), looks := false }, kinds := [], alts := [], laidByText := true, laidKinds := [.data, .pinned], laidTests := true, laidLooks := .later }
def CompactUnionsCardSaid : Prop := Claim7.holds Tryz.pinned (.plain (OpenSpec.ofChange compactUnionsSpec)) compactUnionsCard

/-- THE TIED CARD OF 'codesearchlaw31.CompactParts'. -/
def compactPartsCard : Claim7 := { stood := { row := compactPartsRow, standIns := [], harness := (true, "95a4f51a7d7e1c7dac4965b29fd4b3539df527b91d7d7484a4372482ace03e87"), looks := false }, kinds := [], alts := [], laidByText := true, laidKinds := [.data, .pinned], laidTests := true, laidLooks := .later }
def CompactPartsCardSaid : Prop := Claim7.holds Tryz.pinned (.plain (OpenSpec.ofChange compactPartsSpec)) compactPartsCard

/-- THE TIED CARD OF 'codesearchlaw31.CompactChoice'. -/
def compactChoiceCard : Claim7 := { stood := { row := compactChoiceRow, standIns := [], harness := (true, "95a4f51a7d7e1c7dac4965b29fd4b3539df527b91d7d7484a4372482ace03e87"), looks := false }, kinds := [], alts := [], laidByText := true, laidKinds := [.data, .pinned], laidTests := true, laidLooks := .later }
def CompactChoiceCardSaid : Prop := Claim7.holds Tryz.pinned (.plain (OpenSpec.ofChange compactChoiceSpec)) compactChoiceCard

/-- THE TIED CARD OF 'codesearchlaw31.CompactRebuilds'. -/
def compactRebuildsCard : Claim7 := { stood := { row := compactRebuildsRow, standIns := [], harness := (true, "95a4f51a7d7e1c7dac4965b29fd4b3539df527b91d7d7484a4372482ace03e87"), looks := false }, kinds := [], alts := [], laidByText := true, laidKinds := [.data, .pinned], laidTests := true, laidLooks := .later }
def CompactRebuildsCardSaid : Prop := Claim7.holds Tryz.pinned (.plain (OpenSpec.ofChange compactRebuildsSpec)) compactRebuildsCard

/-- THE SECOND FORM's CARD OF 'codesearchlaw31.CompactMerges'. -/
def compactMergesUptoCard : Claim7 := { stood := { row := compactMergesUptoRow, standIns := [], harness := (true, "95a4f51a7d7e1c7dac4965b29fd4b3539df527b91d7d7484a4372482ace03e87"), looks := false }, kinds := [], alts := [], laidByText := true, laidKinds := [.data, .pinned], laidTests := true, laidLooks := .later }
def CompactMergesUptoCardSaid : Prop := Claim7.holds Tryz.pinned (.plain (OpenSpec.upto compactMergesSpec)) compactMergesUptoCard

/-- THE SECOND FORM's CARD OF 'codesearchlaw31.CompactFilters'. -/
def compactFiltersUptoCard : Claim7 := { stood := { row := compactFiltersUptoRow, standIns := [], harness := (true, "95a4f51a7d7e1c7dac4965b29fd4b3539df527b91d7d7484a4372482ace03e87"), looks := false }, kinds := [], alts := [], laidByText := true, laidKinds := [.data, .pinned], laidTests := true, laidLooks := .later }
def CompactFiltersUptoCardSaid : Prop := Claim7.holds Tryz.pinned (.plain (OpenSpec.upto compactFiltersSpec)) compactFiltersUptoCard

/-- THE SECOND FORM's CARD OF 'codesearchlaw31.CompactPicks'. -/
def compactPicksUptoCard : Claim7 := { stood := { row := compactPicksUptoRow, standIns := [], harness := (true, "95a4f51a7d7e1c7dac4965b29fd4b3539df527b91d7d7484a4372482ace03e87"), looks := false }, kinds := [], alts := [], laidByText := true, laidKinds := [.data, .pinned], laidTests := true, laidLooks := .later }
def CompactPicksUptoCardSaid : Prop := Claim7.holds Tryz.pinned (.plain (OpenSpec.upto compactPicksSpec)) compactPicksUptoCard

/-- THE SECOND FORM's CARD OF 'codesearchlaw31.CompactUnions'. -/
def compactUnionsUptoCard : Claim7 := { stood := { row := compactUnionsUptoRow, standIns := [], harness := (true, "95a4f51a7d7e1c7dac4965b29fd4b3539df527b91d7d7484a4372482ace03e87"), looks := false }, kinds := [], alts := [], laidByText := true, laidKinds := [.data, .pinned], laidTests := true, laidLooks := .later }
def CompactUnionsUptoCardSaid : Prop := Claim7.holds Tryz.pinned (.plain (OpenSpec.upto compactUnionsSpec)) compactUnionsUptoCard

/-- THE SECOND FORM's CARD OF 'codesearchlaw31.CompactParts'. -/
def compactPartsUptoCard : Claim7 := { stood := { row := compactPartsUptoRow, standIns := [], harness := (true, "95a4f51a7d7e1c7dac4965b29fd4b3539df527b91d7d7484a4372482ace03e87"), looks := false }, kinds := [], alts := [], laidByText := true, laidKinds := [.data, .pinned], laidTests := true, laidLooks := .later }
def CompactPartsUptoCardSaid : Prop := Claim7.holds Tryz.pinned (.plain (OpenSpec.upto compactPartsSpec)) compactPartsUptoCard

/-- THE SECOND FORM's CARD OF 'codesearchlaw31.CompactChoice'. -/
def compactChoiceUptoCard : Claim7 := { stood := { row := compactChoiceUptoRow, standIns := [], harness := (true, "95a4f51a7d7e1c7dac4965b29fd4b3539df527b91d7d7484a4372482ace03e87"), looks := false }, kinds := [], alts := [], laidByText := true, laidKinds := [.data, .pinned], laidTests := true, laidLooks := .later }
def CompactChoiceUptoCardSaid : Prop := Claim7.holds Tryz.pinned (.plain (OpenSpec.upto compactChoiceSpec)) compactChoiceUptoCard

/-- THE SECOND FORM's CARD OF 'codesearchlaw31.CompactRebuilds'. -/
def compactRebuildsUptoCard : Claim7 := { stood := { row := compactRebuildsUptoRow, standIns := [], harness := (true, "95a4f51a7d7e1c7dac4965b29fd4b3539df527b91d7d7484a4372482ace03e87"), looks := false }, kinds := [], alts := [], laidByText := true, laidKinds := [.data, .pinned], laidTests := true, laidLooks := .later }
def CompactRebuildsUptoCardSaid : Prop := Claim7.holds Tryz.pinned (.plain (OpenSpec.upto compactRebuildsSpec)) compactRebuildsUptoCard
end Rows
end Go.Proofs.YthdljfognblpbaaGreatDoor
